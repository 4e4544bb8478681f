/- The rows of a table, rising (values: numbers). -/
import Derived.Test.YtahmnpbfjfllmaaRiseMath
import Derived.Test.YtahmnpbfjfllmaaOwn
import Derived.Test.YtahmnpbfjfllmaaRenew
import Derived.Test.YtahmnpbfjfllmaaLess
import Derived.Shelf.SlSortCmp.WholeK
import Derived.Shelf.SlSortCmp.NoneTotal
import Derived.Shelf.Lay
import Derived.Ground.SlsfProg
namespace Go.Proofs
open Go.Shelf
shelf_lay_g SlLaysF0.n6 Slsf 6 at Try 57 as Try.sortSlot
end Go.Proofs
namespace Go.Proofs.Ytahmnpbfjfllmaa
open Go Go.RowKit

theorem bytes_of_range {w : World} {b o : Nat} {k : List (BitVec 8)} (h : w.rangeAt b o (k.map U8)) : BytesAt w b o k := fun i hi => by
  rw [byteAt_lt hi]
  exact h i _ (by rw [List.getElem?_map, List.getElem?_eq_getElem hi]; rfl)
theorem slot_bytes (w : World) (s : SlotI) (hs : s.key.length = 32) (t : TypeId) : BytesAt (w.alloc (.cells (slotC s).toArray t)) w.heap.size 1 s.key := by
  have r := rangeAt_row (heap_alloc_new w (.cells (slotC s).toArray t))
  have r1 := rangeAt_part r 1 32
  rw [List.toList_toArray, slotC_key hs] at r1
  exact bytes_of_range r1
set_option maxHeartbeats 1000000 in
/-- What the sort asks of two rows. -/
theorem closure_any (x y : KSlot) (W : World) : Calls Try.prog 58 #[.agg (ksC x).toArray, .agg (ksC y).toArray] W fun e w' => e = .returned (.int .i64 (cmpK x y)) ∧ ∃ q os', w' = Sort.grow (W.drewN q) os' := by
  obtain ⟨K, hK⟩ : ∃ K, (ksC x).toArray = K := ⟨_, rfl⟩
  obtain ⟨M, hM⟩ : ∃ M, (ksC y).toArray = M := ⟨_, rfl⟩
  have hb1 := (Below.refl W.heap.size W).alloc (Nat.le_refl _) (.cells K 93)
  have B1 := (slot_bytes W x.1 x.2 93)
  have B2 := slot_bytes (W.alloc (.cells K 93)) y.1 y.2 93
  rw [show (W.alloc (.cells K 93)).heap.size = W.heap.size + 1 by simp] at B2
  rw [show slotC x.1 = ksC x from rfl, hK] at B1
  rw [show slotC y.1 = ksC y from rfl, hM] at B2
  have B1 := B1.below' ((Below.refl _ (W.alloc (.cells K 93))).alloc (Nat.le_refl _) (.cells M 93))
  have CQ := fun n => (compare_any (((W.alloc (.cells K 93)).alloc (.cells M 93)).drewN n) W.heap.size 1 32 (W.heap.size + 1) 1 32 32 x.1.key y.1.key x.2 y.2 B1 B2).mono fun e w' ⟨he, hw⟩ => (⟨he, n, hw.symm⟩ : e = Ending.returned (.int .i64 (cmpK x y)) ∧ ∃ j, w' = ((W.alloc (.cells K 93)).alloc (.cells M 93)).drewN j)
  have hW2 : ∀ n, ∃ q os', ((W.alloc (.cells K 93)).alloc (.cells M 93)).drewN n = Sort.grow (W.drewN q) os' := fun n => ⟨n, #[.cells K 93 (0, 0)] ++ #[.cells M 93 (0, 0)], by rw [Sort.alloc_eq_grow, Sort.alloc_eq_grow, Sort.grow_grow]; rfl⟩
  rw [hK, hM]
  have HW2 := Lib.hid hW2
  clear hK hM B1 B2 hb1 hW2
  generalize cmpK x y = V at *
  go_enter Try.func58, Try.ntmps58
  go_wp2
  generalize (W.alloc (.cells K 93)).alloc (.cells M 93) = w2 at *
  go_quiet (exact CQ _)
  go_wp2
  go_ret
  exact ⟨rfl, HW2.out _⟩
def kslots (L : List SlotI) (h : ∀ x ∈ L, x.key.length = 32) : Array KSlot := (L.attach.map fun x => ⟨x.1, h x.1 x.2⟩).toArray
theorem kslots_list (L : List SlotI) (h : ∀ x ∈ L, x.key.length = 32) : (kslots L h).toList.map (·.1) = L := by
  unfold kslots
  rw [List.toList_toArray, List.map_map]
  exact List.attach_map_subtype_val L
theorem kslots_size (L : List SlotI) (h : ∀ x ∈ L, x.key.length = 32) : (kslots L h).size = L.length := by
  have := congrArg List.length (kslots_list L h)
  rw [List.length_map, Array.length_toList] at this
  exact this
theorem kslots_at (L : List SlotI) (h : ∀ x ∈ L, x.key.length = 32) (i : Nat) (hi : i < L.length) : ((kslots L h)[i]!).1 = L[i] := by
  have hs := kslots_size L h
  rw [getElem!_pos _ i (by omega)]
  have e := kslots_list L h
  have : ((kslots L h).toList.map (·.1))[i]'(by rw [List.length_map, Array.length_toList]; omega) = L[i] := by simp only [e]
  rw [List.getElem_map, Array.getElem_toList] at this
  exact this
/-- The model's words for a row of structs, from ours. -/
theorem holds_rows {w : World} {L : List SlotI} {g : Nat} (h : ∀ x ∈ L, x.key.length = 32) (hr : ∀ i (hi : i < L.length), w.rangeAt g (0 + i * 34) (slotC L[i])) (hf : ∀ o, w.frozen? ⟨g, o, none⟩ = false) : Sort.HoldsK ksC 34 w g 0 (kslots L h) := by
  intro j hj
  rw [Sort.size_flatK, kslots_size] at hj
  refine ⟨?_, hf _⟩
  have hd : j / 34 < L.length := by omega
  have hm : j % 34 < 34 := Nat.mod_lt _ (by decide)
  show w.cell? _ = some ((Sort.flatK ksC 34 (kslots L h))[j]!)
  rw [Sort.get_flatK _ _ _ _ (by rw [kslots_size]; exact hj)]
  have hk := h L[j / 34] (List.getElem_mem hd)
  have e : ksC (kslots L h)[j / 34]! = slotC L[j / 34] := by
    show slotC ((kslots L h)[j / 34]!).1 = _
    rw [kslots_at L h _ hd]
  rw [e, getElem!_pos _ _ (by rw [length_slotC hk]; exact hm)]
  have := hr (j / 34) hd (j % 34) _ (List.getElem?_eq_getElem (by rw [length_slotC hk]; exact hm))
  rw [show 0 + j / 34 * 34 + j % 34 = 0 + j by omega] at this
  exact this
/-- .. and back. -/
theorem rows_holds {w : World} {d : Array KSlot} {g : Nat} (h : Sort.HoldsK ksC 34 w g 0 d) (i : Nat) (hi : i < (d.toList.map (·.1)).length) : w.rangeAt g (0 + i * 34) (slotC (d.toList.map (·.1))[i]) := by
  intro j v hv
  rw [List.length_map, Array.length_toList] at hi
  rw [List.getElem_map, Array.getElem_toList] at hv
  have hj := (List.getElem?_eq_some_iff.1 hv).1
  have hl : (slotC (d[i]).1).length = 34 := length_slotC (d[i]).2
  have := (h.cell hi (c := j) (by omega)).1
  rw [getElem!_pos d i hi] at this
  have e : (ksC d[i])[j]! = v := by
    show (slotC (d[i]).1)[j]! = v
    rw [getElem!_pos _ j hj]
    rw [List.getElem?_eq_getElem hj] at hv
    exact Option.some.inj hv
  rw [e] at this
  exact this
theorem below_sortWorld (w : World) (g m : Nat) (d : Array KSlot) (os : Array Obj) (B : Nat) (hg : B ≤ g) (hB : B ≤ w.heap.size) : Below B w (sortWorldK ksC 34 w g 0 m d os) := by
  refine ⟨rfl, rfl, rfl, ?_, fun k hk => ?_⟩
  · unfold sortWorldK
    rw [Sort.size_grow]
    show w.heap.size ≤ (Sort.putRow id (Sort.ahead w m) g 0 (Sort.flatK ksC 34 d)).heap.size + os.size
    rw [Sort.size_putRow]
    show w.heap.size ≤ w.heap.size + os.size
    omega
  · unfold sortWorldK
    have e : (Sort.putRowK ksC 34 (Sort.ahead w m) g 0 d).heap.size = w.heap.size := Sort.size_putRow _ _ _ _ _
    rw [Sort.heap_grow_old _ _ (by omega)]
    show (Sort.mapBlock (Sort.ahead w m) g (Sort.putCells id 0 (Sort.flatK ksC 34 d))).heap[k]? = w.heap[k]?
    unfold Sort.mapBlock
    simp only [Array.getElem?_modify]
    rw [if_neg (by omega)]
    rfl
end Go.Proofs.Ytahmnpbfjfllmaa
