/- A table in memory: its head, its slots (values: one number each). -/
import Derived.Test.YtahmnpbfjfllmaaTabMath
import Derived.Test.YtahmnpbfjfllmaaKeyEq
import Derived.Test.YtahmnpbfjfllmaaM
namespace Go.Proofs.Ytahmnpbfjfllmaa
open Go Go.RowKit

abbrev SlotI := Tab.Slot Int
def slotC (s : SlotI) : List Value := .int .i64 s.st :: (s.key.map U8 ++ [.int .i64 s.val])
theorem length_slotC {s : SlotI} (h : s.key.length = 32) : (slotC s).length = 34 := by simp [slotC, h]
theorem slotC_state (s : SlotI) : (slotC s)[0]? = some (.int .i64 s.st) := rfl
theorem slotC_val {s : SlotI} (h : s.key.length = 32) : (slotC s)[33]? = some (.int .i64 s.val) := by
  unfold slotC
  rw [List.getElem?_cons_succ, List.getElem?_append_right (by simp [h])]
  simp [h]
theorem slotC_key {s : SlotI} (h : s.key.length = 32) : ((slotC s).drop 1).take 32 = s.key.map U8 := by
  unfold slotC
  rw [List.drop_succ_cons, List.drop_zero, List.take_append_of_le_length (by simp [h]), List.take_of_length_le (by simp [h])]
theorem one_slotC (s : SlotI) : ∀ v ∈ slotC s, v.oneCell' = true := by
  intro v hv
  unfold slotC at hv
  rcases List.mem_cons.1 hv with rfl | hv
  · rfl
  · rcases List.mem_append.1 hv with hv | hv
    · obtain ⟨c, _, rfl⟩ := List.mem_map.1 hv
      rfl
    · rw [List.mem_singleton] at hv
      subst hv; rfl
def zeroKey : List (BitVec 8) := List.replicate 32 0#8
def zeroSlot : SlotI := ⟨0, zeroKey, 0⟩
theorem zero_slot (w : World) : Sem.run Try.prog (zeroValue 93) w = .ok (.agg (slotC zeroSlot).toArray) w := by kernel_rfl
structure RowsOf (w : World) (b c : Nat) (S : Nat → SlotI) : Prop where
  cells : ∀ i, i < c → w.rangeAt b (i * 34) (slotC (S i))
  key : ∀ i, i < c → (S i).key.length = 32
  free : ∀ o, w.frozen? ⟨b, o, none⟩ = false
  lt : b < w.heap.size
section
variable {w w' : World} {b c : Nat} {S : Nat → SlotI}
theorem RowsOf.touch {F : Nat → Prop} (h : RowsOf w b c S) (k : Touch F w w') (hn : ¬ F b) : RowsOf w' b c S :=
  ⟨fun i hi => rangeAt_touch k (h.cells i hi) hn, h.key, fun o => (k.frozen (a := ⟨b, o, none⟩) h.lt hn).trans (h.free o), Nat.lt_of_lt_of_le h.lt k.size⟩
theorem RowsOf.there (h : RowsOf w b c S) {i : Nat} (hi : i < c) : w.there b (i * 34) 34 := fun j hj =>
  ⟨World.rangeAt.isSome (h.cells i hi) j (by rw [length_slotC (h.key i hi)]; exact hj), h.free _⟩
theorem RowsOf.put (h : RowsOf w b c S) {p : Nat} (hp : p < c) (s : SlotI) (hs : s.key.length = 32) : RowsOf (w.setCells b (p * 34) (slotC s)) b c (Tab.put S p s) := by
  refine ⟨fun i hi => ?_, fun i hi => ?_, fun o => by rw [World.frozen?_setCells]; exact h.free o, Nat.lt_of_lt_of_le h.lt (Touch.setCells (F := fun x => x = b) b rfl _ _ _).size⟩
  · by_cases e : i = p
    · subst e
      rw [Tab.put_same]
      exact World.rangeAt_setCells_same w b _ _ (by rw [length_slotC hs]; exact h.there hi)
    · rw [Tab.put_other _ _ _ e]
      refine World.rangeAt_setCells_apart (h.cells i hi) b _ _ (.inr ?_)
      rw [length_slotC hs, length_slotC (h.key i hi)]
      omega
  · by_cases e : i = p
    · subst e; rw [Tab.put_same]; exact hs
    · rw [Tab.put_other _ _ _ e]; exact h.key i hi
theorem slotC_set {s : SlotI} (h : s.key.length = 32) (v : Int) : (slotC s).set 33 (.int .i64 v) = slotC ⟨s.st, s.key, v⟩ := by
  unfold slotC
  rw [List.set_cons_succ, List.set_append_right _ _ (by simp [h])]
  simp [h]
theorem RowsOf.val (h : RowsOf w b c S) {p : Nat} (hp : p < c) (v : Int) : RowsOf (w.setCell ⟨b, p * 34 + 33, none⟩ (.int .i64 v)) b c (Tab.put S p ⟨(S p).st, (S p).key, v⟩) := by
  refine ⟨fun i hi => ?_, fun i hi => ?_, fun o => by rw [World.frozen?_setCell]; exact h.free o, Nat.lt_of_lt_of_le h.lt (Touch.set (F := fun x => x = b) w b _ _ rfl).size⟩
  · by_cases e : i = p
    · subst e
      rw [Tab.put_same, ← slotC_set (h.key i hi)]
      exact rangeAt_set (h.cells i hi) 33 _ (by rw [length_slotC (h.key i hi)]; omega)
    · rw [Tab.put_other _ _ _ e]
      refine rangeAt_set_apart (h.cells i hi) _ (.inr ?_)
      rw [length_slotC (h.key i hi)]
      omega
  · by_cases e : i = p
    · subst e; rw [Tab.put_same]; exact h.key i hi
    · rw [Tab.put_other _ _ _ e]; exact h.key i hi
end
/-- What a search leans on. -/
structure Look (w : World) (h b c : Nat) (S : Nat → SlotI) : Prop where
  slots : ∃ cc, c ≤ cc ∧ cc ≤ 9223372036854775807 ∧ w.cell? ⟨h, 0, none⟩ = some (.slice (some ⟨b, 0, none⟩) c cc)
  rows : RowsOf w b c S
  ne : h ≠ b
  inv : Tab.Inv S c
  pow : ∃ m, c = 2 ^ m
  big : 8 ≤ c ∧ c ≤ 1048576
theorem Look.touch {F : Nat → Prop} {w w' : World} {h b c : Nat} {S : Nat → SlotI} (k : Look w h b c S) (t : Touch F w w') (h1 : ¬ F h) (h2 : ¬ F b) : Look w' h b c S :=
  ⟨k.slots.imp fun _ q => ⟨q.1, q.2.1, t.cell q.2.2 h1⟩, k.rows.touch t h2, k.ne, k.inv, k.pow, k.big⟩
theorem Look.below {w w' : World} {h b c : Nat} {S : Nat → SlotI} (k : Look w h b c S) (t : Below w.heap.size w w') : Look w' h b c S := k.touch (F := fun _ => False) (.of_below t) id id
def headC (b c cc n g : Nat) : Array Value := #[.slice (some ⟨b, 0, none⟩) c cc, .int .i64 n, .int .i64 g]
/-- The table's own cells; how much room its slots have beyond their number, nobody asks. -/
def HeadAt (w : World) (h b c : Nat) (n g : Nat) : Prop := ∃ cc, c ≤ cc ∧ cc ≤ 9223372036854775807 ∧ w.heap[h]? = some (.cells (headC b c cc n g) 75 (0, 0))
theorem HeadAt.lt {w : World} {h b c n g : Nat} (k : HeadAt w h b c n g) : h < w.heap.size := by
  obtain ⟨_, _, _, k⟩ := k
  exact heap_lt k
structure TabAt (w : World) (h b c : Nat) (S : Nat → SlotI) (n g : Nat) : Prop where
  head : HeadAt w h b c n g
  look : Look w h b c S
  nf : Tab.fulls S c = n
  nd : Tab.deads S c = g
  room : n + g < c
theorem TabAt.touch {F : Nat → Prop} {w w' : World} {h b c n g : Nat} {S : Nat → SlotI} (k : TabAt w h b c S n g) (t : Touch F w w') (h1 : ¬ F h) (h2 : ¬ F b) : TabAt w' h b c S n g :=
  ⟨k.head.imp fun _ q => ⟨q.1, q.2.1, (t.block h (heap_lt q.2.2) h1).trans q.2.2⟩, k.look.touch t h1 h2, k.nf, k.nd, k.room⟩
theorem TabAt.below {w w' : World} {h b c n g : Nat} {S : Nat → SlotI} (k : TabAt w h b c S n g) (t : Below w.heap.size w w') : TabAt w' h b c S n g := k.touch (F := fun _ => False) (.of_below t) id id
end Go.Proofs.Ytahmnpbfjfllmaa
