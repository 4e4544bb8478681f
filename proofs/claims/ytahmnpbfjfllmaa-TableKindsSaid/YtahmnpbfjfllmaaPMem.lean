/- A table in memory: its head, its slots (values: 3 numbers each). -/
import Derived.Test.YtahmnpbfjfllmaaPlayed
namespace Go.Proofs.Ytahmnpbfjfllmaa.Pl
open Go Go.RowKit

abbrev SlotI := Tab.Slot (List Int)
def ints (v : List Int) : List Value := v.map (Value.int .i64)
def slotC (s : SlotI) : List Value := .int .i64 s.st :: (s.key.map U8 ++ ints s.val)
theorem length_slotC {s : SlotI} (h : s.key.length = 32) (hv : s.val.length = 3) : (slotC s).length = 36 := by simp [slotC, ints, h, hv]
theorem slotC_state (s : SlotI) : (slotC s)[0]? = some (.int .i64 s.st) := rfl
theorem slotC_val {s : SlotI} (h : s.key.length = 32) (hv : s.val.length = 3) : ((slotC s).drop 33).take 3 = ints s.val := by
  unfold slotC
  rw [List.drop_succ_cons, List.drop_append_of_le_length (by simp [h]), List.drop_of_length_le (by simp [h]), List.nil_append, List.take_of_length_le (by simp [ints, hv])]
theorem slotC_key {s : SlotI} (h : s.key.length = 32) : ((slotC s).drop 1).take 32 = s.key.map U8 := by
  unfold slotC
  rw [List.drop_succ_cons, List.drop_zero, List.take_append_of_le_length (by simp [h]), List.take_of_length_le (by simp [h])]
theorem slotC_head {s : SlotI} (h : s.key.length = 32) (v : List Int) : slotC ⟨s.st, s.key, v⟩ = (slotC s).take 33 ++ ints v := by
  unfold slotC
  rw [List.take_succ_cons, List.take_append_of_le_length (by simp [h]), List.take_of_length_le (by simp [h])]
  rfl
theorem one_ints (v : List Int) : ∀ x ∈ ints v, x.oneCell' = true := by
  intro x hx
  obtain ⟨c, _, rfl⟩ := List.mem_map.1 hx
  rfl
theorem one_slotC (s : SlotI) : ∀ v ∈ slotC s, v.oneCell' = true := by
  intro v hv
  unfold slotC at hv
  rcases List.mem_cons.1 hv with rfl | hv
  · rfl
  · rcases List.mem_append.1 hv with hv | hv
    · obtain ⟨c, _, rfl⟩ := List.mem_map.1 hv
      rfl
    · exact one_ints _ v hv
def zeroVal : List Int := [0, 0, 0]
def zeroSlot : SlotI := ⟨0, zeroKey, zeroVal⟩
theorem zero_slot (w : World) : Sem.run Try.prog (zeroValue 88) w = .ok (.agg (slotC zeroSlot).toArray) w := by kernel_rfl
theorem zero_val (w : World) : Sem.run Try.prog (zeroValue 33) w = .ok (.agg (ints zeroVal).toArray) w := by kernel_rfl
theorem val_size (v : List Int) (h : v.length = 3) : (Try.prog.info? 33).map (·.size) = some (ints v).toArray.size := by rw [List.size_toArray, ints, List.length_map, h]; kernel_rfl
structure RowsOf (w : World) (b c : Nat) (S : Nat → SlotI) : Prop where
  cells : ∀ i, i < c → w.rangeAt b (i * 36) (slotC (S i))
  key : ∀ i, i < c → (S i).key.length = 32
  vlen : ∀ i, i < c → (S i).val.length = 3
  free : ∀ o, w.frozen? ⟨b, o, none⟩ = false
  lt : b < w.heap.size
section
variable {w w' : World} {b c : Nat} {S : Nat → SlotI}
theorem RowsOf.touch {F : Nat → Prop} (h : RowsOf w b c S) (k : Touch F w w') (hn : ¬ F b) : RowsOf w' b c S :=
  ⟨fun i hi => rangeAt_touch k (h.cells i hi) hn, h.key, h.vlen, fun o => (k.frozen (a := ⟨b, o, none⟩) h.lt hn).trans (h.free o), Nat.lt_of_lt_of_le h.lt k.size⟩
theorem RowsOf.there (h : RowsOf w b c S) {i : Nat} (hi : i < c) : w.there b (i * 36) 36 := fun j hj =>
  ⟨World.rangeAt.isSome (h.cells i hi) j (by rw [length_slotC (h.key i hi) (h.vlen i hi)]; exact hj), h.free _⟩
theorem RowsOf.thereVal (h : RowsOf w b c S) {i : Nat} (hi : i < c) : w.there b (i * 36 + 33) 3 := fun j hj => by
  have := h.there hi (33 + j) (by omega)
  rwa [← Nat.add_assoc] at this
theorem RowsOf.put (h : RowsOf w b c S) {p : Nat} (hp : p < c) (s : SlotI) (hs : s.key.length = 32) (hv : s.val.length = 3) : RowsOf (w.setCells b (p * 36) (slotC s)) b c (Tab.put S p s) := by
  refine ⟨fun i hi => ?_, fun i hi => ?_, fun i hi => ?_, fun o => by rw [World.frozen?_setCells]; exact h.free o, Nat.lt_of_lt_of_le h.lt (Touch.setCells (F := fun x => x = b) b rfl _ _ _).size⟩
  · by_cases e : i = p
    · subst e
      rw [Tab.put_same]
      exact World.rangeAt_setCells_same w b _ _ (by rw [length_slotC hs hv]; exact h.there hi)
    · rw [Tab.put_other _ _ _ e]
      refine World.rangeAt_setCells_apart (h.cells i hi) b _ _ (.inr ?_)
      rw [length_slotC hs hv, length_slotC (h.key i hi) (h.vlen i hi)]
      omega
  · by_cases e : i = p
    · subst e; rw [Tab.put_same]; exact hs
    · rw [Tab.put_other _ _ _ e]; exact h.key i hi
  · by_cases e : i = p
    · subst e; rw [Tab.put_same]; exact hv
    · rw [Tab.put_other _ _ _ e]; exact h.vlen i hi
theorem rangeAt_join {w : World} {b o : Nat} {xs ys : List Value} (h1 : w.rangeAt b o xs) (h2 : w.rangeAt b (o + xs.length) ys) : w.rangeAt b o (xs ++ ys) := fun j v hv => by
  rcases Nat.lt_or_ge j xs.length with h | h
  · rw [List.getElem?_append_left h] at hv
    exact h1 j v hv
  · rw [List.getElem?_append_right h] at hv
    have := h2 _ v hv
    rwa [show o + xs.length + (j - xs.length) = o + j by omega] at this
theorem RowsOf.val (h : RowsOf w b c S) {p : Nat} (hp : p < c) (v : List Int) (hv : v.length = 3) : RowsOf (w.setCells b (p * 36 + 33) (ints v)) b c (Tab.put S p ⟨(S p).st, (S p).key, v⟩) := by
  have hlv : (ints v).length = 3 := by rw [ints, List.length_map, hv]
  refine ⟨fun i hi => ?_, fun i hi => ?_, fun i hi => ?_, fun o => by rw [World.frozen?_setCells]; exact h.free o, Nat.lt_of_lt_of_le h.lt (Touch.setCells (F := fun x => x = b) b rfl _ _ _).size⟩
  · by_cases e : i = p
    · subst e
      rw [Tab.put_same, slotC_head (h.key i hi)]
      have hl33 : ((slotC (S i)).take 33).length = 33 := by rw [List.length_take, length_slotC (h.key i hi) (h.vlen i hi)]; rfl
      have r1 := rangeAt_part (h.cells i hi) 0 33
      rw [List.drop_zero, Nat.add_zero] at r1
      refine rangeAt_join (World.rangeAt_setCells_apart r1 b _ _ (.inr (by rw [hl33]; omega))) ?_
      rw [hl33]
      exact World.rangeAt_setCells_same w b _ _ (by rw [hlv]; exact h.thereVal hi)
    · rw [Tab.put_other _ _ _ e]
      refine World.rangeAt_setCells_apart (h.cells i hi) b _ _ (.inr ?_)
      rw [hlv, length_slotC (h.key i hi) (h.vlen i hi)]
      omega
  · by_cases e : i = p
    · subst e; rw [Tab.put_same]; exact h.key i hi
    · rw [Tab.put_other _ _ _ e]; exact h.key i hi
  · by_cases e : i = p
    · subst e; rw [Tab.put_same]; exact hv
    · rw [Tab.put_other _ _ _ e]; exact h.vlen i hi
end
/-- What a search leans on. -/
structure Look (w : World) (h b c : Nat) (S : Nat → SlotI) : Prop where
  slots : w.cell? ⟨h, 0, none⟩ = some (.slice (some ⟨b, 0, none⟩) c c)
  rows : RowsOf w b c S
  ne : h ≠ b
  inv : Tab.Inv S c
  pow : ∃ m, c = 2 ^ m
  big : 8 ≤ c ∧ c ≤ 1048576
theorem Look.touch {F : Nat → Prop} {w w' : World} {h b c : Nat} {S : Nat → SlotI} (k : Look w h b c S) (t : Touch F w w') (h1 : ¬ F h) (h2 : ¬ F b) : Look w' h b c S :=
  ⟨t.cell k.slots h1, k.rows.touch t h2, k.ne, k.inv, k.pow, k.big⟩
theorem Look.below {w w' : World} {h b c : Nat} {S : Nat → SlotI} (k : Look w h b c S) (t : Below w.heap.size w w') : Look w' h b c S := k.touch (F := fun _ => False) (.of_below t) id id
def headC (b c n g : Nat) : Array Value := #[.slice (some ⟨b, 0, none⟩) c c, .int .i64 n, .int .i64 g]
structure TabAt (w : World) (h b c : Nat) (S : Nat → SlotI) (n g : Nat) : Prop where
  head : w.heap[h]? = some (.cells (headC b c n g) 81 (0, 0))
  look : Look w h b c S
  nf : Tab.fulls S c = n
  nd : Tab.deads S c = g
  room : n + g < c
theorem TabAt.touch {F : Nat → Prop} {w w' : World} {h b c n g : Nat} {S : Nat → SlotI} (k : TabAt w h b c S n g) (t : Touch F w w') (h1 : ¬ F h) (h2 : ¬ F b) : TabAt w' h b c S n g :=
  ⟨(t.block h (heap_lt k.head) h1).trans k.head, k.look.touch t h1 h2, k.nf, k.nd, k.room⟩
theorem TabAt.below {w w' : World} {h b c n g : Nat} {S : Nat → SlotI} (k : TabAt w h b c S n g) (t : Below w.heap.size w w') : TabAt w' h b c S n g := k.touch (F := fun _ => False) (.of_below t) id id
end Go.Proofs.Ytahmnpbfjfllmaa.Pl
