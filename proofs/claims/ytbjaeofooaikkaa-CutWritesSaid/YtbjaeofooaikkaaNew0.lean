/- A new roller. -/
import Derived.Test.YtbjaeofooaikkaaOps
namespace Go.Proofs.Ytbjaeofooaikkaa
open Go Go.RowKit

def zeroCells : Array Value := (List.replicate 256 (U32 0#32) ++ (List.replicate 63 (U8 0#8) ++ [.int .i64 0, .int .i64 0, .int .i64 0, U32 0#32])).toArray
theorem zero_is (w : World) : Sem.run Try.prog (zeroValue 66) w = .ok (.agg zeroCells) w := by kernel_rfl
theorem zero_word (i : Nat) (h : i < 256) : zeroCells[i]? = some (U32 0#32) := by
  unfold zeroCells
  rw [List.getElem?_toArray, List.getElem?_append_left (by rw [List.length_replicate]; exact h), List.getElem?_replicate, if_pos h]
theorem zero_ring (i : Nat) (h : i < 63) : zeroCells[256 + i]? = some (U8 0#8) := by
  unfold zeroCells
  rw [List.getElem?_toArray, List.getElem?_append_right (by rw [List.length_replicate]; omega), List.length_replicate, Nat.add_sub_cancel_left, List.getElem?_append_left (by rw [List.length_replicate]; exact h), List.getElem?_replicate, if_pos h]
theorem zero_roller : ∃ Z : Array Value, (∀ w, Sem.run Try.prog (zeroValue 66) w = .ok (.agg Z) w) ∧ Z.size = 323 ∧ (∀ i, i < 256 → Z[i]? = some (U32 0#32)) ∧ (∀ i, i < 63 → Z[256 + i]? = some (U8 0#8)) ∧ Z[319]? = some (.int .i64 0) ∧ Z[320]? = some (.int .i64 0) ∧ Z[321]? = some (.int .i64 0) ∧ Z[322]? = some (U32 0#32) :=
  ⟨zeroCells, zero_is, by kernel_rfl, zero_word, zero_ring, by kernel_rfl, by kernel_rfl, by kernel_rfl, by kernel_rfl⟩

theorem alloc_cell (w : World) (cs : Array Value) (E : TypeId) (i : Nat) : (w.alloc (.cells cs E)).cell? ⟨w.heap.size, i, none⟩ = cs[i]? := by
  unfold World.cell?; rw [heap_alloc_new]; simp
theorem alloc_thawed (w : World) (cs : Array Value) (E : TypeId) (i : Nat) : (w.alloc (.cells cs E)).frozen? ⟨w.heap.size, i, none⟩ = false := by
  rw [RowKit.frozen?_alloc_cells]
  simp [World.frozen?]

/-- A roller whose first words are written. -/
structure Fresh (w : World) (b : Nat) (s : BitVec 32) (win k : Nat) : Prop where
  words : ∀ i, i < 256 → ∃ v, w.cell? ⟨b, i, none⟩ = some v ∧ (i < k → v = U32 (RollMath.word s (BitVec.ofNat 8 i)))
  ring : ∀ i, i < 63 → w.cell? ⟨b, 256 + i, none⟩ = some (U8 0#8)
  win : w.cell? ⟨b, 319, none⟩ = some (.int .i64 win)
  n : w.cell? ⟨b, 320, none⟩ = some (.int .i64 (0 : Nat))
  at_ : w.cell? ⟨b, 321, none⟩ = some (.int .i64 (0 : Nat))
  x : w.cell? ⟨b, 322, none⟩ = some (U32 0#32)
  thawed : ∀ o, w.frozen? ⟨b, o, none⟩ = false
section
variable {w : World} {b : Nat} {s : BitVec 32} {win k : Nat}
theorem Fresh.drewN (h : Fresh w b s win k) (m : Nat) : Fresh (w.drewN m) b s win k := ⟨h.words, h.ring, h.win, h.n, h.at_, h.x, h.thawed⟩
theorem Fresh.step (h : Fresh w b s win k) (hk : k < 256) : Fresh (w.setCell ⟨b, k, none⟩ (U32 (RollMath.word s (BitVec.ofNat 8 k)))) b s win (k + 1) :=
  ⟨fun i hi => by
      by_cases e : i = k
      · subst e
        obtain ⟨v, hv, _⟩ := h.words i hi
        exact ⟨_, set_same hv, fun _ => rfl⟩
      · obtain ⟨v, hv, hw⟩ := h.words i hi
        exact ⟨v, set_other hv e, fun h2 => hw (by omega)⟩,
    fun i hi => set_other (h.ring i hi) (by omega), set_other h.win (by omega), set_other h.n (by omega), set_other h.at_ (by omega), set_other h.x (by omega), fun o => by rw [World.frozen?_setCell]; exact h.thawed o⟩
theorem Fresh.done (h : Fresh w b s win 256) (hw : 0 < win) : Roller w b s win [] :=
  ⟨0, fun _ => 0#8, ⟨fun i hi => by obtain ⟨v, hv, e⟩ := h.words i hi; rw [hv, e hi], h.ring, h.win, h.n, h.at_, h.x, h.thawed⟩, ⟨Nat.zero_le _, hw, fun i hi => absurd hi (by simp)⟩⟩
end
theorem fresh_new (w : World) (s : BitVec 32) (win : Nat) (Z : Array Value) (T : TypeId) (hs : Z.size = 323) (zw : ∀ i, i < 256 → Z[i]? = some (U32 0#32)) (zr : ∀ i, i < 63 → Z[256 + i]? = some (U8 0#8)) (z1 : Z[320]? = some (.int .i64 0)) (z2 : Z[321]? = some (.int .i64 0)) (z3 : Z[322]? = some (U32 0#32)) :
    Fresh (w.alloc (.cells (Z.setIfInBounds 319 (.int .i64 win)) T)) w.heap.size s win 0 := by
  refine ⟨fun i hi => ⟨U32 0#32, ?_, fun h => absurd h (by omega)⟩, fun i hi => ?_, ?_, ?_, ?_, ?_, fun o => alloc_thawed w _ T o⟩
  · rw [alloc_cell, Array.getElem?_setIfInBounds_ne (by omega)]; exact zw i hi
  · rw [alloc_cell, Array.getElem?_setIfInBounds_ne (by omega)]; exact zr i hi
  · rw [alloc_cell, Array.getElem?_setIfInBounds_self_of_lt (by omega)]
  · rw [alloc_cell, Array.getElem?_setIfInBounds_ne (by omega)]; exact z1
  · rw [alloc_cell, Array.getElem?_setIfInBounds_ne (by omega)]; exact z2
  · rw [alloc_cell, Array.getElem?_setIfInBounds_ne (by omega)]; exact z3
theorem word_quiet (s : BitVec 32) (c : BitVec 8) (w : World) (n : Nat) : Calls Try.prog 33 #[U32 s, U8 c] (w.drewN n) fun e w'' => e = .returned (U32 (RollMath.word s c)) ∧ ∃ m, w'' = w.drewN m :=
  (word_any s c _).mono fun _ _ ⟨he, hw⟩ => ⟨he, n, hw.symm⟩
def FreshRel (w : World) (s : BitVec 32) (win : Nat) (i : Value) (wr : World) : Prop := ∃ k : Nat, k ≤ 256 ∧ i = .int .i64 k ∧ Fresh wr w.heap.size s win k ∧ Below w.heap.size w wr

end Go.Proofs.Ytbjaeofooaikkaa
