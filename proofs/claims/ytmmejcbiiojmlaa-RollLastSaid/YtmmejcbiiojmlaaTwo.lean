/- Two rollers side by side. -/
import Derived.Test.YtmmejcbiiojmlaaLast
namespace Go.Proofs.Ytmmejcbiiojmlaa
open Go Go.RowKit

section
variable {w w' : World} {b : Nat} {s : BitVec 32} {win : Nat} {L : List (BitVec 8)}
theorem Roller.lt (h : Roller w b s win L) : b < w.heap.size := by
  obtain ⟨at_, ring, h1, h2⟩ := h
  exact World.block_lt_of_cell? w _ h1.win
theorem Roller.block (h : Roller w b s win L) (e : w'.heap[b]? = w.heap[b]?) : Roller w' b s win L := by
  obtain ⟨at_, ring, h1, h2⟩ := h
  have hc : ∀ o, w'.cell? ⟨b, o, none⟩ = w.cell? ⟨b, o, none⟩ := fun o => World.cell?_of_block (w := w) e
  have hf : ∀ o, w'.frozen? ⟨b, o, none⟩ = w.frozen? ⟨b, o, none⟩ := fun o => by simp only [World.frozen?, e]
  exact ⟨at_, ring, ⟨fun i hi => (hc _).trans (h1.words i hi), fun i hi => (hc _).trans (h1.ring i hi), (hc _).trans h1.win, (hc _).trans h1.n, (hc _).trans h1.at_, (hc _).trans h1.x, fun o => (hf o).trans (h1.thawed o)⟩, h2⟩
theorem Roller.below (h : Roller w b s win L) (hb : Below w.heap.size w w') : Roller w' b s win L := h.block (hb.block b h.lt)
theorem Roller.only {b' : Nat} (h : Roller w b s win L) (ho : Only b' w w') (hne : b ≠ b') : Roller w' b s win L :=
  h.block (ho.block b h.lt (by simp; exact hne))
end
theorem lastN_take_succ (n : Nat) (A m : List (BitVec 8)) (k : Nat) (hn : 0 < n) (hk : k < m.length) : pushed n (lastN n (A ++ m.take k)) (byteAt m k) = lastN n (A ++ m.take (k + 1)) := by
  rw [pushed_last n _ _ hn, take_snoc m k hk, List.append_assoc]
theorem lastN_append (n : Nat) (A T : List (BitVec 8)) (h : n ≤ T.length) : lastN n (A ++ T) = lastN n T := by
  unfold lastN
  rw [List.length_append, List.drop_append]
  rw [List.drop_eq_nil_of_le (by omega), List.nil_append]
  congr 1; omega
theorem byte_cell' {w : World} {a : Option Addr} {cap : Nat} {m : List (BitVec 8)} (h : Reads w a cap m) {k : Nat} (hk : k < m.length) : ∃ b off, a = some ⟨b, off, none⟩ ∧ w.cell? ⟨b, off + k, none⟩ = some (U8 (byteAt m k)) := by
  rcases h.bytes with rfl | ⟨b, off, e, hb⟩
  · simp at hk
  · exact ⟨b, off, e, hb k hk⟩
theorem value_quiet (w : World) (b : Nat) (s : BitVec 32) (win : Nat) (L : List (BitVec 8)) (h : Roller w b s win L) (n : Nat) :
    Calls Try.prog 18 #[.pointer (some ⟨b, 0, none⟩)] (w.drewN n) fun e w'' => e = .returned (U32 (RollMath.sum s L)) ∧ ∃ m, w'' = w.drewN m :=
  (value_any (w.drewN n) b s win L (h.drewN n)).mono fun _ _ ⟨he, hw⟩ => ⟨he, n, hw.symm⟩
theorem full_quiet (w : World) (b : Nat) (s : BitVec 32) (win : Nat) (L : List (BitVec 8)) (h : Roller w b s win L) (n : Nat) (hl : L.length = win) :
    Calls Try.prog 19 #[.pointer (some ⟨b, 0, none⟩)] (w.drewN n) fun e w'' => e = .returned (.bool true) ∧ ∃ m, w'' = w.drewN m :=
  (full_any (w.drewN n) b s win L (h.drewN n)).mono fun _ _ ⟨m, he, hw⟩ => ⟨by rw [he, decide_eq_true hl], n + m, by rw [hw, World.drewN_drewN]⟩
theorem sum_quiet (s : BitVec 32) (a : Option Addr) (cap : Nat) (l : List (BitVec 8)) (w : World) (k : Nat) (hk : l.length = k) (hb : Reads w a cap l) (n : Nat) :
    Calls Try.prog 13 #[U32 s, .slice a k cap] (w.drewN n) fun e w'' => e = .returned (U32 (RollMath.sum s l)) ∧ ∃ m, w'' = w.drewN m := by
  subst hk
  exact (rollSum_any s a cap l (w.drewN n) (hb.keeps (Keeps.drewN w n))).mono fun _ _ ⟨m, he, hw⟩ => ⟨he, n + m, by rw [hw, World.drewN_drewN]⟩
end Go.Proofs.Ytmmejcbiiojmlaa
