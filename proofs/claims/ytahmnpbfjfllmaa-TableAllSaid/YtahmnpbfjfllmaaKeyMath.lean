/- Plain facts on the order of rows of bytes. -/
import Derived.Test.YtahmnpbfjfllmaaKey
namespace Go.Proofs.Ytahmnpbfjfllmaa
open Go Go.RowKit

def ub (c : BitVec 8) : UInt8 := UInt8.ofNat c.toNat
theorem kb_is (l : List (BitVec 8)) : kb l = l.map ub := by simp [kb, Lib.bytesOf, ub, Function.comp_def]
theorem ub_lt (c d : BitVec 8) : ub c < ub d ↔ c.toNat < d.toNat := by
  unfold ub
  rw [UInt8.lt_iff_toNat_lt]
  simp
theorem cmpB_cons (c d : BitVec 8) (l m : List (BitVec 8)) : cmpB (c :: l) (d :: m) = if c.toNat < d.toNat then -1 else if d.toNat < c.toNat then 1 else cmpB l m := by
  simp only [cmpB, kb_is, List.map_cons, Lib.compareBytes, ub_lt]
theorem cmpB_refl : ∀ l : List (BitVec 8), cmpB l l = 0
  | [] => rfl
  | c :: l => by rw [cmpB_cons, if_neg (by omega), if_neg (by omega), cmpB_refl l]
theorem cmpB_swap : ∀ l m : List (BitVec 8), l.length = m.length → (cmpB m l < 0 ↔ 0 < cmpB l m) ∧ (cmpB l m = 0 ↔ l = m)
  | [], [], _ => by simp [cmpB_refl]
  | [], _ :: _, h => by simp at h
  | _ :: _, [], h => by simp at h
  | c :: l, d :: m, h => by
    have ih := cmpB_swap l m (by simpa using h)
    rw [cmpB_cons, cmpB_cons]
    by_cases h1 : c.toNat < d.toNat
    · rw [if_neg (show ¬ d.toNat < c.toNat by omega), if_pos h1, if_pos h1]
      refine ⟨by omega, ?_⟩
      constructor
      · intro e; omega
      · intro e; injection e with e1 _; subst e1; omega
    · by_cases h2 : d.toNat < c.toNat
      · rw [if_pos h2, if_neg h1, if_pos h2]
        refine ⟨by omega, ?_⟩
        constructor
        · intro e; omega
        · intro e; injection e with e1 _; subst e1; omega
      · rw [if_neg h2, if_neg h1, if_neg h1, if_neg h2]
        have e : c = d := BitVec.eq_of_toNat_eq (by omega)
        subst e
        refine ⟨ih.1, ?_⟩
        rw [ih.2]
        simp
theorem cmpB_trans : ∀ l m n : List (BitVec 8), l.length = m.length → m.length = n.length → cmpB l m < 0 → cmpB m n < 0 → cmpB l n < 0
  | [], [], _, _, _, h, _ => by simp [cmpB_refl] at h
  | [], _ :: _, _, h, _, _, _ => by simp at h
  | _ :: _, [], _, h, _, _, _ => by simp at h
  | _ :: _, _ :: _, [], _, h, _, _ => by simp at h
  | c :: l, d :: m, e :: n, h1, h2, h3, h4 => by
    have ih := cmpB_trans l m n (by simpa using h1) (by simpa using h2)
    rw [cmpB_cons] at h3 h4 ⊢
    split at h3
    · split at h4
      · rw [if_pos (by omega)]; omega
      · split at h4
        · omega
        · rw [if_pos (by omega)]; omega
    · split at h3
      · omega
      · split at h4
        · rw [if_pos (by omega)]; omega
        · split at h4
          · omega
          · rw [if_neg (by omega), if_neg (by omega)]
            exact ih h3 h4
theorem cmpB_at : ∀ (i : Nat) (l m : List (BitVec 8)), l.length = m.length → i < l.length → l.take i = m.take i → byteAt l i ≠ byteAt m i → (cmpB l m < 0 ↔ (byteAt l i).toNat < (byteAt m i).toNat)
  | _, [], _, _, h, _, _ => by simp at h
  | _, _ :: _, [], h, _, _, _ => by simp at h
  | 0, c :: l, d :: m, _, _, _, h => by
    rw [cmpB_cons]
    have e1 : byteAt (c :: l) 0 = c := rfl
    have e2 : byteAt (d :: m) 0 = d := rfl
    rw [e1, e2] at h ⊢
    have hne : c.toNat ≠ d.toNat := fun e => h (BitVec.eq_of_toNat_eq e)
    split
    · simp; omega
    · rw [if_pos (by omega)]; omega
  | i + 1, c :: l, d :: m, h1, h2, h3, h4 => by
    rw [List.take_succ_cons, List.take_succ_cons] at h3
    injection h3 with e1 e2
    subst e1
    have ih := cmpB_at i l m (by simpa using h1) (by simpa using h2) e2 h4
    rw [cmpB_cons, if_neg (by omega), if_neg (by omega)]
    exact ih
end Go.Proofs.Ytahmnpbfjfllmaa
