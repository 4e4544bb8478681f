/- A run of turned bits: plain mathematics. -/
import Derived.Test.YtmcdjkfmfhbbnaaDoorRefAdd
import Derived.Test.YtmcdjkfmfhbbnaaDoorFLaws
namespace Go.Proofs.YtmcdjkfmfhbbnaaDoor
open Go Go.RowKit

/-- The text behind k rounds. -/
def burstTo (m : List (BitVec 8)) (p : Nat) (pat : BitVec 32) : Nat → List (BitVec 8)
  | 0 => m
  | k + 1 => if pat >>> k &&& 1#32 == 1#32 then CrcMath.flip (burstTo m p pat k) (p + k) else burstTo m p pat k
theorem burstTo_length (m : List (BitVec 8)) (p : Nat) (pat : BitVec 32) (k : Nat) : (burstTo m p pat k).length = m.length := by
  induction k with
  | zero => rfl
  | succ k ih => rw [burstTo]; split <;> simp [CrcMath.flip_length, ih]
theorem test_bit (pat : BitVec 32) (k : Nat) : (pat >>> k &&& 1#32 == 1#32) = pat.getLsbD k := by
  rw [low_of (pat >>> k)]
  have : (pat >>> k).getLsbD 0 = pat.getLsbD k := by simp
  rw [this]
  cases pat.getLsbD k <;> decide
theorem burstTo_bit (m : List (BitVec 8)) (p : Nat) (pat : BitVec 32) (j : Nat) : ∀ k, p + k ≤ 8 * m.length →
    CrcMath.bit (burstTo m p pat k) j = (CrcMath.bit m j ^^ (decide (p ≤ j ∧ j < p + k) && pat.getLsbD (j - p))) := by
  intro k
  induction k with
  | zero => intro _; rw [decide_eq_false (by omega)]; simp [burstTo]
  | succ k ih =>
    intro h
    have ih := ih (by omega)
    rw [burstTo, test_bit]
    by_cases hj : j = p + k
    · subst hj
      have e : p + k - p = k := by omega
      rw [e] at ih ⊢
      cases hb : pat.getLsbD k
      · simp only [Bool.false_eq_true, if_false]; rw [ih, hb]; simp
      · simp only [if_true]
        rw [CrcMath.bit_flip _ _ _ (by rw [burstTo_length]; omega), ih]
        simp
    · have e : decide (p ≤ j ∧ j < p + (k + 1)) = decide (p ≤ j ∧ j < p + k) := by rw [decide_eq_decide]; omega
      rw [e]
      cases hb : pat.getLsbD k
      · simp only [Bool.false_eq_true, if_false]; exact ih
      · simp only [if_true]
        rw [CrcMath.bit_flip _ _ _ (by rw [burstTo_length]; omega), ih]
        simp [hj]
theorem burst_unlike (m : List (BitVec 8)) (p n k : Nat) (q : BitVec 32) (hq : q.getLsbD 0 = true) (hp : p < 8 * m.length) (hn : 1 ≤ n) (hn2 : n ≤ 32) (hk : k = min n (8 * m.length - p)) :
    (CrcMath.sum (burstTo m p q k) != CrcMath.sum m) = true := by
  rw [bne_iff_ne]
  refine CrcMath.burst _ m (burstTo_length _ _ _ _) p k (by omega) (by omega) (by omega) (fun i => q.getLsbD i) hq fun j hj => ?_
  exact burstTo_bit m p _ j k (by omega)
theorem flip_is (l : List (BitVec 8)) (k : Nat) : CrcMath.flip l k = l.set (k / 8) (byteAt l (k / 8) ^^^ 1#8 <<< (k % 8)) := rfl
theorem shl_pow (j : Nat) : BitVec.ofInt 8 (2 ^ (j % 8) % 256) = 1#8 <<< (j % 8) := by
  have : j % 8 = 0 ∨ j % 8 = 1 ∨ j % 8 = 2 ∨ j % 8 = 3 ∨ j % 8 = 4 ∨ j % 8 = 5 ∨ j % 8 = 6 ∨ j % 8 = 7 := by omega
  rcases this with h | h | h | h | h | h | h | h <;> rw [h] <;> rfl
theorem burst_on {m : List (BitVec 8)} {p : Nat} {pat : BitVec 32} {k : Nat} (h : (pat >>> k &&& 1#32 == 1#32) = true) :
    burstTo m p pat (k + 1) = (burstTo m p pat k).set ((p + k) / 8) (byteAt (burstTo m p pat k) ((p + k) / 8) ^^^ BitVec.ofInt 8 (2 ^ ((p + k) % 8) % 256)) := by
  rw [burstTo, if_pos h, shl_pow]; rfl
theorem burst_off {m : List (BitVec 8)} {p : Nat} {pat : BitVec 32} {k : Nat} (h : (pat >>> k &&& 1#32 == 1#32) = false) : burstTo m p pat (k + 1) = burstTo m p pat k := by
  rw [burstTo, if_neg (by rw [h]; decide)]

theorem flip_take (l : List (BitVec 8)) (j d : Nat) (h : 8 * d ≤ j) : (CrcMath.flip l j).take d = l.take d := by
  rw [flip_is, List.take_set_of_le (by omega)]
theorem flip_drop (l : List (BitVec 8)) (j d : Nat) (h : 8 * d ≤ j) : (CrcMath.flip l j).drop d = CrcMath.flip (l.drop d) (j - 8 * d) := by
  have e1 : (j - 8 * d) / 8 = j / 8 - d := by omega
  have e2 : (j - 8 * d) % 8 = j % 8 := by omega
  have e3 : byteAt (l.drop d) (j / 8 - d) = byteAt l (j / 8) := by
    rw [byteAt_drop]; congr 1; omega
  rw [flip_is, flip_is, e1, e2, e3, List.drop_set, if_neg (by omega)]
theorem burstTo_take (l : List (BitVec 8)) (p d : Nat) (q : BitVec 32) (h : 8 * d ≤ p) (k : Nat) : (burstTo l p q k).take d = l.take d := by
  induction k with
  | zero => rfl
  | succ k ih =>
    rw [burstTo]
    split
    · rw [flip_take _ _ _ (by omega), ih]
    · exact ih
theorem burstTo_drop (l : List (BitVec 8)) (p d : Nat) (q : BitVec 32) (h : 8 * d ≤ p) (k : Nat) : (burstTo l p q k).drop d = burstTo (l.drop d) (p - 8 * d) q k := by
  induction k with
  | zero => rfl
  | succ k ih =>
    rw [burstTo, burstTo, show p - 8 * d + k = p + k - 8 * d by omega]
    split
    · rw [flip_drop _ _ _ (by omega), ih]
    · exact ih
theorem rd_burst (e : Ent) (hk : e.key.length = 32) (hc : chk e = 0) (p n k : Nat) (q : BitVec 32) (hq : q.getLsbD 0 = true) (hp9 : 72 ≤ p) (hp : p < 8 * (encB e).length) (hn : 1 ≤ n) (hn2 : n ≤ 32) (hkk : k = min n (8 * (encB e).length - p)) :
    rd (burstTo (encB e) p q k) = rdErr 13 := by
  have hl : ((encB e).drop 4).length = (encB e).length - 4 := List.length_drop
  have hu := burst_unlike ((encB e).drop 4) (p - 32) n k q hq (by omega) hn hn2 (by omega)
  refine rd_turned e hk hc _ (burstTo_length _ _ _ _) (burstTo_take _ _ 9 _ (by omega) _) ?_
  rw [burstTo_drop _ _ 4 _ (by omega)]
  simpa using hu
theorem within_span (x : Int) : ∃ n : Nat, within x 1 32 = n ∧ 1 ≤ n ∧ n ≤ 32 := by
  refine ⟨(within x 1 32).toNat, ?_, ?_, ?_⟩ <;> unfold within <;> split <;> (try split) <;> omega
theorem within_at72 (x hi : Int) (h : 72 ≤ hi) : ∃ p : Nat, within x 72 hi = p ∧ 72 ≤ p ∧ (p : Int) ≤ hi := by
  refine ⟨(within x 72 hi).toNat, ?_, ?_, ?_⟩ <;> unfold within <;> split <;> (try split) <;> omega
end Go.Proofs.YtmcdjkfmfhbbnaaDoor
