/- Numbers as bytes, the lowest first: plain mathematics. -/
import Derived.Test.YtmcdjkfmfhbbnaaDoorB
namespace Go.Proofs.YtmcdjkfmfhbbnaaDoor
open Go Go.RowKit

def leB (x : BitVec 64) (n : Nat) : List (BitVec 8) := (List.range n).map fun i => (x >>> (8 * i)).setWidth 8
theorem length_leB (x : BitVec 64) (n : Nat) : (leB x n).length = n := by simp [leB]
theorem leB_at (x : BitVec 64) (n i : Nat) (h : i < n) : byteAt (leB x n) i = (x >>> (8 * i)).setWidth 8 := by
  simp [byteAt, leB, List.getD_eq_getElem?_getD, h]
theorem leB_snoc (x : BitVec 64) (k : Nat) : leB x (k + 1) = leB x k ++ [(x >>> (8 * k)).setWidth 8] := by simp [leB, List.range_succ]
theorem byteAt_set (l : List (BitVec 8)) (i j : Nat) (x : BitVec 8) (h : i < l.length) : byteAt (l.set i x) j = if j = i then x else byteAt l j := by
  unfold byteAt
  rw [List.getD_eq_getElem?_getD, List.getElem?_set, List.getD_eq_getElem?_getD]
  by_cases e : i = j
  · subst e; simp [h]
  · rw [if_neg e, if_neg (fun e2 => e e2.symm)]
theorem mod256 (y : BitVec 64) : (y % 256#64).setWidth 8 = y.setWidth 8 := by
  apply BitVec.eq_of_toNat_eq
  simp [BitVec.toNat_setWidth, BitVec.toNat_umod]
theorem div256 (y : BitVec 64) : y / 256#64 = y >>> 8 := by
  apply BitVec.eq_of_toNat_eq
  simp [BitVec.toNat_udiv, BitVec.toNat_ushiftRight, Nat.shiftRight_eq_div_pow]
/-- The number that these bytes are. -/
def leN (l : List (BitVec 8)) : Nat := l.foldr (fun c x => c.toNat + 256 * x) 0
def leOf (l : List (BitVec 8)) : BitVec 64 := BitVec.ofNat 64 (leN l)
theorem leN_cons (c : BitVec 8) (l : List (BitVec 8)) : leN (c :: l) = c.toNat + 256 * leN l := rfl
theorem leN_lt : ∀ l : List (BitVec 8), leN l < 256 ^ l.length
  | [] => by decide
  | c :: l => by
    have := leN_lt l
    have hc := c.isLt
    rw [leN_cons, List.length_cons, Nat.pow_succ]
    omega
theorem leN_snoc : ∀ (l : List (BitVec 8)) (c : BitVec 8), leN (l ++ [c]) = leN l + c.toNat * 256 ^ l.length
  | [], c => by simp [leN]
  | d :: l, c => by
    rw [List.cons_append, leN_cons, leN_snoc l c, leN_cons, List.length_cons, Nat.pow_succ, Nat.mul_add, ← Nat.mul_assoc, ← Nat.mul_assoc, Nat.mul_comm 256 c.toNat]
    rw [Nat.mul_assoc c.toNat (256 ^ l.length) 256, Nat.mul_comm (256 ^ l.length) 256, ← Nat.mul_assoc]
    omega
theorem leN_lt8 (l : List (BitVec 8)) (h : l.length ≤ 8) : leN l < 18446744073709551616 := by
  have := leN_lt l
  have h2 : 256 ^ l.length ≤ 256 ^ 8 := Nat.pow_le_pow_right (by decide) h
  have h3 : (256 : Nat) ^ 8 = 18446744073709551616 := by decide
  omega
theorem leN_lt4 (l : List (BitVec 8)) (h : l.length ≤ 4) : leN l < 4294967296 := by
  have := leN_lt l
  have h2 : 256 ^ l.length ≤ 256 ^ 4 := Nat.pow_le_pow_right (by decide) h
  have h3 : (256 : Nat) ^ 4 = 4294967296 := by decide
  omega
theorem leOf_toNat (l : List (BitVec 8)) (h : l.length ≤ 8) : (leOf l).toNat = leN l := by
  unfold leOf
  rw [BitVec.toNat_ofNat]
  exact Nat.mod_eq_of_lt (leN_lt8 l h)
theorem leOf_cons (c : BitVec 8) (l : List (BitVec 8)) : leOf (c :: l) = leOf l * 256#64 + c.setWidth 64 := by
  apply BitVec.eq_of_toNat_eq
  have hc := c.isLt
  unfold leOf
  rw [leN_cons]
  simp only [BitVec.toNat_add, BitVec.toNat_mul, BitVec.toNat_ofNat, BitVec.toNat_setWidth]
  omega
theorem pow256 (k : Nat) : 256 ^ k = 2 ^ (8 * k) := by rw [Nat.pow_mul]
theorem leOf_snoc (l : List (BitVec 8)) (c : BitVec 8) (h : l.length < 8) : leOf (l ++ [c]) = leOf l ||| c.setWidth 64 <<< (8 * l.length) := by
  apply BitVec.eq_of_toNat_eq
  have hc := c.isLt
  have h1 := leN_lt l
  have h2 := leN_lt8 (l ++ [c]) (by simp; omega)
  rw [BitVec.toNat_or, leOf_toNat l (by omega), leOf_toNat _ (by simp; omega), leN_snoc, BitVec.toNat_shiftLeft, BitVec.toNat_setWidth, Nat.mod_eq_of_lt (a := c.toNat) (by omega)]
  rw [leN_snoc] at h2
  rw [pow256] at h1 h2 ⊢
  rw [Nat.shiftLeft_eq, Nat.mod_eq_of_lt (by omega), ← Nat.shiftLeft_eq, Nat.or_comm, ← Nat.shiftLeft_add_eq_or_of_lt h1, Nat.add_comm]
theorem leN_leB4 (x : BitVec 64) : leN (leB x 4) = x.toNat % 4294967296 := by
  have e : leB x 4 = [x.setWidth 8, (x >>> 8).setWidth 8, (x >>> 16).setWidth 8, (x >>> 24).setWidth 8] := by simp [leB, List.range_succ]
  rw [e]
  simp only [leN, List.foldr, BitVec.toNat_setWidth, BitVec.toNat_ushiftRight, Nat.shiftRight_eq_div_pow]
  omega
end Go.Proofs.YtmcdjkfmfhbbnaaDoor
