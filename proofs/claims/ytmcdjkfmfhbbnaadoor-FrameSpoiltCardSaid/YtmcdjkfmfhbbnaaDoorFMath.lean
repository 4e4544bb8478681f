/- Entries of a segment: their bytes, and back; plain mathematics. -/
import Derived.Test.YtmcdjkfmfhbbnaaDoorNumMath
import Derived.Test.YtmcdjkfmfhbbnaaDoorCrcMath
namespace Go.Proofs.YtmcdjkfmfhbbnaaDoor
open Go Go.RowKit

structure Ent where
  tag : Int
  key : List (BitVec 8)
  data : List (BitVec 8)
instance : Inhabited Ent := ⟨⟨0, [], []⟩⟩
def zeroKey : List (BitVec 8) := List.replicate 32 0#8
def zeroEnt : Ent := ⟨0, zeroKey, []⟩
/-- Whether an entry can be: 0, or why not. -/
def chk (e : Ent) : Int :=
  if e.tag = 0 then (if 16384 < e.data.length then 5 else 0)
  else if e.tag = 1 then (if 0 < e.data.length then 4 else 0)
  else if e.tag = 2 then (if e.key = zeroKey then (if 0 < e.data.length then 4 else 0) else 4)
  else 4
def size (e : Ent) : Nat := if chk e = 0 then (if e.tag = 2 then 9 else 41 + e.data.length) else 0
/-- What stands behind the sum. -/
def body (e : Ent) : List (BitVec 8) := leB (BitVec.ofNat 64 (size e)) 4 ++ (BitVec.ofInt 8 e.tag :: ((if e.tag = 2 then [] else e.key) ++ e.data))
def sumB (l : List (BitVec 8)) : List (BitVec 8) := leB ((CrcMath.sum l).setWidth 64) 4
def encB (e : Ent) : List (BitVec 8) := sumB (body e) ++ body e
def enc (e : Ent) : List (BitVec 8) := if chk e = 0 then encB e else []
def numAt (l : List (BitVec 8)) (i : Nat) : Nat := leN ((l.drop i).take 4)
def fits (t n : Nat) : Bool := if t = 0 then decide (41 ≤ n ∧ n ≤ 16425) else if t = 1 then decide (n = 41) else if t = 2 then decide (n = 9) else false
/-- What an entry's bytes say. -/
def entOf (l : List (BitVec 8)) (n : Nat) : Ent := ⟨(byteAt l 8).toNat, if 41 ≤ n then (l.drop 9).take 32 else zeroKey, if 41 ≤ n then (l.take n).drop 41 else []⟩
/-- With which entry bytes begin. -/
structure Rd where
  ent : Ent
  n : Nat
  err : Int
def rdErr (e : Int) : Rd := ⟨zeroEnt, 0, e⟩
def rd (l : List (BitVec 8)) : Rd :=
  if l.length < 9 then rdErr 3
  else if fits (byteAt l 8).toNat (numAt l 4) = false then rdErr 4
  else if l.length < numAt l 4 then rdErr 3
  else if (CrcMath.sum ((l.take (numAt l 4)).drop 4)).toNat = numAt l 0 then ⟨entOf l (numAt l 4), numAt l 4, 0⟩ else rdErr 13
theorem numAt_lt (l : List (BitVec 8)) (i : Nat) : numAt l i < 4294967296 := leN_lt4 _ (by rw [List.length_take]; omega)
theorem fits_le {t n : Nat} (h : fits t n = true) : 9 ≤ n ∧ n ≤ 16425 ∧ t ≤ 2 ∧ (41 ≤ n ↔ t < 2) ∧ (t ≠ 0 → n = 41 ∨ n = 9) := by
  unfold fits at h
  split at h
  · simp at h; omega
  · split at h
    · simp at h; omega
    · split at h
      · simp at h; omega
      · cases h
theorem chk_cases (e : Ent) : chk e = 0 ∨ chk e = 4 ∨ chk e = 5 := by
  unfold chk
  split <;> (try split) <;> (try split) <;> (try split) <;> (try split) <;> simp
theorem chk_ok {e : Ent} (h : chk e = 0) : (e.tag = 0 ∧ e.data.length ≤ 16384) ∨ (e.tag = 1 ∧ e.data = []) ∨ (e.tag = 2 ∧ e.key = zeroKey ∧ e.data = []) := by
  unfold chk at h
  split at h
  · split at h
    · cases h
    · exact .inl ⟨by assumption, by omega⟩
  · split at h
    · split at h
      · cases h
      · exact .inr (.inl ⟨by assumption, List.eq_nil_of_length_eq_zero (by omega)⟩)
    · split at h
      · split at h
        · split at h
          · cases h
          · exact .inr (.inr ⟨by assumption, by assumption, List.eq_nil_of_length_eq_zero (by omega)⟩)
        · cases h
      · cases h
theorem size_le (e : Ent) : size e ≤ 16425 := by
  unfold size
  split
  · rename_i h
    rcases chk_ok h with ⟨h1, h2⟩ | ⟨h1, h2⟩ | ⟨h1, _, h2⟩
    · rw [h1]; simp; omega
    · rw [h1, h2]; simp
    · rw [h1]; simp
  · omega
theorem length_body {e : Ent} (hk : e.key.length = 32) (h : chk e = 0) : (body e).length + 4 = size e := by
  unfold body size
  rw [if_pos h]
  rcases chk_ok h with ⟨h1, h2⟩ | ⟨h1, h2⟩ | ⟨h1, _, h2⟩
  · rw [h1]; simp [length_leB, hk]; omega
  · rw [h1, h2]; simp [length_leB, hk]
  · rw [h1, h2]; simp [length_leB]
theorem length_encB {e : Ent} (hk : e.key.length = 32) (h : chk e = 0) : (encB e).length = size e := by
  have := length_body hk h
  unfold encB sumB
  rw [List.length_append, length_leB]
  omega
theorem length_enc {e : Ent} (hk : e.key.length = 32) : (enc e).length = size e := by
  unfold enc
  split
  · exact length_encB hk (by assumption)
  · unfold size; rw [if_neg (by assumption)]; rfl
end Go.Proofs.YtmcdjkfmfhbbnaaDoor
