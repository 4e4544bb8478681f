/- What is encoded is read as it was: plain mathematics. -/
import Derived.Test.YtmcdjkfmfhbbnaaDoorFMath
namespace Go.Proofs.YtmcdjkfmfhbbnaaDoor
open Go Go.RowKit

theorem drop_past {α : Type} {s r : List α} {k : Nat} (h : s.length = k) (j : Nat) : (s ++ r).drop (k + j) = r.drop j := by
  subst h
  rw [List.drop_append]
  simp
theorem take_past {α : Type} {s r : List α} {k : Nat} (h : s.length = k) (j : Nat) : (s ++ r).take (k + j) = s ++ r.take j := by
  subst h
  rw [List.take_append, List.take_of_length_le (by omega)]
  simp
theorem tag_byte {t : Int} (h : t = 0 ∨ t = 1 ∨ t = 2) : ((BitVec.ofInt 8 t).toNat : Int) = t := by
  rcases h with rfl | rfl | rfl <;> rfl
/-- The parts of an entry's bytes. -/
structure Parts (e : Ent) (s n4 K : List (BitVec 8)) : Prop where
  ls : s.length = 4
  ln : n4.length = 4
  num : leN n4 = size e
  tag : e.tag = 0 ∨ e.tag = 1 ∨ e.tag = 2
  key : (e.tag = 2 ∧ K = [] ∧ e.key = zeroKey ∧ e.data = [] ∧ size e = 9) ∨ (e.tag ≠ 2 ∧ K = e.key ∧ size e = 41 + e.data.length)
  encIs : encB e = s ++ (n4 ++ (BitVec.ofInt 8 e.tag :: (K ++ e.data)))
  bodyIs : body e = n4 ++ (BitVec.ofInt 8 e.tag :: (K ++ e.data))
  sum : leN s = (CrcMath.sum (body e)).toNat
  fit : fits (BitVec.ofInt 8 e.tag).toNat (size e) = true
theorem parts (e : Ent) (hk : e.key.length = 32) (hc : chk e = 0) : Parts e (sumB (body e)) (leB (BitVec.ofNat 64 (size e)) 4) (if e.tag = 2 then [] else e.key) := by
  have hsz := size_le e
  have hs : size e = if e.tag = 2 then 9 else 41 + e.data.length := by unfold size; rw [if_pos hc]
  have hco := chk_ok hc
  refine ⟨length_leB _ _, length_leB _ _, ?_, ?_, ?_, rfl, rfl, ?_, ?_⟩
  · rw [leN_leB4, BitVec.toNat_ofNat]; omega
  · rcases hco with h | h | h
    · exact .inl h.1
    · exact .inr (.inl h.1)
    · exact .inr (.inr h.1)
  · by_cases h2 : e.tag = 2
    · rw [if_pos h2] at hs ⊢
      rcases hco with h | h | h
      · rw [h.1] at h2; cases h2
      · rw [h.1] at h2; cases h2
      · exact .inl ⟨h2, rfl, h.2.1, h.2.2, hs⟩
    · rw [if_neg h2] at hs ⊢
      exact .inr ⟨h2, rfl, hs⟩
  · unfold sumB
    rw [leN_leB4, BitVec.toNat_setWidth]
    have := (CrcMath.sum (body e)).isLt
    omega
  · unfold fits
    rcases hco with h | h | h
    · rw [h.1] at hs ⊢
      rw [if_neg (by decide)] at hs
      have : (BitVec.ofInt 8 0).toNat = 0 := rfl
      rw [this, if_pos rfl, hs]
      simp; omega
    · rw [h.1] at hs ⊢
      rw [if_neg (by decide), h.2] at hs
      have : (BitVec.ofInt 8 1).toNat = 1 := rfl
      rw [this, if_neg (by decide), if_pos rfl, hs]
      rfl
    · rw [h.1] at hs ⊢
      rw [if_pos rfl] at hs
      have : (BitVec.ofInt 8 2).toNat = 2 := rfl
      rw [this, if_neg (by decide), if_neg (by decide), if_pos rfl, hs]
      rfl
section
variable {e : Ent} {s n4 K : List (BitVec 8)} (p : Parts e s n4 K)
include p
theorem Parts.past4 (r : List (BitVec 8)) : (s ++ r).drop 4 = r := (drop_past p.ls 0).trans (List.drop_zero)
theorem Parts.past8 (r : List (BitVec 8)) : (s ++ (n4 ++ r)).drop 8 = r := (drop_past p.ls 4).trans ((drop_past p.ln 0).trans (List.drop_zero))
theorem Parts.past9 (b : BitVec 8) (r : List (BitVec 8)) : (s ++ (n4 ++ (b :: r))).drop 9 = r := (drop_past p.ls 5).trans ((drop_past p.ln 1).trans rfl)
theorem Parts.first4 (r : List (BitVec 8)) : (s ++ r).take 4 = s := (take_past p.ls 0).trans (by simp)
theorem Parts.next4 (r : List (BitVec 8)) : (n4 ++ r).take 4 = n4 := (take_past p.ln 0).trans (by simp)
theorem Parts.first9 (b : BitVec 8) (r : List (BitVec 8)) : (s ++ (n4 ++ (b :: r))).take 9 = s ++ (n4 ++ [b]) := (take_past p.ls 5).trans (congrArg (s ++ ·) ((take_past p.ln 1).trans rfl))
theorem Parts.numAt (r : List (BitVec 8)) : numAt (s ++ (n4 ++ r)) 4 = size e := by
  unfold Go.Proofs.YtmcdjkfmfhbbnaaDoor.numAt
  rw [p.past4, p.next4]
  exact p.num
theorem Parts.numAt0 (r : List (BitVec 8)) : Go.Proofs.YtmcdjkfmfhbbnaaDoor.numAt (s ++ r) 0 = leN s := by
  unfold Go.Proofs.YtmcdjkfmfhbbnaaDoor.numAt
  rw [List.drop_zero, p.first4]
theorem Parts.tagAt (b : BitVec 8) (r : List (BitVec 8)) : byteAt (s ++ (n4 ++ (b :: r))) 8 = b := by
  have h := byteAt_drop (s ++ (n4 ++ (b :: r))) 8 0
  rw [p.past8] at h
  exact h.symm
theorem Parts.size9 : 9 ≤ size e := by
  rcases p.key with h | h
  · omega
  · omega
end
theorem rd_enc (e : Ent) (hk : e.key.length = 32) (hc : chk e = 0) (rest : List (BitVec 8)) : rd (encB e ++ rest) = ⟨e, size e, 0⟩ := by
  have p := parts e hk hc
  have hl := length_encB hk hc
  generalize sumB (body e) = s at p
  generalize leB (BitVec.ofNat 64 (size e)) 4 = n4 at p
  generalize (if e.tag = 2 then [] else e.key) = K at p
  have h9 := p.size9
  have e1 : encB e ++ rest = s ++ (n4 ++ (BitVec.ofInt 8 e.tag :: (K ++ (e.data ++ rest)))) := by rw [p.encIs]; simp
  have hlen : (encB e ++ rest).length = size e + rest.length := by rw [List.length_append, hl]
  have hnum : numAt (encB e ++ rest) 4 = size e := by rw [e1]; exact p.numAt _
  have htag : byteAt (encB e ++ rest) 8 = BitVec.ofInt 8 e.tag := by rw [e1]; exact p.tagAt _ _
  have htk : (encB e ++ rest).take (size e) = encB e := by rw [← hl, List.take_left']; rfl
  unfold rd
  rw [hnum, htag, if_neg (by omega), if_neg (by rw [p.fit]; decide), if_neg (by omega)]
  have hsum : (CrcMath.sum (((encB e ++ rest).take (size e)).drop 4)).toNat = numAt (encB e ++ rest) 0 := by
    rw [htk, p.encIs, p.past4, ← p.bodyIs, List.append_assoc, p.numAt0, p.sum]
  rw [if_pos hsum]
  have hE : entOf (encB e ++ rest) (size e) = e := by
    unfold entOf
    rw [htag, htk]
    have hd : (encB e ++ rest).drop 9 = K ++ (e.data ++ rest) := by
      rw [e1, p.past9]
    have hd2 : (encB e).drop 9 = K ++ e.data := by
      rw [p.encIs, p.past9]
    rcases p.key with ⟨h2, hK, hz, hdn, hs⟩ | ⟨h2, hK, hs⟩
    · rw [if_neg (by omega), if_neg (by omega), tag_byte p.tag]
      obtain ⟨t, k, d⟩ := e
      simp only at hz hdn
      rw [hz, hdn]
    · rw [if_pos (by omega), if_pos (by omega), tag_byte p.tag, hd, hK]
      have hlk : e.key.length = 32 := hk
      have t32 : (e.key ++ (e.data ++ rest)).take 32 = e.key := (take_past hlk 0).trans (by simp)
      have d41 : (encB e).drop 41 = e.data := by
        have q : (encB e).drop (9 + 32) = ((encB e).drop 9).drop 32 := (List.drop_drop).symm
        rw [hd2, hK] at q
        exact q.trans ((drop_past hlk 0).trans List.drop_zero)
      rw [t32, d41]
  rw [hE]
theorem rd_less (e : Ent) (hk : e.key.length = 32) (hc : chk e = 0) : rd ((encB e).take (size e - 1)) = rdErr 3 := by
  have p := parts e hk hc
  have hl := length_encB hk hc
  generalize sumB (body e) = s at p
  generalize leB (BitVec.ofNat 64 (size e)) 4 = n4 at p
  generalize (if e.tag = 2 then [] else e.key) = K at p
  have h9 := p.size9
  have hlen : ((encB e).take (size e - 1)).length = size e - 1 := by rw [List.length_take, hl]; omega
  by_cases h : size e = 9
  · unfold rd
    rw [if_pos (by omega)]
  · have e1 : (encB e).take (size e - 1) = s ++ (n4 ++ (BitVec.ofInt 8 e.tag :: ((K ++ e.data).take (size e - 1 - 9)))) := by
      rw [p.encIs, show size e - 1 = 4 + (4 + (1 + (size e - 1 - 9))) by omega, take_past p.ls, take_past p.ln, show 1 + (size e - 1 - 9) = (size e - 1 - 9) + 1 by omega, List.take_succ_cons]
      congr 5
      omega
    have hnum : numAt ((encB e).take (size e - 1)) 4 = size e := by rw [e1]; exact p.numAt _
    have htag : byteAt ((encB e).take (size e - 1)) 8 = BitVec.ofInt 8 e.tag := by rw [e1]; exact p.tagAt _ _
    have h41 := (fits_le p.fit).2.2.2.2
    have hb : 10 ≤ size e := by omega
    unfold rd
    rw [hnum, htag, if_neg (by omega), if_neg (by rw [p.fit]; decide), if_pos (by omega)]
/-- Bytes behind the tag turned, so that the sum is another. -/
theorem rd_turned (e : Ent) (hk : e.key.length = 32) (hc : chk e = 0) (l : List (BitVec 8)) (hl : l.length = (encB e).length) (h9 : l.take 9 = (encB e).take 9) (hs : CrcMath.sum (l.drop 4) ≠ CrcMath.sum ((encB e).drop 4)) : rd l = rdErr 13 := by
  have p := parts e hk hc
  have hle := length_encB hk hc
  generalize sumB (body e) = s at p
  generalize leB (BitVec.ofNat 64 (size e)) 4 = n4 at p
  generalize (if e.tag = 2 then [] else e.key) = K at p
  have hz := p.size9
  have ht : (encB e).take 9 = s ++ (n4 ++ [BitVec.ofInt 8 e.tag]) := by
    rw [p.encIs, p.first9]
  have e1 : l = s ++ (n4 ++ (BitVec.ofInt 8 e.tag :: l.drop 9)) := by
    have q := List.take_append_drop 9 l
    rw [h9, ht] at q
    generalize l.drop 9 = r at q ⊢
    rw [← q]
    simp only [List.append_assoc, List.singleton_append]
  have hnum : numAt l 4 = size e := by rw [e1]; exact p.numAt _
  have htag : byteAt l 8 = BitVec.ofInt 8 e.tag := by rw [e1]; exact p.tagAt _ _
  have hn0 : numAt l 0 = leN s := by rw [e1]; exact p.numAt0 _
  unfold rd
  rw [hnum, htag, if_neg (by omega), if_neg (by rw [p.fit]; decide), if_neg (by omega)]
  rw [List.take_of_length_le (by omega), if_neg]
  intro hq
  refine hs (BitVec.eq_of_toNat_eq ?_)
  rw [hq, hn0, p.sum]
  rw [p.encIs, p.past4, p.bodyIs]
end Go.Proofs.YtmcdjkfmfhbbnaaDoor
