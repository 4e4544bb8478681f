/- The reference's Pad. -/
import Derived.Test.YtnodcjjmodbjiaaDoorRounds
namespace Go.Proofs.YtnodcjjmodbjiaaDoor
open Go Go.RowKit

theorem big_len' (n : Nat) (h : n ≤ 1048576) : Value.int .u64 ((n : Int) * 8) = U64 (BitVec.ofNat 64 (8 * n)) := by
  rw [Int.mul_comm]; exact big_len n h
set_option maxHeartbeats 1000000 in
theorem rpad_any (a : Option Addr) (cap : Nat) (l : List (BitVec 8)) (w : World) (hr : Reads w a cap l) (hlm : l.length ≤ 1000000) :
    Calls Tryd.prog 26 #[.slice a l.length cap] w fun e w' => ∃ v, e = .returned v ∧ Owns w' w.heap.size 5 v (Sha.pad l) ∧ Below w.heap.size w w' := by
  have CO := copy_any a cap l w hr (by omega)
  obtain ⟨B, hB⟩ : ∃ B, w.heap.size = B := ⟨_, rfl⟩
  rw [hB]
  obtain ⟨P, hP⟩ : ∃ P, Sha.pad l = P := ⟨_, rfl⟩
  rw [hP]
  have HP := Lib.hid hP
  clear hP
  go_enter Tryd.func26, Tryd.ntmps26
  go_wp2_with fail
  refine CO.mono ?_
  rintro e w2 ⟨vt, rfl, ho2, hb2⟩
  rw [hB] at ho2 hb2
  have hsz2 : B ≤ w2.heap.size := hB ▸ hb2.size
  have hr2 := reads_lit w2 #[.int .u8 128] 5 (0, 0) [0x80#8] rfl (by decide)
  have ho2' := ho2.below (w' := w2.alloc (.cells #[.int .u8 128] 5)) ((Below.refl _ _).alloc (Nat.le_refl _) _)
  have hz2 : B ≤ (w2.alloc (.cells #[.int .u8 128] 5)).heap.size := by simp; omega
  have hlen : l.length + 1 ≤ 140737488355328 := by omega
  go_wp2_with (at_builtin; refine wpList_append_bytes_at byteSlice rfl _ _ rfl B vt l rfl ho2' (some ⟨w2.heap.size, 0, none⟩) 1 [0x80#8] rfl hr2 hlen hz2 ?_; intro v3 w3 ho3 hg3 _)
  have hb3 : Below B w w3 := below_append hb2 (by omega) ho2' hg3
  go_loopw [3] (fun x wr => TailRel B (l ++ [0x80#8]) (Sha.noughts l.length) w x wr) (fun x _ => match x with | .slice _ n _ => 1000200 - n | _ => 0)
  case atStart => exact ⟨0, by omega, by simpa using ho3, hb3⟩
  case round =>
    clear ho3 hb3 hg3 ho2' hz2 hr2 ho2 CO
    obtain ⟨j, hj, ho, hbw⟩ := hrel
    obtain ⟨t, ht⟩ : ∃ t, l ++ [0x80#8] ++ List.replicate j 0#8 = t := ⟨_, rfl⟩
    have htl : t.length = l.length + 1 + j := by rw [← ht]; simp; omega
    have hnl := noughts_le l.length
    have hnn : Sha.noughts l.length = (119 - l.length % 64) % 64 := rfl
    rw [ht] at ho
    obtain ⟨at_, ct, rfl, hrt⟩ := ho.reads
    have HT := Lib.hid ht
    clear ht
    by_cases hlt : j < Sha.noughts l.length
    · have hne : ¬ ((t.length : Int) % 64 = 56) := by omega
      have hne' : ((t.length : Int) % 64 != 56) = true := by simpa using hne
      have htl2 : t.length ≤ 1000100 := by omega
      have hbs := hbw.size
      have hrz := reads_lit wr #[.int .u8 0] 5 (0, 0) [0#8] rfl (by decide)
      have ho' := ho.below (w' := wr.alloc (.cells #[.int .u8 0] 5)) ((Below.refl _ _).alloc (Nat.le_refl _) _)
      have hz' : B ≤ (wr.alloc (.cells #[.int .u8 0] 5)).heap.size := by simp; omega
      have hlen' : t.length + 1 ≤ 140737488355328 := by omega
      have HTL := Lib.hid htl
      clear htl hnn
      go_wp2_with (at_builtin; refine wpList_append_bytes_at byteSlice rfl _ _ rfl B (.slice at_ t.length ct) t rfl ho' (some ⟨wr.heap.size, 0, none⟩) 1 [0#8] rfl hrz hlen' hz' ?_; intro v5 w5 ho5 hg5 _)
      have hb5 := below_append hbw (by omega) ho' hg5
      obtain ⟨x, hx⟩ : ∃ x, t ++ [0#8] = x := ⟨_, rfl⟩
      have hxl : x.length = t.length + 1 := by rw [← hx, List.length_append, List.length_singleton]
      rw [hx] at ho5
      obtain ⟨a5, c5, rfl, _⟩ := ho5.reads
      have HO5 := Lib.hid ho5
      have HB5 := Lib.hid hb5
      have HX := Lib.hid hx
      have HXL := Lib.hid hxl
      clear ho5 hb5 hx hxl ho' hg5 ho hrz hrt
      go_roundw
      case rel =>
        refine ⟨j + 1, hlt, ?_, HB5.out⟩
        rw [List.replicate_succ', ← List.append_assoc, HT.out, HX.out]
        exact HO5.out
      case measure =>
        have h1 := HXL.out
        show 1000200 - x.length < 1000200 - t.length
        omega
    · obtain rfl : j = Sha.noughts l.length := by omega
      have heq : (t.length : Int) % 64 = 56 := by omega
      have heq' : ((t.length : Int) % 64 != 56) = false := by simpa using heq
      have htl2 : t.length ≤ 1000100 := by omega
      have hbs := hbw.size
      have htail : P = t ++ Sha.be8 (8 * l.length) := by rw [← HT.out, ← HP.out]; rfl
      have HTA := Lib.hid htail
      clear htail htl hnn hnl hj hlt
      have PU : Calls Tryd.prog 29 #[.int .u64 ((l.length : Int) * 8), .int .i64 8] wr fun e w' =>
          ∃ v, e = .returned v ∧ Owns w' wr.heap.size 5 v (leB (BitVec.ofNat 64 (8 * l.length)) 8) ∧ Below wr.heap.size wr w' := by
        rw [big_len' _ (by omega)]
        exact rput_any _ 8 (by omega) (by omega) wr
      have hbe : (leB (BitVec.ofNat 64 (8 * l.length)) 8).reverse = Sha.be8 (8 * l.length) := be8_big _ (by omega)
      have hlb : (leB (BitVec.ofNat 64 (8 * l.length)) 8).length = 8 := length_leB _ _
      generalize leB (BitVec.ofNat 64 (8 * l.length)) 8 = x at *
      have HBE := Lib.hid hbe
      have HLB := Lib.hid hlb
      clear hbe hlb
      go_wp2_with fail
      refine PU.mono ?_
      rintro e w6 ⟨v6, rfl, ho6, hb6⟩
      obtain ⟨a6, c6, rfl, hr6⟩ := ho6.reads
      have BK := rback_any a6 c6 x w6 hr6 (by have := HLB.out; omega)
      clear PU
      go_wp2_with fail
      refine BK.mono ?_
      rintro e w7 ⟨v7, rfl, ho7, hb7⟩
      rw [HBE.out] at ho7
      obtain ⟨e8, he8⟩ : ∃ q, Sha.be8 (8 * l.length) = q := ⟨_, rfl⟩
      rw [he8] at ho7
      have HE8 := Lib.hid he8
      have he8l : e8.length = 8 := by rw [← he8]; rfl
      clear he8
      obtain ⟨a7, c7, rfl, hr7⟩ := ho7.reads
      have hbw7 := hb6.trans (hb7.mono hb6.size)
      have ho8 := ho.below hbw7
      have hs7 := hbw7.size
      have hz8 : B ≤ w7.heap.size := by omega
      have hlen8 : t.length + e8.length ≤ 140737488355328 := by omega
      clear BK he8l
      go_wp2_with (at_builtin; refine wpList_append_bytes_at byteSlice rfl _ _ rfl B (.slice at_ t.length ct) t rfl ho8 a7 c7 e8 rfl hr7 hlen8 hz8 ?_; intro v9 w9 ho9 hg9 _)
      go_ret
      have hb79 : Below B w7 w9 := (Touch.of_grown (F := fun k => (Value.slice at_ t.length ct).ownBlock = some k) hg9 fun k hk => hk).below (fun k hk => (row_lt ho hk).1) hz8
      refine ⟨v9, rfl, ?_, (hbw.trans (hbw7.mono (by omega))).trans hb79⟩
      rw [HTA.out, HE8.out]
      exact ho9
end Go.Proofs.YtnodcjjmodbjiaaDoor
