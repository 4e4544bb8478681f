/- The law's walk: CrcPieces. -/
import Derived.Test.YthdfblhlkkbloaaDoorLives
import Derived.Test.YthdfblhlkkbloaaDoorPoly
import Derived.Test.YthdfblhlkkbloaaDoorS
namespace Go.Proofs.YthdfblhlkkbloaaDoor
open Go Go.RowKit

theorem sum_at {a : Option Addr} {cap n : Nat} (l : List (BitVec 8)) (w : World) (hn : l.length = n) (hh : Half w) (hb : Reads w a cap l) :
    Calls Tryd.prog 11 #[.slice a n cap] w fun e w' => e = .returned (U32 (CrcMath.sum l)) ∧ w = w' := by
  subst hn; exact sum_any a cap l w hh hb
theorem add_at {a : Option Addr} {cap n : Nat} (s : BitVec 32) (l : List (BitVec 8)) (w : World) (hn : l.length = n) (hh : Half w) (hb : Reads w a cap l) :
    Calls Tryd.prog 13 #[U32 s, .slice a n cap] w fun e w' => e = .returned (U32 (CrcMath.add s l)) ∧ w = w' := by
  subst hn; exact add_any s a cap l w hh hb
theorem add_sum (m : List (BitVec 8)) (j q : Nat) : CrcMath.add (CrcMath.sum (m.take j)) ((m.drop j).take q) = CrcMath.sum (m.take (j + q)) := by
  unfold CrcMath.sum
  rw [← CrcMath.add_append]
  congr 1
  rw [List.take_add]
theorem join_sum' (m : List (BitVec 8)) (j q : Nat) (hq : q ≤ (m.drop j).length) : moved (CrcMath.sum (m.take j)) (q : Int) ^^^ CrcMath.sum ((m.drop j).take q) = CrcMath.sum (m.take (j + q)) := by
  have h := CrcMath.join_sum (m.take j) ((m.drop j).take q)
  rw [List.length_take, Nat.min_eq_left hq] at h
  rw [show moved (CrcMath.sum (m.take j)) (q : Int) = CrcMath.shift (CrcMath.sum (m.take j)) q from rfl, h, List.take_add]
theorem within_to (x : Int) (h : Nat) : ∃ n : Nat, within x 0 h = n ∧ n ≤ h := by
  refine ⟨(within x 0 h).toNat, ?_, ?_⟩ <;> unfold within <;> split <;> (try split) <;> omega

theorem start_sum (m : List (BitVec 8)) : Value.int .u32 0 = U32 (CrcMath.sum (m.take 0)) := by
  rw [List.take_zero, show CrcMath.sum [] = 0#32 by decide]; rfl
theorem rest_take (m : List (BitVec 8)) (j : Nat) : (m.drop j).take (m.drop j).length = m.drop j := List.take_length

set_option maxHeartbeats 800000 in
theorem crcPieces_walk (a : Option Addr) (cap : Nat) (l : List (BitVec 8)) (a' : Option Addr) (cap' : Nat) (cs : List Int) (w : World) (hh : Half w) (hr : Reads w a cap l) (hi : IReads w a' cap' cs) :
    Calls Tryd.prog 8 #[.slice a l.length cap, .slice a' cs.length cap'] w fun e w' => e = .returned (.bool true) ∧ Below w.heap.size w w' := by
  have hcs := Nat.le_trans hi.fits hi.room
  go_enter Tryd.func8, Tryd.ntmps8
  go_wp2_with fail
  refine (cut_any _ _ l 2000 _ _ rfl hr (by decide)).mono ?_
  rintro e w' ⟨rfl, rfl⟩
  have hm := hr.take 2000
  have hlen : (l.take 2000).length ≤ 2000 := by rw [List.length_take]; omega
  generalize l.take 2000 = m at *
  clear hr
  go_wp2_with fail
  refine (sum_any _ _ m _ hh hm).mono ?_
  rintro e w' ⟨rfl, rfl⟩
  go_wp2_with fail
  go_loop [6, 7, 8, 9] (fun s t r i => ∃ (k j : Nat) (b : Option Addr) (c : Nat), k ≤ cs.length ∧ j ≤ m.length ∧ i = .int .i64 k ∧ s = U32 (CrcMath.sum (m.take j)) ∧ t = U32 (CrcMath.sum (m.take j)) ∧
      r = .slice b (m.drop j).length c ∧ Reads w b c (m.drop j)) (fun _ _ _ i => cs.length - (intOf i).toNat)
  case atStart => exact ⟨0, 0, a, cap, Nat.zero_le _, Nat.zero_le _, rfl, start_sum m, start_sum m, rfl, hm⟩
  case round =>
    obtain ⟨k, j, b, c, hk, hj, rfl, rfl, rfl, rfl, hrd⟩ := hrel
    have hld : (m.drop j).length = m.length - j := List.length_drop
    have hall : CrcMath.sum (m.take (j + (m.drop j).length)) = CrcMath.sum m := by rw [hld, show j + (m.length - j) = m.length by omega, List.take_length]
    have hend1 := (add_sum m j (m.drop j).length).trans hall
    have hend2 := (join_sum' m j (m.drop j).length (Nat.le_refl _)).trans hall
    rw [rest_take] at hend1 hend2
    have E1 := Lib.hid hend1; have E2 := Lib.hid hend2
    clear hend1 hend2 hall
    by_cases hgo : k < cs.length ∧ k < 50
    · obtain ⟨h1, h2⟩ := hgo
      have HL := Lib.hid hld; clear hld
      have hint : ∃ x, a'.isSome = true ∧ x = cs.getD k 0 := by
        rcases hi.ints with rfl | ⟨b0, o0, rfl, _⟩
        · simp at h1
        · exact ⟨_, rfl, rfl⟩
      rcases hi.ints with e0 | ⟨b0, o0, ea, hc⟩
      · rw [e0] at h1; simp at h1
      · subst ea
        have hc1 := hc k h1
        have hx := hi.bounds k h1
        generalize cs.getD k 0 = x at *
        obtain ⟨q, eq, hq⟩ := within_to x (m.drop j).length
        have EQ := Lib.hid eq; clear eq hint hc
        have hrest : CrcMath.add (CrcMath.sum (m.take j)) ((m.drop j).take q) = CrcMath.sum (m.take (j + q)) := add_sum m j q
        have hrest2 := join_sum' m j q hq
        have H1 := Lib.hid hrest; have H2 := Lib.hid hrest2
        clear hrest hrest2
        have hdd : (m.drop j).drop q = m.drop (j + q) := by rw [List.drop_drop]
        have hrd2 := hrd.drop q hq
        rw [hdd] at hrd2
        have hld2 : (m.drop (j + q)).length = (m.drop j).length - q := by rw [List.length_drop, List.length_drop]; omega
        have HL2 := Lib.hid hld2; clear hld2 hdd
        have htk : ((m.drop j).take q).length = q := by rw [List.length_take]; omega
        have hrt := hrd.take q
        generalize (m.drop j).take q = T at *
        generalize CrcMath.sum (m.take j) = S0 at *
        generalize hLEN : (m.drop j).length = L at *
        clear E1 E2
        have hqc : q ≤ c := by have := hrd.fits; omega
        have sl1 := fun w => run_slice_to byteSlice w b L c .i64 q q rfl hqc
        have sl2 := fun w => run_slice_from byteSlice w b L c .i64 q q rfl hq
        clear hLEN
        go_wp2_with fail
        refine (within_any _ _ _ _).mono ?_
        rintro e w' ⟨rfl, rfl⟩
        rw [EQ.out]
        go_wp2_with fail
        refine (add_at _ T _ htk hh hrt).mono ?_
        rintro e w' ⟨rfl, rfl⟩
        rw [H1.out]
        go_wp2_with fail
        refine (sum_at T _ htk hh hrt).mono ?_
        rintro e w' ⟨rfl, rfl⟩
        go_wp2_with fail
        refine (join_any _ _ _ _ (by have := hrd.room; omega)).mono ?_
        rintro e w' ⟨rfl, rfl⟩
        rw [H2.out]
        go_wp2_with fail
        go_round
        case rel => exact ⟨k + 1, j + q, _, _, by omega, by have := HL.out; omega, by go_num, rfl, rfl, by rw [HL2.out], hrd2⟩
        case measure => simp [intOf]; omega
    · have hlr : (m.drop j).length ≤ 9223372036854775807 := hrd.len
      have HLR := Lib.hid hlr
      generalize CrcMath.sum (m.take j) = S0 at *
      generalize CrcMath.sum m = S1 at *
      have hmj : (m.drop j).length = m.length - j := hld
      clear hld
      generalize hM : m.drop j = M at *
      have HJ := Lib.hid hmj; clear hmj hM
      by_cases h1 : k < cs.length
      · have h2 : ¬ k < 50 := fun h => hgo ⟨h1, h⟩
        clear hgo
        go_wp2_with fail
        refine (add_any _ _ _ M _ hh hrd).mono ?_
        rintro e w' ⟨rfl, rfl⟩
        rw [E1.out]
        go_wp2_with fail
        refine (sum_any _ _ M _ hh hrd).mono ?_
        rintro e w' ⟨rfl, rfl⟩
        go_wp2_with fail
        refine (join_any _ _ _ _ (by omega)).mono ?_
        rintro e w' ⟨rfl, rfl⟩
        rw [E2.out]
        go_wp2_with fail
        refine (lives_any _ hh).mono ?_
        rintro e w2 ⟨rfl, hb2⟩
        go_wp2
        go_ret
        exact ⟨rfl, hb2⟩
      · clear hgo
        go_wp2_with fail
        refine (add_any _ _ _ M _ hh hrd).mono ?_
        rintro e w' ⟨rfl, rfl⟩
        rw [E1.out]
        go_wp2_with fail
        refine (sum_any _ _ M _ hh hrd).mono ?_
        rintro e w' ⟨rfl, rfl⟩
        go_wp2_with fail
        refine (join_any _ _ _ _ (by omega)).mono ?_
        rintro e w' ⟨rfl, rfl⟩
        rw [E2.out]
        go_wp2_with fail
        refine (lives_any _ hh).mono ?_
        rintro e w2 ⟨rfl, hb2⟩
        go_wp2
        go_ret
        exact ⟨rfl, hb2⟩
end Go.Proofs.YthdfblhlkkbloaaDoor
