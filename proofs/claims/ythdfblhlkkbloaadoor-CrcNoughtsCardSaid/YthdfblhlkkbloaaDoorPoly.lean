/- The functions that move sums: what each gives. -/
import Derived.Test.YthdfblhlkkbloaaDoorR01
import Derived.Test.YthdfblhlkkbloaaDoorCrcPoly
namespace Go.Proofs.YthdfblhlkkbloaaDoor
open Go Go.RowKit

theorem step_any (x : BitVec 32) (w : World) : Calls Tryd.prog 25 #[U32 x] w fun e w' => e = .returned (U32 (CrcMath.step x)) ∧ w = w' := by
  have hs := step_test x
  cases ht : (x &&& 1#32 == 1#32)
  · rw [ht] at hs; rw [hs]; clear hs
    go_enter Tryd.func25, Tryd.ntmps25
    go_wp2
    go_ret
    exact ⟨ret_u32 (by simp), rfl⟩
  · rw [ht] at hs; rw [hs]; clear hs
    go_enter Tryd.func25, Tryd.ntmps25
    go_wp2
    go_ret
    exact ⟨ret_u32 (by simp), rfl⟩
theorem next_any (x : BitVec 32) (w : World) : Calls Tryd.prog 26 #[U32 x] w fun e w' => e = .returned (U32 (CrcMath.step x)) ∧ w = w' := by
  have hs := step_test x
  rw [← rem_test, ← half_div] at hs
  cases ht : (x % 2#32 == 1#32)
  · rw [ht] at hs; rw [hs]; clear hs
    go_enter Tryd.func26, Tryd.ntmps26
    go_wp2
    go_ret
    exact ⟨ret_u32 (by simp), rfl⟩
  · rw [ht] at hs; rw [hs]; clear hs
    go_enter Tryd.func26, Tryd.ntmps26
    go_wp2
    go_ret
    exact ⟨ret_u32 (by simp), rfl⟩
theorem flip_any (x : BitVec 32) (w : World) : Calls Tryd.prog 24 #[U32 x] w fun e w' => e = .returned (U32 (flip32 x)) ∧ w = w' := by
  go_enter Tryd.func24, Tryd.ntmps24
  go_wp2
  go_ret
  exact ⟨rfl, rfl⟩

theorem times_any (a b : BitVec 32) (w : World) : Calls Tryd.prog 21 #[U32 a, U32 b] w fun e w' => e = .returned (U32 (CrcMath.mul a b)) ∧ w = w' := by
  go_enter Tryd.func21, Tryd.ntmps21
  go_wp2_with fail
  refine (flip_any a w).mono ?_
  rintro e w' ⟨rfl, rfl⟩
  have h0 := TimesInv.start a b
  generalize flip32 a = f at *
  go_wp2
  go_loop [0, 1, 5] (fun y c o => ∃ (k : Nat) (Y C O : BitVec 32), y = U32 Y ∧ c = U32 C ∧ o = U32 O ∧ TimesInv a b k Y O C) (fun y _ _ => (intOf y).toNat)
  case atStart => exact ⟨0, _, _, _, rfl, rfl, rfl, h0⟩
  case round =>
    clear h0
    obtain ⟨k, Y, C, O, rfl, rfl, rfl, hI⟩ := hrel
    cases hy : (Y != 0#32)
    · have hd := hI.done hy
      have HD := Lib.hid hd; clear hd hI
      go_wp2
      go_ret
      exact ⟨ret_u32 HD.out, rfl⟩
    · have hk := hI.lt hy
      have hlt := shr1_lt hy
      cases ht : (Y &&& 1#32 == 1#32)
      · have hn := hI.off hk ht
        clear hI
        go_wp2_with (go_at_call 25; refine (step_any _ _).mono ?_; rintro e w' ⟨rfl, rfl⟩)
        go_round
        case rel => exact ⟨_, _, _, _, rfl, rfl, rfl, hn⟩
        case measure => exact hlt
      · have hn := hI.on hk ht
        clear hI
        go_wp2_with (go_at_call 25; refine (step_any _ _).mono ?_; rintro e w' ⟨rfl, rfl⟩)
        go_round
        case rel => exact ⟨_, _, _, _, rfl, rfl, rfl, hn⟩
        case measure => exact hlt
theorem product_any (a b : BitVec 32) (w : World) : Calls Tryd.prog 22 #[U32 a, U32 b] w fun e w' => e = .returned (U32 (CrcMath.mul a b)) ∧ w = w' := by
  have h0 := ProdInv.start a b
  go_enter Tryd.func22, Tryd.ntmps22
  go_wp2
  go_loop [1, 5, 6] (fun c o i => ∃ (n : Nat) (C O : BitVec 32), n ≤ 32 ∧ c = U32 C ∧ o = U32 O ∧ i = .int .i64 ((n : Int) - 1) ∧ ProdInv a b n O C) (fun _ _ i => (intOf i + 1).toNat)
  case atStart => exact ⟨32, _, _, by omega, rfl, rfl, rfl, h0⟩
  case round =>
    clear h0
    obtain ⟨n, C, O, hn, rfl, rfl, rfl, hI⟩ := hrel
    cases n with
    | zero =>
      have hd := hI.done
      have HD := Lib.hid hd; clear hd hI
      go_wp2
      go_ret
      exact ⟨ret_u32 HD.out, rfl⟩
    | succ n =>
      rw [show (((n + 1 : Nat) : Int) - 1) = (n : Int) by omega]
      cases ht : (a >>> n &&& 1#32 == 1#32)
      · have hnx := hI.off ht
        clear hI
        go_wp2_with (go_at_call 26; refine (next_any _ _).mono ?_; rintro e w' ⟨rfl, rfl⟩)
        go_round
        case rel => exact ⟨n, _, _, by omega, rfl, rfl, rfl, hnx⟩
        case measure => simp [intOf]
      · have hnx := hI.on ht
        clear hI
        go_wp2_with (go_at_call 26; refine (next_any _ _).mono ?_; rintro e w' ⟨rfl, rfl⟩)
        go_round
        case rel => exact ⟨n, _, _, by omega, rfl, rfl, rfl, hnx⟩
        case measure => simp [intOf]

theorem pow_even_half {n : Nat} (h : n % 2 = 0) : CrcMath.mul (CrcMath.pow (8 * (n / 2))) (CrcMath.pow (8 * (n / 2))) = CrcMath.pow (8 * n) := by
  rw [pow_double]; congr 1; omega
theorem pow_odd_half {n : Nat} (h : n % 2 = 1) : CrcMath.mul (CrcMath.mul (CrcMath.pow (8 * (n / 2))) (CrcMath.pow (8 * (n / 2)))) (CrcMath.pow (8 * 1)) = CrcMath.pow (8 * n) := by
  rw [pow_double, show 8 * 1 = 8 from rfl, pow_odd]; congr 1; omega
theorem power_small (n : Nat) (w : World) (h1 : 1 ≤ n) (h64 : n ≤ 64) : Calls Tryd.prog 23 #[.int .i64 n] w fun e w' => e = .returned (U32 (CrcMath.pow (8 * n))) ∧ w = w' := by
  go_enter Tryd.func23, Tryd.ntmps23
  go_wp2
  go_loop [5, 6] (fun x i => ∃ j : Nat, j ≤ 8 * n ∧ x = U32 (CrcMath.pow j) ∧ i = .int .i64 j) (fun _ i => 8 * n - (intOf i).toNat)
  case atStart => exact ⟨0, by omega, rfl, rfl⟩
  case round =>
    obtain ⟨j, hj, rfl, rfl⟩ := hrel
    by_cases hlt : j < 8 * n
    · have hs := pow_step j
      have HS := Lib.hid hs; clear hs
      go_wp2_with (go_at_call 26; refine (next_any _ _).mono ?_; rintro e w' ⟨rfl, rfl⟩)
      go_round
      case rel => exact ⟨j + 1, by omega, by rw [HS.out], by go_num⟩
      case measure => simp [intOf]; omega
    · go_wp2
      go_ret
      exact ⟨ret_u32 (by rw [show j = 8 * n by omega]), rfl⟩
theorem power_any (k : Nat) : ∀ (n : Nat) (N : Int) (w : World), N = n → n ≤ k → 1 ≤ n → n ≤ 9223372036854775807 →
    Calls Tryd.prog 23 #[.int .i64 N] w fun e w' => e = .returned (U32 (CrcMath.pow (8 * n))) ∧ w = w' := by
  induction k with
  | zero => intro n N w _ h1 h2; omega
  | succ k ih =>
    intro n N w hN hk h1 h63
    subst hN
    by_cases h64 : n ≤ 64
    · exact power_small n w h1 h64
    · have HI := Lib.hid ih; clear ih
      rcases (show n % 2 = 0 ∨ n % 2 = 1 by omega) with hp | hp
      · have ht : ((n : Int) % 2 == 1) = false := by rw [beq_eq_false_iff_ne]; omega
        have hm := pow_even_half hp
        have HM := Lib.hid hm; clear hm hp
        go_enter Tryd.func23, Tryd.ntmps23
        go_wp2_with fail
        refine (HI.out (n / 2) _ _ (by omega) (by omega) (by omega) (by omega)).mono ?_
        rintro e w' ⟨rfl, rfl⟩
        go_wp2_with (go_at_call 22; refine (product_any _ _ _).mono ?_; rintro e w' ⟨rfl, rfl⟩)
        go_ret
        exact ⟨ret_u32 HM.out, rfl⟩
      · have ht : ((n : Int) % 2 == 1) = true := by rw [beq_iff_eq]; omega
        have hm := pow_odd_half hp
        have HM := Lib.hid hm; clear hm hp
        go_enter Tryd.func23, Tryd.ntmps23
        go_wp2_with fail
        refine (HI.out (n / 2) _ _ (by omega) (by omega) (by omega) (by omega)).mono ?_
        rintro e w' ⟨rfl, rfl⟩
        go_wp2_with fail
        refine (product_any _ _ _).mono ?_
        rintro e w' ⟨rfl, rfl⟩
        go_wp2_with fail
        refine (HI.out 1 _ _ (by rfl) (by omega) (by omega) (by omega)).mono ?_
        rintro e w' ⟨rfl, rfl⟩
        go_wp2_with fail
        refine (product_any _ _ _).mono ?_
        rintro e w' ⟨rfl, rfl⟩
        go_wp2_with fail
        go_ret
        exact ⟨ret_u32 HM.out, rfl⟩
theorem and1 (n : Nat) (h : n ≤ 9223372036854775807) : bits .and .i64 (n : Int) 1 = (n % 2 : Nat) := by
  have e1 : (BitVec.ofInt 64 (n : Int)) &&& (BitVec.ofInt 64 1) = BitVec.ofNat 64 (n % 2) := by
    apply BitVec.eq_of_toNat_eq
    rw [BitVec.toNat_and, BitVec.ofInt_natCast, BitVec.toNat_ofNat, BitVec.toNat_ofNat, show (BitVec.ofInt 64 1).toNat = 1 from rfl]
    rw [Nat.mod_eq_of_lt (show n < 2 ^ 64 by omega), Nat.mod_eq_of_lt (show n % 2 < 2 ^ 64 by omega)]
    exact Nat.and_two_pow_sub_one_eq_mod n 1
  have e2 : bits .and .i64 (n : Int) 1 = IntKind.i64.wrap ((BitVec.ofInt 64 (n : Int)) &&& (BitVec.ofInt 64 1)).toNat := rfl
  rw [e2, e1, BitVec.toNat_ofNat, Nat.mod_eq_of_lt (show n % 2 < 2 ^ 64 by omega), IntWalk.i64_in _ (by omega)]
theorem shift_some (s : BitVec 32) (n : Nat) (w : World) (h : n ≤ 9223372036854775807) : Calls Tryd.prog 18 #[U32 s, .int .i64 n] w fun e w' => e = .returned (U32 (CrcMath.shift s n)) ∧ w = w' := by
  have h0 := ShiftInv.start s n
  go_enter Tryd.func18, Tryd.ntmps18
  go_wp2
  go_loop [0, 1, 5] (fun t m p => ∃ (k M : Nat) (S B : BitVec 32), M ≤ 9223372036854775807 ∧ t = U32 S ∧ m = .int .i64 M ∧ p = U32 B ∧ ShiftInv s n k M S B) (fun _ m _ => (intOf m).toNat)
  case atStart => exact ⟨0, n, _, _, h, rfl, rfl, rfl, h0⟩
  case round =>
    clear h0
    obtain ⟨k, M, S, B, hM, rfl, rfl, rfl, hI⟩ := hrel
    by_cases hz : M = 0
    · subst hz
      have hd := hI.done
      have HD := Lib.hid hd; clear hd hI
      go_wp2
      go_ret
      exact ⟨ret_u32 HD.out, rfl⟩
    · have hbit := and1 M hM
      rcases (show M % 2 = 0 ∨ M % 2 = 1 by omega) with hp | hp
      · have hn := hI.off hp
        rw [hp] at hbit
        clear hI hp
        go_wp2_with (go_at_call 21; refine (times_any _ _ _).mono ?_; rintro e w' ⟨rfl, rfl⟩)
        go_round
        case rel => exact ⟨_, M / 2, _, _, by omega, rfl, by go_num, rfl, hn⟩
        case measure => simp [intOf]; omega
      · have hn := hI.on hp
        rw [hp] at hbit
        clear hI hp
        go_wp2_with (go_at_call 21; refine (times_any _ _ _).mono ?_; rintro e w' ⟨rfl, rfl⟩)
        go_round
        case rel => exact ⟨_, M / 2, _, _, by omega, rfl, by go_num, rfl, hn⟩
        case measure => simp [intOf]; omega
theorem shift_none (s : BitVec 32) (n : Int) (w : World) (h : n ≤ 0) : Calls Tryd.prog 18 #[U32 s, .int .i64 n] w fun e w' => e = .returned (U32 s) ∧ w = w' := by
  go_enter Tryd.func18, Tryd.ntmps18
  go_wp2
  refine wp_loop_once ?_
  go_wp2
  go_ret
  exact ⟨rfl, rfl⟩
/-- A sum moved by any number of bytes: by none, if it is not above nought. -/
def moved (s : BitVec 32) (n : Int) : BitVec 32 := CrcMath.shift s n.toNat
theorem moved_none {s : BitVec 32} {n : Int} (h : n ≤ 0) : moved s n = s := by
  unfold moved; rw [show n.toNat = 0 by omega, CrcMath.shift_eq]; rfl
theorem shift_any (s : BitVec 32) (n : Int) (w : World) (h : n ≤ 9223372036854775807) : Calls Tryd.prog 18 #[U32 s, .int .i64 n] w fun e w' => e = .returned (U32 (moved s n)) ∧ w = w' := by
  by_cases h0 : n ≤ 0
  · rw [moved_none h0]; exact shift_none s n w h0
  · obtain ⟨m, rfl⟩ := Int.eq_ofNat_of_zero_le (show 0 ≤ n by omega)
    exact shift_some s m w (by omega)
theorem refShift_any (s : BitVec 32) (n : Int) (w : World) (h : n ≤ 9223372036854775807) : Calls Tryd.prog 19 #[U32 s, .int .i64 n] w fun e w' => e = .returned (U32 (moved s n)) ∧ w = w' := by
  by_cases h0 : n ≤ 0
  · rw [moved_none h0]
    go_enter Tryd.func19, Tryd.ntmps19
    go_wp2
    go_ret
    exact ⟨rfl, rfl⟩
  · obtain ⟨m, rfl⟩ := Int.eq_ofNat_of_zero_le (show 0 ≤ n by omega)
    go_enter Tryd.func19, Tryd.ntmps19
    go_wp2_with fail
    refine (power_any m m _ _ rfl (Nat.le_refl _) (by omega) (by omega)).mono ?_
    rintro e w' ⟨rfl, rfl⟩
    go_wp2_with (go_at_call 22; refine (product_any _ _ _).mono ?_; rintro e w' ⟨rfl, rfl⟩)
    go_ret
    exact ⟨rfl, rfl⟩
theorem join_any (s t : BitVec 32) (n : Int) (w : World) (h : n ≤ 9223372036854775807) : Calls Tryd.prog 20 #[U32 s, U32 t, .int .i64 n] w fun e w' => e = .returned (U32 (moved s n ^^^ t)) ∧ w = w' := by
  go_enter Tryd.func20, Tryd.ntmps20
  go_wp2_with (go_at_call 18; refine (shift_any _ _ _ h).mono ?_; rintro e w' ⟨rfl, rfl⟩)
  go_ret
  exact ⟨rfl, rfl⟩
end Go.Proofs.YthdfblhlkkbloaaDoor
