/- Days and dates: what each function of the calendar gives. -/
import Derived.Test.YtogoiikgiohlhaaR01
import Derived.Test.YtogoiikgiohlhaaDateMath
namespace Go.Proofs.Ytogoiikgiohlhaa
open Go Go.RowKit
abbrev I (a : Int) : Value := .int .i64 a

theorem tdiv_neg' (a b : Int) (h : a < 0) : a.tdiv b = -((-a) / b) := by
  have h1 : (-a).tdiv b = (-a) / b := Int.tdiv_eq_ediv_of_nonneg (by omega)
  rw [← h1, Int.neg_tdiv, Int.neg_neg]
theorem tmod_neg' (a b : Int) (h : a < 0) : a.tmod b = -((-a) % b) := by
  have h1 : (-a).tmod b = (-a) % b := Int.tmod_eq_emod_of_nonneg (by omega)
  rw [← h1, Int.neg_tmod, Int.neg_neg]
theorem tmod_zero (y k : Int) : y.tmod k = 0 ↔ y % k = 0 := by rw [← Int.dvd_iff_tmod_eq_zero, Int.dvd_iff_emod_eq_zero]
theorem floor_is (a b : Int) (hb : 1 ≤ b) (h : a < 0) : a / b = if a.tmod b < 0 then a.tdiv b - 1 else a.tdiv b := by
  rw [tdiv_neg' a b h, tmod_neg' a b h]
  have d2 := Int.mul_ediv_add_emod (-a) b
  have d5 := Int.emod_nonneg (-a) (show b ≠ 0 by omega)
  have d6 := Int.emod_lt_of_pos (-a) (show 0 < b by omega)
  generalize (-a) / b = q at *
  generalize (-a) % b = r at *
  obtain rfl : a = -(b * q + r) := by omega
  split
  · rw [show -(b * q + r) = (b - r) + b * (-q - 1) by rw [Int.mul_sub, Int.mul_neg]; omega, Int.add_mul_ediv_left _ _ (by omega), Int.ediv_eq_zero_of_lt (by omega) (by omega)]
    omega
  · rw [show -(b * q + r) = b * (-q) by rw [Int.mul_neg]; omega, Int.mul_ediv_cancel_left _ (by omega)]
theorem tdiv_bd (a b : Int) (hb : 1 ≤ b) (h : a < 0) : a ≤ a.tdiv b ∧ a.tdiv b ≤ 0 := by
  rw [tdiv_neg' a b h]
  have d2 : -a / b ≤ -a := Int.ediv_le_self _ (by omega)
  have d3 := Int.ediv_nonneg (show 0 ≤ -a by omega) (show 0 ≤ b by omega)
  omega

theorem floor_any (a b : Int) (hb : 1 ≤ b) (hb2 : b ≤ 1000000) (h1 : -1000000000 ≤ a) (h2 : a ≤ 1000000000) (w : World) :
    Calls Try.prog 37 #[.int .i64 a, .int .i64 b] w fun e w' => e = .returned (.int .i64 (a / b)) ∧ w = w' := by
  by_cases h : 0 ≤ a
  · have h3 : 0 ≤ a % b := Int.emod_nonneg a (by omega)
    go_enter Try.func37, Try.ntmps37
    go_wp2
    go_ret
    exact ⟨rfl, rfl⟩
  · have e3 := floor_is a b hb (by omega)
    obtain ⟨e4, e5⟩ := tdiv_bd a b hb (by omega)
    by_cases h9 : a.tmod b < 0
    · rw [if_pos h9] at e3
      rw [e3]
      clear e3
      go_enter Try.func37, Try.ntmps37
      go_wp2
      go_ret
      exact ⟨rfl, rfl⟩
    · rw [if_neg h9] at e3
      rw [e3]
      clear e3
      go_enter Try.func37, Try.ntmps37
      go_wp2
      go_ret
      exact ⟨rfl, rfl⟩

def isNear (n : Int) : Bool := decide (-67108864 ≤ n) && decide (n ≤ 67108864)
theorem near_any (n : Int) (w : World) : Calls Try.prog 21 #[.int .i64 n] w fun e w' => e = .returned (.bool (isNear n)) ∧ w = w' := by
  have e : isNear n = (decide (-67108864 ≤ n) && decide (n ≤ 67108864)) := rfl
  by_cases h : -67108864 ≤ n
  all_goals
    simp only [h, decide_true, decide_false, Bool.true_and, Bool.false_and] at e
    rw [e]
    go_enter Try.func21, Try.ntmps21
    go_wp2
    go_ret
    exact ⟨rfl, rfl⟩
theorem leap_is (y : Int) : DateMath.leap y = ((y.tmod 4 == 0 && y.tmod 100 != 0) || y.tmod 400 == 0) := by
  rw [Bool.eq_iff_iff, DateMath.leap_iff]
  simp [tmod_zero]
theorem leap_any (y : Int) (w : World) : Calls Try.prog 38 #[.int .i64 y] w fun e w' => e = .returned (.bool (DateMath.leap y)) ∧ w = w' := by
  have hl := leap_is y
  cases h4 : y.tmod 4 == 0 <;> cases h100 : y.tmod 100 != 0 <;> cases h400 : y.tmod 400 == 0
  all_goals
    rw [h4, h100, h400] at hl
    rw [hl]
    clear hl
    go_enter Try.func38, Try.ntmps38
    go_wp2
    go_ret
    exact ⟨rfl, rfl⟩
theorem days_any (y m : Int) (w : World) : Calls Try.prog 24 #[.int .i64 y, .int .i64 m] w fun e w' => e = .returned (.int .i64 (DateMath.days y m)) ∧ w = w' := by
  by_cases h2 : m = 2
  · subst h2
    have hd : DateMath.days y 2 = if DateMath.leap y then 29 else 28 := rfl
    rw [hd]
    clear hd
    cases hl : DateMath.leap y
    all_goals
      go_enter Try.func24, Try.ntmps24
      go_wp2_with fail
      refine (leap_any _ _).mono ?_
      rintro e w' ⟨rfl, rfl⟩
      rw [hl]
      go_wp2
      go_ret
      exact ⟨rfl, rfl⟩
  · have hd : DateMath.days y m = if m = 4 ∨ m = 6 ∨ m = 9 ∨ m = 11 then 30 else 31 := if_neg h2
    rw [hd]
    clear hd
    by_cases h4 : m = 4
    · subst h4
      go_enter Try.func24, Try.ntmps24
      go_wp2
      go_ret
      exact ⟨rfl, rfl⟩
    by_cases h6 : m = 6
    · subst h6
      go_enter Try.func24, Try.ntmps24
      go_wp2
      go_ret
      exact ⟨rfl, rfl⟩
    by_cases h9 : m = 9
    · subst h9
      go_enter Try.func24, Try.ntmps24
      go_wp2
      go_ret
      exact ⟨rfl, rfl⟩
    by_cases h11 : m = 11
    · subst h11
      go_enter Try.func24, Try.ntmps24
      go_wp2
      go_ret
      exact ⟨rfl, rfl⟩
    · rw [if_neg (by omega)]
      go_enter Try.func24, Try.ntmps24
      go_wp2
      go_ret
      exact ⟨rfl, rfl⟩
end Go.Proofs.Ytogoiikgiohlhaa
