/- Days of the week, weeks, dates and days as the program tells them; what 'lives' gives. -/
import Derived.Test.YtogoiikgiohlhaaCal
namespace Go.Proofs.Ytogoiikgiohlhaa
open Go Go.RowKit

theorem near_is {n : Int} (h1 : -67108864 ≤ n) (h2 : n ≤ 67108864) : isNear n = true := by simp [isNear, h1, h2]
theorem Date_any (n : Int) (w : World) (h1 : -67108864 ≤ n) (h2 : n ≤ 67108864) :
    Calls Try.prog 10 #[.int .i64 n] w fun e w' => e = .returned (.tuple #[.int .i64 (DateMath.date n).1, .int .i64 (DateMath.date n).2.1, .int .i64 (DateMath.date n).2.2]) ∧ w = w' := by
  have P := date_any n w (by omega) (by omega)
  generalize DateMath.date n = D at *
  go_enter Try.func10, Try.ntmps10
  go_wp2_with fail
  refine (near_any _ _).mono ?_
  rintro e w' ⟨rfl, rfl⟩
  rw [near_is h1 h2]
  go_wp2_with fail
  refine P.mono ?_
  rintro e w' ⟨rfl, rfl⟩
  go_wp2
  go_ret3
  exact ⟨rfl, rfl⟩
theorem tmod7 (a : Int) (h : a < 0) : a.tmod 7 ≤ 0 ∧ -7 < a.tmod 7 ∧ (a.tmod 7 < 0 → a % 7 = a.tmod 7 + 7) ∧ (¬ a.tmod 7 < 0 → a % 7 = a.tmod 7) := by
  have h1 := tmod_neg' a 7 h
  omega
theorem Weekday_any (n : Int) (w : World) (h1 : -67108864 ≤ n) (h2 : n ≤ 67108864) :
    Calls Try.prog 12 #[.int .i64 n] w fun e w' => e = .returned (.int .i64 (DateMath.weekday n)) ∧ w = w' := by
  unfold DateMath.weekday
  by_cases h : 0 ≤ n + 3
  · go_enter Try.func12, Try.ntmps12
    go_wp2_with fail
    refine (near_any _ _).mono ?_
    rintro e w' ⟨rfl, rfl⟩
    rw [near_is h1 h2]
    go_wp2
    go_ret
    exact ⟨rfl, rfl⟩
  · obtain ⟨t1, t2, t3, t4⟩ := tmod7 (n + 3) (by omega)
    by_cases h9 : (n + 3).tmod 7 < 0
    · rw [t3 h9]
      clear t3 t4
      go_enter Try.func12, Try.ntmps12
      go_wp2_with fail
      refine (near_any _ _).mono ?_
      rintro e w' ⟨rfl, rfl⟩
      rw [near_is h1 h2]
      go_wp2
      go_ret
      exact ⟨rfl, rfl⟩
    · rw [t4 h9]
      clear t3 t4
      go_enter Try.func12, Try.ntmps12
      go_wp2_with fail
      refine (near_any _ _).mono ?_
      rintro e w' ⟨rfl, rfl⟩
      rw [near_is h1 h2]
      go_wp2
      go_ret
      exact ⟨rfl, rfl⟩
theorem year_bd (n : Int) (h1 : -67108900 ≤ n) (h2 : n ≤ 67108900) : -202000 ≤ (DateMath.date n).1 ∧ (DateMath.date n).1 ≤ 202000 := by
  obtain ⟨z, hz⟩ : ∃ z, n + 719468 = z := ⟨_, rfl⟩
  obtain ⟨era, he⟩ : ∃ era, z / 146097 = era := ⟨_, rfl⟩
  obtain ⟨o, ho⟩ : ∃ o, z - era * 146097 = o := ⟨_, rfl⟩
  obtain ⟨yr, hy⟩ : ∃ yr, DateMath.yearOf o = yr := ⟨_, rfl⟩
  have hd := date_parts n z era o yr _ _ hz he ho hy rfl rfl
  obtain ⟨y1, y2, y3, y4⟩ := DateMath.year_of o (by omega) (by omega)
  rw [hd]
  rw [hy] at y1 y2
  dsimp only
  split <;> omega
theorem week_year (n : Int) (h1 : -67108864 ≤ n) (h2 : n ≤ 67108864) (y : Int) (hy : (DateMath.date (DateMath.thursday n)).1 = y) :
    0 ≤ DateMath.thursday n - DateMath.place y 1 1 ∧ DateMath.thursday n - DateMath.place y 1 1 ≤ 365 ∧ -202000 ≤ y ∧ y ≤ 202000 ∧ DateMath.week n = (y, (DateMath.thursday n - DateMath.place y 1 1) / 7 + 1) := by
  have h3 := DateMath.in_year (DateMath.thursday n)
  have h4 := DateMath.yearLen_bd (DateMath.date (DateMath.thursday n)).1
  have h5 := DateMath.weekday_bd n
  have h6 := year_bd (DateMath.thursday n) (by unfold DateMath.thursday; omega) (by unfold DateMath.thursday; omega)
  subst hy
  refine ⟨by omega, by omega, by omega, by omega, rfl⟩
theorem ret2_i64 {a b a' b' : Int} (h : a = a' ∧ b = b') : Ending.returned (.tuple #[.int .i64 a, .int .i64 b]) = .returned (.tuple #[.int .i64 a', .int .i64 b']) := by
  obtain ⟨rfl, rfl⟩ := h; rfl
theorem Week_any (n : Int) (w : World) (h1 : -67108864 ≤ n) (h2 : n ≤ 67108864) :
    Calls Try.prog 11 #[.int .i64 n] w fun e w' => e = .returned (.tuple #[.int .i64 (DateMath.week n).1, .int .i64 (DateMath.week n).2]) ∧ w = w' := by
  obtain ⟨D, hD⟩ : ∃ D, DateMath.date (DateMath.thursday n) = D := ⟨_, rfl⟩
  obtain ⟨b1, b2, b3, b4, hw⟩ := week_year n h1 h2 D.1 (by rw [hD])
  have b5 := DateMath.weekday_bd n
  have b6 : DateMath.thursday n = n - DateMath.weekday n + 4 := rfl
  rw [hw]
  clear hw
  generalize DateMath.thursday n = t at *
  have PL := place_any D.1 1 1 w (by omega) (by omega) (by omega) (by omega) (by omega) (by omega)
  generalize DateMath.place D.1 1 1 = p at *
  go_enter Try.func11, Try.ntmps11
  go_wp2_with fail
  refine (near_any _ _).mono ?_
  rintro e w' ⟨rfl, rfl⟩
  rw [near_is h1 h2]
  go_wp2_with fail
  refine (Weekday_any n _ h1 h2).mono ?_
  rintro e w' ⟨rfl, rfl⟩
  have PD := date_any t w (by omega) (by omega)
  rw [hD] at PD
  generalize DateMath.weekday n = wd at *
  subst b6
  go_wp2_with fail
  refine PD.mono ?_
  rintro e w' ⟨rfl, rfl⟩
  go_wp2_with fail
  refine PL.mono ?_
  rintro e w' ⟨rfl, rfl⟩
  go_wp2
  go_ret2
  exact ⟨rfl, rfl⟩
theorem lives_any (w : World) : Calls Try.prog 13 #[] w fun e w' => e = .returned (.bool true) ∧ w = w' := by
  have hd : DateMath.date 0 = (1970, 1, 1) := by decide
  have P := Date_any 0 w (by omega) (by omega)
  rw [hd] at P
  go_enter Try.func13, Try.ntmps13
  go_wp2_with fail
  refine P.mono ?_
  rintro e w' ⟨rfl, rfl⟩
  go_wp2
  go_ret
  exact ⟨rfl, rfl⟩
end Go.Proofs.Ytogoiikgiohlhaa
