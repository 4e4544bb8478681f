/- From a date to its day, from a day to its date: what each function gives. -/
import Derived.Test.YtogoiikgiohlhaaDate
namespace Go.Proofs.Ytogoiikgiohlhaa
open Go Go.RowKit

theorem era_bd (y : Int) (h1 : -1000001 ≤ y) (h2 : y ≤ 1000000) : -2600 ≤ y / 400 ∧ y / 400 ≤ 2600 ∧ 0 ≤ y - 400 * (y / 400) ∧ y - 400 * (y / 400) ≤ 399 := by omega
theorem place_any (y m d : Int) (w : World) (h1 : -1000000 ≤ y) (h2 : y ≤ 1000000) (h3 : 1 ≤ m) (h4 : m ≤ 12) (h5 : 1 ≤ d) (h6 : d ≤ 31) :
    Calls Try.prog 23 #[.int .i64 y, .int .i64 m, .int .i64 d] w fun e w' => e = .returned (.int .i64 (DateMath.place y m d)) ∧ w = w' := by
  by_cases hm : m ≤ 2
  · have hd : DateMath.place y m d = ((y - 1) / 400) * 146097 + (365 * ((y - 1) - 400 * ((y - 1) / 400)) + ((y - 1) - 400 * ((y - 1) / 400)) / 4 - ((y - 1) - 400 * ((y - 1) / 400)) / 100) + ((153 * (m + 9) + 2) / 5 + d - 1) - 719468 := by
      simp only [DateMath.place, if_pos hm, DateMath.startY, DateMath.startM]
    rw [hd]
    clear hd
    obtain ⟨b1, b2, b3, b4⟩ := era_bd (y - 1) (by omega) (by omega)
    go_enter Try.func23, Try.ntmps23
    go_wp2_with fail
    refine (floor_any _ _ (by omega) (by omega) (by omega) (by omega) _).mono ?_
    rintro e w' ⟨rfl, rfl⟩
    generalize hy : y - 1 = y' at *
    generalize he : y' / 400 = era at *
    go_wp2
    go_ret
    exact ⟨ret_i64 (by omega), rfl⟩
  · have hd : DateMath.place y m d = (y / 400) * 146097 + (365 * (y - 400 * (y / 400)) + (y - 400 * (y / 400)) / 4 - (y - 400 * (y / 400)) / 100) + ((153 * (m - 3) + 2) / 5 + d - 1) - 719468 := by
      simp only [DateMath.place, if_neg hm, DateMath.startY, DateMath.startM]
    rw [hd]
    clear hd
    obtain ⟨b1, b2, b3, b4⟩ := era_bd y (by omega) (by omega)
    go_enter Try.func23, Try.ntmps23
    go_wp2_with fail
    refine (floor_any _ _ (by omega) (by omega) (by omega) (by omega) _).mono ?_
    rintro e w' ⟨rfl, rfl⟩
    generalize he : y / 400 = era at *
    go_wp2
    go_ret
    exact ⟨ret_i64 (by omega), rfl⟩

theorem ret3_i64 {a b c a' b' c' : Int} (h : a = a' ∧ b = b' ∧ c = c') : Ending.returned (.tuple #[.int .i64 a, .int .i64 b, .int .i64 c]) = .returned (.tuple #[.int .i64 a', .int .i64 b', .int .i64 c']) := by
  obtain ⟨rfl, rfl, rfl⟩ := h; rfl
/-- A date, by its parts. -/
theorem date_parts (n z era o yr i k : Int) (hz : n + 719468 = z) (he : z / 146097 = era) (ho : z - era * 146097 = o) (hy : DateMath.yearOf o = yr) (hi : o - DateMath.startY yr = i) (hk : (5 * i + 2) / 153 = k) :
    DateMath.date n = ((if (if k + 3 > 12 then k + 3 - 12 else k + 3) ≤ 2 then yr + 400 * era + 1 else yr + 400 * era), (if k + 3 > 12 then k + 3 - 12 else k + 3), i - DateMath.startM k + 1) := by
  subst hz he ho hy hi hk
  rfl
theorem date_any (n : Int) (w : World) (h1 : -67108900 ≤ n) (h2 : n ≤ 67108900) :
    Calls Try.prog 22 #[.int .i64 n] w fun e w' => e = .returned (.tuple #[.int .i64 (DateMath.date n).1, .int .i64 (DateMath.date n).2.1, .int .i64 (DateMath.date n).2.2]) ∧ w = w' := by
  obtain ⟨z, hz⟩ : ∃ z, n + 719468 = z := ⟨_, rfl⟩
  obtain ⟨era, he⟩ : ∃ era, z / 146097 = era := ⟨_, rfl⟩
  obtain ⟨o, ho⟩ : ∃ o, z - era * 146097 = o := ⟨_, rfl⟩
  obtain ⟨yr, hy⟩ : ∃ yr, DateMath.yearOf o = yr := ⟨_, rfl⟩
  obtain ⟨i, hi⟩ : ∃ i, o - DateMath.startY yr = i := ⟨_, rfl⟩
  obtain ⟨k, hk⟩ : ∃ k, (5 * i + 2) / 153 = k := ⟨_, rfl⟩
  have hd := date_parts n z era o yr i k hz he ho hy hi hk
  have o1 : 0 ≤ o := by omega
  have o2 : o ≤ 146096 := by omega
  have e1 : -500 ≤ era := by omega
  have e2 : era ≤ 500 := by omega
  obtain ⟨y1, y2, y3, y4⟩ := DateMath.year_of o o1 (by omega)
  rw [hy] at y1 y2 y3 y4
  have y5 := DateMath.lenY_bd yr
  have i1 : 0 ≤ i := by omega
  have i2 : i ≤ 365 := by omega
  have k1 : 0 ≤ k := by omega
  have k2 : k ≤ 11 := by omega
  clear y3 y4 y5
  unfold DateMath.yearOf DateMath.guess at hy
  unfold DateMath.startY at hi
  rw [hd]
  clear hd
  by_cases hk9 : k + 3 > 12
  · rw [if_pos hk9, if_pos (by omega)]
    go_enter Try.func22, Try.ntmps22
    go_wp2_with fail
    refine (floor_any _ _ (by omega) (by omega) (by omega) (by omega) _).mono ?_
    rintro e w' ⟨rfl, rfl⟩
    simp only [he]
    clear hz he
    go_wp2
    go_ret3
    exact ⟨ret3_i64 ⟨rfl, rfl, rfl⟩, rfl⟩
  · rw [if_neg hk9, if_neg (by omega)]
    go_enter Try.func22, Try.ntmps22
    go_wp2_with fail
    refine (floor_any _ _ (by omega) (by omega) (by omega) (by omega) _).mono ?_
    rintro e w' ⟨rfl, rfl⟩
    simp only [he]
    clear hz he
    go_wp2
    go_ret3
    exact ⟨ret3_i64 ⟨rfl, rfl, rfl⟩, rfl⟩
end Go.Proofs.Ytogoiikgiohlhaa
