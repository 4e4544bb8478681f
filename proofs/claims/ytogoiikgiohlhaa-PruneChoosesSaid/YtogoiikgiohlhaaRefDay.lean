/- Days and dates in the document's own answer: what each function gives. -/
import Derived.Test.YtogoiikgiohlhaaDay
namespace Go.Proofs.Ytogoiikgiohlhaa
open Go Go.RowKit

theorem refLeap_is (y : Int) : DateMath.leap y = if y.tmod 100 = 0 then (y.tmod 400 == 0) else (y.tmod 4 == 0) := by
  rw [Bool.eq_iff_iff, DateMath.leap_iff]
  by_cases h : y.tmod 100 = 0
  · rw [if_pos h]
    simp [tmod_zero] at h ⊢
    omega
  · rw [if_neg h]
    simp [tmod_zero] at h ⊢
    omega
theorem refLeap_any (y : Int) (w : World) : Calls Try.prog 39 #[.int .i64 y] w fun e w' => e = .returned (.bool (DateMath.leap y)) ∧ w = w' := by
  have hl := refLeap_is y
  by_cases h : y.tmod 100 = 0
  · rw [if_pos h] at hl
    rw [hl]
    clear hl
    go_enter Try.func39, Try.ntmps39
    go_wp2
    go_ret
    exact ⟨rfl, rfl⟩
  · rw [if_neg h] at hl
    rw [hl]
    clear hl
    go_enter Try.func39, Try.ntmps39
    go_wp2
    go_ret
    exact ⟨rfl, rfl⟩
theorem refYear_any (y : Int) (w : World) : Calls Try.prog 26 #[.int .i64 y] w fun e w' => e = .returned (.int .i64 (DateMath.yearLen y)) ∧ w = w' := by
  have LA := refLeap_any y w
  unfold DateMath.yearLen
  generalize DateMath.leap y = L at *
  cases L
  all_goals
    go_enter Try.func26, Try.ntmps26
    go_wp2_with fail
    refine LA.mono ?_
    rintro e w' ⟨rfl, rfl⟩
    go_wp2
    go_ret
    exact ⟨rfl, rfl⟩
set_option maxHeartbeats 4000000 in
theorem refMonth_any (y m : Int) (w : World) (h1 : 1 ≤ m) (h2 : m ≤ 12) : Calls Try.prog 25 #[.int .i64 y, .int .i64 m] w fun e w' => e = .returned (.int .i64 (DateMath.days y m)) ∧ Below w.heap.size w w' := by
  have LA : ∀ v : World, Calls Try.prog 39 #[.int .i64 y] v fun e w' => e = .returned (.bool (DateMath.leap y)) ∧ v = w' := fun v => refLeap_any y v
  have hm : m = 1 ∨ m = 2 ∨ m = 3 ∨ m = 4 ∨ m = 5 ∨ m = 6 ∨ m = 7 ∨ m = 8 ∨ m = 9 ∨ m = 10 ∨ m = 11 ∨ m = 12 := by omega
  unfold DateMath.days
  by_cases h : m = 2
  · subst h
    clear hm
    generalize DateMath.leap y = L at *
    cases L
    all_goals
      go_enter Try.func25, Try.ntmps25
      go_wp2_with fail
      refine (LA _).mono ?_
      rintro e w' ⟨rfl, rfl⟩
      go_wp2
      go_ret
      exact ⟨rfl, (Below.refl _ _).alloc (Nat.le_refl _) _⟩
  · clear LA
    rcases hm with rfl | rfl | rfl | rfl | rfl | rfl | rfl | rfl | rfl | rfl | rfl | rfl
    case inr.inl => exact absurd rfl h
    all_goals
      clear h h1 h2
      go_enter Try.func25, Try.ntmps25
      go_wp2
      go_ret
      exact ⟨rfl, (Below.refl _ _).alloc (Nat.le_refl _) _⟩

def YearsInv (B t n i : Int) : Prop := 1970 ≤ i ∧ i ≤ t ∧ n = B + DateMath.place i 1 1 ∧ 0 ≤ DateMath.place i 1 1 ∧ DateMath.place i 1 1 ≤ 366 * (i - 1970)
theorem years_start (B t : Int) (h : 1970 ≤ t) : YearsInv B t B 1970 := by
  have := DateMath.place_epoch
  refine ⟨by omega, h, ?_, ?_, ?_⟩ <;> omega
theorem years_step {B t n i : Int} (h : YearsInv B t n i) (hi : i < t) : YearsInv B t (n + DateMath.yearLen i) (i + 1) := by
  obtain ⟨h1, h2, h3, h4, h5⟩ := h
  have := DateMath.place_year i
  have := DateMath.yearLen_bd i
  refine ⟨?_, ?_, ?_, ?_, ?_⟩ <;> omega
def MonthsInv (B t m n i : Int) : Prop := 1 ≤ i ∧ i ≤ m ∧ n = B + DateMath.place t i 1 ∧ 0 ≤ DateMath.place t i 1 ∧ DateMath.place t i 1 ≤ 366 * 400 + 31 * i
theorem months_start {B t n i : Int} (m : Int) (h : YearsInv B t n i) (ht : t ≤ 2369) (hi : ¬ i < t) (hm : 1 ≤ m) : MonthsInv B t m n 1 := by
  obtain ⟨h1, h2, h3, h4, h5⟩ := h
  obtain rfl : i = t := by omega
  refine ⟨?_, ?_, ?_, ?_, ?_⟩ <;> omega
theorem months_step {B t m n i : Int} (h : MonthsInv B t m n i) (hm : m ≤ 12) (hi : i < m) : MonthsInv B t m (n + DateMath.days t i) (i + 1) := by
  obtain ⟨h1, h2, h3, h4, h5⟩ := h
  have := DateMath.place_month t i h1 (by omega)
  have := DateMath.days_bd t i
  refine ⟨?_, ?_, ?_, ?_, ?_⟩ <;> omega
theorem months_done {B t m n i : Int} (e y d : Int) (h : MonthsInv B t m n i) (hi : ¬ i < m) (hy : y = t + 400 * e) (hB : B = 146097 * e) : n + d - 1 = DateMath.place y m d := by
  obtain ⟨h1, h2, h3, h4, h5⟩ := h
  obtain rfl : i = m := by omega
  subst hy
  rw [DateMath.place_cycle, DateMath.place_day]
  omega
theorem yearsBd {B t n i : Int} (h : YearsInv B t n i) (ht : t ≤ 2369) (hB : -60000000 ≤ B ∧ B ≤ 60000000) : 1970 ≤ i ∧ i ≤ t ∧ -70000000 ≤ n ∧ n ≤ 70000000 := by
  obtain ⟨h1, h2, h3, h4, h5⟩ := h
  omega
theorem monthsBd {B t m n i : Int} (h : MonthsInv B t m n i) (hm : m ≤ 12) (hB : -60000000 ≤ B ∧ B ≤ 60000000) : 1 ≤ i ∧ i ≤ m ∧ -70000000 ≤ n ∧ n ≤ 70000000 := by
  obtain ⟨h1, h2, h3, h4, h5⟩ := h
  omega
end Go.Proofs.Ytogoiikgiohlhaa
