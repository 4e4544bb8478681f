/- Times split into days and seconds, periods: the program's. -/
import Derived.Test.YtogoiikgiohlhaaPerMath
import Derived.Test.YtogoiikgiohlhaaRefDayW
import Derived.Test.YtogoiikgiohlhaaClosure
namespace Go.Proofs.Ytogoiikgiohlhaa
open Go Go.RowKit

theorem tdiv_day (t : Int) (h1 : -1099511627776 ≤ t) (h : t < 0) : -12725830 ≤ t.tdiv 86400 ∧ t.tdiv 86400 ≤ 0 ∧ -86400 < t.tmod 86400 ∧ t.tmod 86400 ≤ 0 ∧
    (t.tmod 86400 < 0 → t / 86400 = t.tdiv 86400 - 1 ∧ t % 86400 = t.tmod 86400 + 86400) ∧ (¬ t.tmod 86400 < 0 → t / 86400 = t.tdiv 86400 ∧ t % 86400 = t.tmod 86400) := by
  rw [tdiv_neg' _ _ h, tmod_neg' _ _ h]
  omega
theorem split_any (t : Int) (w : World) (h1 : -1099511627776 ≤ t) (h2 : t ≤ 1099511627776) :
    Calls Try.prog 51 #[.int .i64 t] w fun e w' => e = .returned (.tuple #[.int .i64 (t / 86400), .int .i64 (t % 86400)]) ∧ w = w' := by
  by_cases h : 0 ≤ t
  · have b1 : 0 ≤ t % 86400 := by omega
    go_enter Try.func51, Try.ntmps51
    go_wp2
    go_ret2
    exact ⟨rfl, rfl⟩
  · obtain ⟨a1, a2, a3, a4, a5, a6⟩ := tdiv_day t h1 (by omega)
    by_cases hM : t.tmod 86400 < 0
    · rw [(a5 hM).1, (a5 hM).2]
      clear a5 a6
      go_enter Try.func51, Try.ntmps51
      go_wp2
      go_ret2
      exact ⟨rfl, rfl⟩
    · rw [(a6 hM).1, (a6 hM).2]
      clear a5 a6
      go_enter Try.func51, Try.ntmps51
      go_wp2
      go_ret2
      exact ⟨rfl, rfl⟩
theorem refSplit_any (t : Int) (w : World) (h1 : -1099511627776 ≤ t) (h2 : t ≤ 1099511627776) :
    Calls Try.prog 34 #[.int .i64 t] w fun e w' => e = .returned (.tuple #[.int .i64 (t / 86400), .int .i64 (t % 86400)]) ∧ w = w' := by
  by_cases h : 0 ≤ t
  · have b1 : 0 ≤ t % 86400 := by omega
    go_enter Try.func34, Try.ntmps34
    go_wp2
    go_ret2
    exact ⟨rfl, rfl⟩
  · obtain ⟨a1, a2, a3, a4, a5, a6⟩ := tdiv_day t h1 (by omega)
    by_cases hM : t.tmod 86400 < 0
    · rw [(a5 hM).1, (a5 hM).2]
      clear a5 a6
      go_enter Try.func34, Try.ntmps34
      go_wp2
      go_ret2
      exact ⟨rfl, rfl⟩
    · rw [(a6 hM).1, (a6 hM).2]
      clear a5 a6
      go_enter Try.func34, Try.ntmps34
      go_wp2
      go_ret2
      exact ⟨rfl, rfl⟩
abbrev perV (p : Int × Int) : Value := .agg #[.int .i64 p.1, .int .i64 p.2]
theorem per_one (t : Int) : DateMath.per 1 t = (t / 86400, t % 86400 / 3600) := rfl
theorem per_two (t : Int) : DateMath.per 2 t = (t / 86400, 0) := rfl
theorem per_three (t : Int) : DateMath.per 3 t = DateMath.week (t / 86400) := rfl
theorem per_four (t : Int) : DateMath.per 4 t = ((DateMath.date (t / 86400)).1, (DateMath.date (t / 86400)).2.1) := rfl
theorem per_five (t : Int) : DateMath.per 5 t = ((DateMath.date (t / 86400)).1, 0) := rfl
theorem per_zero (t : Int) : DateMath.per 0 t = ((DateMath.date (t / 86400)).1, 0) := rfl
def PerPost (w : World) (p : Int × Int) (e : Ending) (w' : World) : Prop := e = .returned (perV p) ∧ Below w.heap.size w w'
set_option maxHeartbeats 1000000 in
theorem period_any (r : Nat) (hr : r ≤ 5) (t : Int) (w : World) (h1 : -1099511627776 ≤ t) (h2 : t ≤ 1099511627776) :
    Calls Try.prog 44 #[.int .i64 r, .int .i64 t] w (PerPost w (DateMath.per r t)) := by
  have SP := fun w => split_any t w h1 h2
  have b1 : -12725830 ≤ t / 86400 := by omega
  have b2 : t / 86400 ≤ 12725830 := by omega
  have b3 : 0 ≤ t % 86400 := by omega
  have b4 : t % 86400 < 86400 := by omega
  have P1 := per_one t
  have P2 := per_two t
  have P3 := per_three t
  have P4 := per_four t
  have P5 := per_five t
  have P0 := per_zero t
  generalize t / 86400 = day at *
  generalize t % 86400 = sec at *
  have DT := fun w => Date_any day w (by omega) (by omega)
  have WK := fun w => Week_any day w (by omega) (by omega)
  generalize DateMath.date day = D at *
  generalize DateMath.week day = WW at *
  have hr6 : r = 0 ∨ r = 1 ∨ r = 2 ∨ r = 3 ∨ r = 4 ∨ r = 5 := by omega
  rcases hr6 with rfl | rfl | rfl | rfl | rfl | rfl
  all_goals
    first | rw [P0] | rw [P1] | rw [P2] | rw [P3] | rw [P4] | rw [P5]
    clear P0 P1 P2 P3 P4 P5 hr h1 h2
    go_enter Try.func44, Try.ntmps44
    go_wp2_with fail
    refine (SP _).mono ?_
    rintro e w' ⟨rfl, rfl⟩
    go_wp2_with fail
    refine (DT _).mono ?_
    rintro e w' ⟨rfl, rfl⟩
    first
      | (go_wp2_with fail
         refine (WK _).mono ?_
         rintro e w' ⟨rfl, rfl⟩
         clear SP DT WK
         go_wp2)
      | (clear SP DT WK
         go_wp2)
    refine bodyPost_ret (results_cell_row rfl _ _ w.heap.size _ _ _ _ rfl (heap_alloc_new w _) Try.underlying69 rfl (by kernel_rfl)) rfl ?_
    exact ⟨rfl, (Below.refl _ _).alloc (Nat.le_refl _) _⟩
end Go.Proofs.Ytogoiikgiohlhaa
