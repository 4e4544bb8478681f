/- The day of a date, in the program: what it gives. -/
import Derived.Test.YtogoiikgiohlhaaWeek
namespace Go.Proofs.Ytogoiikgiohlhaa
open Go Go.RowKit

def dayOk (y m d : Int) : Prop := -100000 ≤ y ∧ y ≤ 100000 ∧ DateMath.valid y m d
instance (y m d : Int) : Decidable (dayOk y m d) := by unfold dayOk DateMath.valid; infer_instance
def dayOf (y m d : Int) : Int × Bool := if dayOk y m d then (DateMath.place y m d, true) else (0, false)

theorem Day_any (y m d : Int) (w : World) (hy : -9223372036854775808 ≤ y ∧ y ≤ 9223372036854775807) (hm : -9223372036854775808 ≤ m ∧ m ≤ 9223372036854775807) (hd : -9223372036854775808 ≤ d ∧ d ≤ 9223372036854775807) :
    Calls Try.prog 14 #[.int .i64 y, .int .i64 m, .int .i64 d] w fun e w' => e = .returned (.tuple #[.int .i64 (dayOf y m d).1, .bool (dayOf y m d).2]) ∧ w = w' := by
  obtain ⟨b1, b2⟩ := DateMath.days_bd y m
  have DA := days_any y m w
  have PA := place_any y m d w
  have hr : dayOf y m d = if dayOk y m d then (DateMath.place y m d, true) else (0, false) := rfl
  by_cases hk : dayOk y m d
  · rw [if_pos hk] at hr
    rw [hr]
    obtain ⟨h1, h2, h3, h4, h5, h6⟩ := hk
    have PA := PA (by omega) (by omega) h3 h4 h5 (by omega)
    clear hr
    generalize DateMath.place y m d = p at *
    generalize DateMath.days y m = L at *
    go_enter Try.func14, Try.ntmps14
    go_wp2_with fail
    refine DA.mono ?_
    rintro e w' ⟨rfl, rfl⟩
    go_wp2_with fail
    refine PA.mono ?_
    rintro e w' ⟨rfl, rfl⟩
    go_wp2
    go_ret2
    exact ⟨rfl, rfl⟩
  · rw [if_neg hk] at hr
    rw [hr]
    clear hr PA
    unfold dayOk DateMath.valid at hk
    generalize DateMath.days y m = L at *
    by_cases h1 : y < -100000
    · clear hk
      go_enter Try.func14, Try.ntmps14
      go_wp2
      go_ret2
      exact ⟨rfl, rfl⟩
    by_cases h2 : 100000 < y
    · clear hk
      go_enter Try.func14, Try.ntmps14
      go_wp2
      go_ret2
      exact ⟨rfl, rfl⟩
    by_cases h3 : m < 1
    · clear hk
      go_enter Try.func14, Try.ntmps14
      go_wp2
      go_ret2
      exact ⟨rfl, rfl⟩
    by_cases h4 : 12 < m
    · clear hk
      go_enter Try.func14, Try.ntmps14
      go_wp2
      go_ret2
      exact ⟨rfl, rfl⟩
    by_cases h5 : d < 1
    · clear hk
      go_enter Try.func14, Try.ntmps14
      go_wp2
      go_ret2
      exact ⟨rfl, rfl⟩
    · have h6 : L < d := by omega
      clear hk
      go_enter Try.func14, Try.ntmps14
      go_wp2_with fail
      refine DA.mono ?_
      rintro e w' ⟨rfl, rfl⟩
      go_wp2
      go_ret2
      exact ⟨rfl, rfl⟩
end Go.Proofs.Ytogoiikgiohlhaa
