/- The law's walk: PruneDays. -/
import Derived.Test.YtogoiikgiohlhaaRefDayW
namespace Go.Proofs.Ytogoiikgiohlhaa
open Go Go.RowKit

theorem pruneDays_walk (y m d : Int) (w : World) (hy : -9223372036854775808 ≤ y ∧ y ≤ 9223372036854775807) (hm : -9223372036854775808 ≤ m ∧ m ≤ 9223372036854775807) (hd : -9223372036854775808 ≤ d ∧ d ≤ 9223372036854775807) :
    Calls Try.prog 4 #[.int .i64 y, .int .i64 m, .int .i64 d] w fun e w' => e = .returned (.bool true) ∧ Below w.heap.size w w' := by
  have P1 := Day_any y m d w hy hm hd
  have P2 := refDay_any y m d w
  have LV := lives_any
  generalize dayOf y m d = D at *
  clear hy hm hd
  obtain ⟨p, b⟩ := D
  cases b
  all_goals
    simp only at P1 P2
    go_enter Try.func4, Try.ntmps4
    go_wp2_with fail
    refine P1.mono ?_
    rintro e w' ⟨rfl, rfl⟩
    go_wp2_with fail
    refine P2.mono ?_
    rintro e w1 ⟨rfl, hb⟩
    go_wp2_with fail
    refine (LV _).mono ?_
    rintro e w' ⟨rfl, rfl⟩
    go_wp2
    go_ret
    exact ⟨rfl, hb⟩
end Go.Proofs.Ytogoiikgiohlhaa
