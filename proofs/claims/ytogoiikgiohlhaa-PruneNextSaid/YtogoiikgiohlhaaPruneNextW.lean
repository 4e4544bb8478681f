/- The law's walk: PruneNext. -/
import Derived.Test.YtogoiikgiohlhaaWeek
namespace Go.Proofs.Ytogoiikgiohlhaa
open Go Go.RowKit

theorem within_bd (x lo hi : Int) (h : lo ≤ hi) : lo ≤ within x lo hi ∧ within x lo hi ≤ hi := by unfold within; split <;> (try split) <;> omega

set_option maxRecDepth 40000 in
set_option maxHeartbeats 4000000 in
theorem pruneNext_walk (N : Int) (w : World) (_hN : -9223372036854775808 ≤ N ∧ N ≤ 9223372036854775807) :
    Calls Try.prog 3 #[.int .i64 N] w fun e w' => e = .returned (.bool true) ∧ Below w.heap.size w w' := by
  obtain ⟨n, hn⟩ : ∃ n, within N (-35000000) 35000000 = n := ⟨_, rfl⟩
  obtain ⟨n1, n2⟩ := within_bd N (-35000000) 35000000 (by omega)
  rw [hn] at n1 n2
  have D1 := Date_any n w (by omega) (by omega)
  have D2 := Date_any (n + 1) w (by omega) (by omega)
  have W1 := Week_any n w (by omega) (by omega)
  have W2 := Week_any (n + 1) w (by omega) (by omega)
  have Y1 := Weekday_any n w (by omega) (by omega)
  have Y2 := Weekday_any (n + 1) w (by omega) (by omega)
  have LV := lives_any w
  have yn := DateMath.weekday_next n
  obtain ⟨y1, y2⟩ := DateMath.weekday_bd n
  obtain ⟨q1, q2⟩ := DateMath.week_bd n
  have ws := DateMath.week_same n
  have wn := DateMath.week_next n
  have dn := DateMath.date_next n (DateMath.date n).1 (DateMath.date n).2.1 (DateMath.date n).2.2 rfl
  have db := DateMath.days_bd (DateMath.date n).1 (DateMath.date n).2.1
  obtain ⟨⟨v1, v2, v3, v4⟩, vp⟩ := DateMath.date_valid n
  clear vp
  have yb := year_bd n (by omega) (by omega)
  have pb : -202000 ≤ (DateMath.week n).1 ∧ (DateMath.week n).1 ≤ 202000 := by
    have h := week_year n (by omega) (by omega) _ rfl
    rw [h.2.2.2.2]
    exact ⟨h.2.2.1, h.2.2.2.1⟩
  rw [yn] at Y2
  clear yn
  generalize DateMath.weekday n = wd at *
  generalize DateMath.date n = D at *
  generalize DateMath.date (n + 1) = E at *
  generalize DateMath.week n = P at *
  generalize DateMath.week (n + 1) = Q at *
  obtain ⟨a, b, c⟩ := D
  obtain ⟨p, q⟩ := P
  simp only at dn db v1 v2 v3 v4 q1 q2 D1 W1 ws wn yb pb
  generalize DateMath.days a b = L at *
  have hwd : wd = 7 ∧ (((Q.1 = p ∧ Q.2 = q + 1) ∨ (Q.1 = p + 1 ∧ Q.2 = 1 ∧ 52 ≤ q))) ∨ (wd < 7 ∧ Q = (p, q)) := by
    by_cases h : wd < 7
    · right; exact ⟨h, ws h⟩
    · left; exact ⟨by omega, wn (by omega)⟩
  clear ws wn
  obtain ⟨u, v⟩ := Q
  obtain ⟨x, y, z⟩ := E
  simp only [Prod.mk.injEq] at hwd dn D2 W2
  have hd : (x = a ∧ y = b ∧ (z == c + 1) = true ∧ (z == 1) = false) ∨ (x = a ∧ (y == b) = false ∧ (y == b + 1) = true ∧ z = 1 ∧ 28 ≤ c) ∨ ((x == a) = false ∧ (x == a + 1) = true ∧ y = 1 ∧ b = 12 ∧ z = 1 ∧ 28 ≤ c) := by
    simp only [beq_iff_eq, beq_eq_false_iff_ne]
    omega
  have hk : (wd = 7 ∧ u = p ∧ (q == v) = false ∧ (v == q + 1) = true) ∨ (wd = 7 ∧ (p == u) = false ∧ (u == p) = false ∧ (u == p + 1) = true ∧ v = 1 ∧ 52 ≤ q) ∨ ((wd == 7) = false ∧ wd < 7 ∧ u = p ∧ v = q) := by
    simp only [beq_iff_eq, beq_eq_false_iff_ne]
    omega
  clear hwd dn
  obtain ⟨pb1, pb2⟩ := pb
  rcases hd with ⟨rfl, rfl, _, _⟩ | ⟨rfl, _, _, rfl, _⟩ | ⟨_, _, rfl, rfl, rfl, _⟩ <;> rcases hk with ⟨rfl, rfl, _, _⟩ | ⟨rfl, _, _, _, rfl, _⟩ | ⟨_, _, rfl, rfl⟩
  all_goals
    go_enter Try.func3, Try.ntmps3
    go_wp2_with fail
    refine (within_any _ _ _ _).mono ?_
    rintro e w' ⟨rfl, rfl⟩
    rw [hn]
    go_wp2_with fail
    refine D1.mono ?_
    rintro e w' ⟨rfl, rfl⟩
    go_wp2_with fail
    refine D2.mono ?_
    rintro e w' ⟨rfl, rfl⟩
    go_wp2_with fail
    refine W1.mono ?_
    rintro e w' ⟨rfl, rfl⟩
    go_wp2_with fail
    refine W2.mono ?_
    rintro e w' ⟨rfl, rfl⟩
    go_wp2_with fail
    refine Y1.mono ?_
    rintro e w' ⟨rfl, rfl⟩
    clear hn D1 D2 W1 W2 Y1 v1 v2 v3 v4 db yb
    go_wp2_with fail
    refine Y2.mono ?_
    rintro e w' ⟨rfl, rfl⟩
    go_wp2_with fail
    refine LV.mono ?_
    rintro e w' ⟨rfl, rfl⟩
    go_wp2
    go_ret
    exact ⟨rfl, Below.refl _ _⟩
end Go.Proofs.Ytogoiikgiohlhaa
