/- The law's walk: PruneBack. -/
import Derived.Test.YtogoiikgiohlhaaDay
namespace Go.Proofs.Ytogoiikgiohlhaa
open Go Go.RowKit

theorem withinB_bd (x lo hi : Int) (h : lo ≤ hi) : lo ≤ within x lo hi ∧ within x lo hi ≤ hi := by unfold within; split <;> (try split) <;> omega
theorem year_near (n : Int) (h1 : -35000000 ≤ n) (h2 : n ≤ 35000000) : -100000 ≤ (DateMath.date n).1 ∧ (DateMath.date n).1 ≤ 100000 := by
  obtain ⟨z, hz⟩ : ∃ z, n + 719468 = z := ⟨_, rfl⟩
  obtain ⟨era, he⟩ : ∃ era, z / 146097 = era := ⟨_, rfl⟩
  obtain ⟨o, ho⟩ : ∃ o, z - era * 146097 = o := ⟨_, rfl⟩
  obtain ⟨yr, hy⟩ : ∃ yr, DateMath.yearOf o = yr := ⟨_, rfl⟩
  have hd := date_parts n z era o yr _ _ hz he ho hy rfl rfl
  obtain ⟨y1, y2, y3, y4⟩ := DateMath.year_of o (by omega) (by omega)
  rw [hd]
  rw [hy] at y1 y2
  dsimp only
  split <;> omega
theorem place_near (y m d : Int) (h1 : -100000 ≤ y) (h2 : y ≤ 100000) (h3 : 1 ≤ m) (h4 : m ≤ 12) (h5 : 1 ≤ d) (h6 : d ≤ 31) : -67108864 ≤ DateMath.place y m d ∧ DateMath.place y m d ≤ 67108864 := by
  simp only [DateMath.place, DateMath.startY, DateMath.startM]
  split <;> omega
theorem dayOf_date (n : Int) (h1 : -35000000 ≤ n) (h2 : n ≤ 35000000) : dayOf (DateMath.date n).1 (DateMath.date n).2.1 (DateMath.date n).2.2 = (n, true) := by
  obtain ⟨hv, hp⟩ := DateMath.date_valid n
  obtain ⟨y1, y2⟩ := year_near n h1 h2
  have hk : dayOk (DateMath.date n).1 (DateMath.date n).2.1 (DateMath.date n).2.2 := ⟨y1, y2, hv⟩
  unfold dayOf
  rw [if_pos hk, hp]

theorem pruneBack_walk (N y m d : Int) (w : World) (_hN : -9223372036854775808 ≤ N ∧ N ≤ 9223372036854775807) (hy : -9223372036854775808 ≤ y ∧ y ≤ 9223372036854775807) (hm : -9223372036854775808 ≤ m ∧ m ≤ 9223372036854775807) (hd : -9223372036854775808 ≤ d ∧ d ≤ 9223372036854775807) :
    Calls Try.prog 5 #[.int .i64 N, .int .i64 y, .int .i64 m, .int .i64 d] w fun e w' => e = .returned (.bool true) ∧ Below w.heap.size w w' := by
  obtain ⟨n, hn⟩ : ∃ n, within N (-35000000) 35000000 = n := ⟨_, rfl⟩
  obtain ⟨n1, n2⟩ := withinB_bd N (-35000000) 35000000 (by omega)
  rw [hn] at n1 n2
  have D1 := Date_any n w (by omega) (by omega)
  have db := DateMath.days_bd (DateMath.date n).1 (DateMath.date n).2.1
  obtain ⟨⟨v1, v2, v3, v4⟩, vp⟩ := DateMath.date_valid n
  clear vp
  have yb := year_bd n (by omega) (by omega)
  have P1 := Day_any (DateMath.date n).1 (DateMath.date n).2.1 (DateMath.date n).2.2 w (by omega) (by omega) (by omega)
  rw [dayOf_date n n1 n2] at P1
  have P2 := Day_any y m d w hy hm hd
  have LV := lives_any w
  generalize DateMath.date n = D at *
  obtain ⟨a, b, c⟩ := D
  simp only at D1 P1
  have hr : dayOf y m d = if dayOk y m d then (DateMath.place y m d, true) else (0, false) := rfl
  clear db v1 v2 v3 v4 yb
  by_cases hk : dayOk y m d
  · rw [if_pos hk] at hr
    rw [hr] at P2
    obtain ⟨h1, h2, h3, h4, h5, h6⟩ := hk
    have hb := DateMath.days_bd y m
    obtain ⟨p1, p2⟩ := place_near y m d h1 h2 h3 h4 h5 (by omega)
    have D2 := Date_any (DateMath.place y m d) w p1 p2
    rw [DateMath.date_place y m d ⟨h3, h4, h5, h6⟩] at D2
    clear hr h1 h2 h3 h4 h5 h6 hb
    generalize DateMath.place y m d = p at *
    simp only at P2 D2
    go_enter Try.func5, Try.ntmps5
    go_wp2_with fail
    refine (within_any _ _ _ _).mono ?_
    rintro e w' ⟨rfl, rfl⟩
    rw [hn]
    clear hn
    go_wp2_with fail
    refine D1.mono ?_
    rintro e w' ⟨rfl, rfl⟩
    go_wp2_with fail
    refine P1.mono ?_
    rintro e w' ⟨rfl, rfl⟩
    go_wp2_with fail
    refine P2.mono ?_
    rintro e w' ⟨rfl, rfl⟩
    go_wp2_with fail
    refine D2.mono ?_
    rintro e w' ⟨rfl, rfl⟩
    go_wp2_with fail
    refine LV.mono ?_
    rintro e w' ⟨rfl, rfl⟩
    go_wp2
    go_ret
    exact ⟨rfl, Below.refl _ _⟩
  · rw [if_neg hk] at hr
    rw [hr] at P2
    clear hr hk
    simp only at P2
    go_enter Try.func5, Try.ntmps5
    go_wp2_with fail
    refine (within_any _ _ _ _).mono ?_
    rintro e w' ⟨rfl, rfl⟩
    rw [hn]
    clear hn
    go_wp2_with fail
    refine D1.mono ?_
    rintro e w' ⟨rfl, rfl⟩
    go_wp2_with fail
    refine P1.mono ?_
    rintro e w' ⟨rfl, rfl⟩
    go_wp2_with fail
    refine P2.mono ?_
    rintro e w' ⟨rfl, rfl⟩
    go_wp2_with fail
    refine LV.mono ?_
    rintro e w' ⟨rfl, rfl⟩
    go_wp2
    go_ret
    exact ⟨rfl, Below.refl _ _⟩
end Go.Proofs.Ytogoiikgiohlhaa
