/- Periods of times, in plain mathematics: what is between two times of one period is of that period. No program stands here. -/
import Derived.Test.YtogoiikgiohlhaaDateMath
namespace DateMath

/-- A time's period by a rule. -/
def per (r : Nat) (t : Int) : Int × Int :=
  if r = 1 then (t / 86400, t % 86400 / 3600) else if r = 2 then (t / 86400, 0) else if r = 3 then week (t / 86400) else if r = 4 then ((date (t / 86400)).1, (date (t / 86400)).2.1) else ((date (t / 86400)).1, 0)
theorem place_mono_year (y : Int) (k : Nat) : place y 1 1 ≤ place (y + k) 1 1 := by
  induction k with
  | zero => simp
  | succ k ih =>
    have := place_year (y + k)
    have := yearLen_bd (y + k)
    rw [show y + ((k + 1 : Nat) : Int) = y + k + 1 by omega]
    omega
theorem year_between {a b c : Int} (h1 : a ≤ b) (h2 : b ≤ c) (h : (date a).1 = (date c).1) : (date b).1 = (date c).1 := by
  have ha := in_year a
  have hc := in_year c
  rw [h] at ha
  exact year_is b _ (by omega) (by omega)
theorem month_between {a b c : Int} (h1 : a ≤ b) (h2 : b ≤ c) (h : (date a).1 = (date c).1) (k : (date a).2.1 = (date c).2.1) : (date b).1 = (date c).1 ∧ (date b).2.1 = (date c).2.1 := by
  obtain ⟨⟨a1, a2, a3, a4⟩, ap⟩ := date_valid a
  obtain ⟨⟨c1, c2, c3, c4⟩, cp⟩ := date_valid c
  rw [h, k] at ap
  rw [place_day] at ap cp
  have hb : date b = ((date c).1, (date c).2.1, b - place (date c).1 (date c).2.1 1 + 1) :=
    date_is ⟨c1, c2, by omega, by omega⟩ (by rw [place_day]; omega)
  rw [hb]
  exact ⟨rfl, rfl⟩
theorem week_between {a b c : Int} (h1 : a ≤ b) (h2 : b ≤ c) (h : week a = week c) : week b = week c := by
  have e1 : (date (thursday a)).1 = (date (thursday c)).1 := show (week a).1 = (week c).1 by rw [h]
  have e2 : (thursday a - place (date (thursday a)).1 1 1) / 7 + 1 = (thursday c - place (date (thursday c)).1 1 1) / 7 + 1 := show (week a).2 = (week c).2 by rw [h]
  rw [e1] at e2
  have ta : thursday a = thursday c := by
    unfold thursday weekday at *
    omega
  have tb : thursday b = thursday c := by
    unfold thursday weekday at *
    omega
  unfold week
  rw [tb]
theorem per_between (r : Nat) {a b c : Int} (h1 : a ≤ b) (h2 : b ≤ c) (h : per r a = per r c) : per r b = per r c := by
  have d1 : a / 86400 ≤ b / 86400 := by omega
  have d2 : b / 86400 ≤ c / 86400 := by omega
  by_cases e1 : r = 1
  · simp only [per, if_pos e1, Prod.mk.injEq] at h ⊢
    obtain ⟨x1, x2⟩ := h
    have x3 : b / 86400 = c / 86400 := by omega
    have x4 : a % 86400 ≤ b % 86400 := by omega
    have x5 : b % 86400 ≤ c % 86400 := by omega
    have y1 := Int.ediv_le_ediv (show (0 : Int) < 3600 by decide) x4
    have y2 := Int.ediv_le_ediv (show (0 : Int) < 3600 by decide) x5
    rw [x2] at y1
    exact ⟨x3, Int.le_antisymm y2 y1⟩
  by_cases e2 : r = 2
  · simp only [per, if_neg e1, if_pos e2, Prod.mk.injEq, and_true] at h ⊢
    omega
  by_cases e3 : r = 3
  · simp only [per, if_neg e1, if_neg e2, if_pos e3] at h ⊢
    exact week_between d1 d2 h
  by_cases e4 : r = 4
  · simp only [per, if_neg e1, if_neg e2, if_neg e3, if_pos e4, Prod.mk.injEq] at h ⊢
    exact month_between d1 d2 h.1 h.2
  · simp only [per, if_neg e1, if_neg e2, if_neg e3, if_neg e4, Prod.mk.injEq, and_true] at h ⊢
    exact year_between d1 d2 h
end DateMath
