/- Weeks and periods in the document's own answer. -/
import Derived.Test.YtogoiikgiohlhaaRefDate
namespace Go.Proofs.Ytogoiikgiohlhaa
open Go Go.RowKit

def WInv (y m d n i : Int) : Prop := 1 ≤ i ∧ i ≤ m ∧ n = d + (DateMath.place y i 1 - DateMath.place y 1 1) ∧ 0 ≤ DateMath.place y i 1 - DateMath.place y 1 1 ∧ DateMath.place y i 1 - DateMath.place y 1 1 ≤ 31 * i
theorem WInv.start (y m d : Int) (hm : 1 ≤ m) : WInv y m d d 1 := by refine ⟨?_, ?_, ?_, ?_, ?_⟩ <;> omega
theorem WInv.next {y m d n i : Int} (h : WInv y m d n i) (hm : m ≤ 12) (hi : i < m) : WInv y m d (n + DateMath.days y i) (i + 1) := by
  obtain ⟨h1, h2, h3, h4, h5⟩ := h
  have := DateMath.place_month y i h1 (by omega)
  have := DateMath.days_bd y i
  refine ⟨?_, ?_, ?_, ?_, ?_⟩ <;> omega
theorem WInv.bd {y m d n i : Int} (h : WInv y m d n i) (hm : m ≤ 12) (hd : 1 ≤ d ∧ d ≤ 31) : 1 ≤ i ∧ i ≤ m ∧ 1 ≤ n ∧ n ≤ 500 := by
  obtain ⟨h1, h2, h3, h4, h5⟩ := h; omega
theorem WInv.done {t y m d n i : Int} (h : WInv y m d n i) (hi : ¬ i < m) (hD : DateMath.date t = (y, m, d)) : (n - 1) / 7 + 1 = (t - DateMath.place y 1 1) / 7 + 1 := by
  obtain ⟨h1, h2, h3, h4, h5⟩ := h
  obtain rfl : i = m := by omega
  obtain ⟨_, hp⟩ := DateMath.date_valid t
  rw [hD, DateMath.place_day] at hp
  simp only at hp
  have : n - 1 = t - DateMath.place y 1 1 := by omega
  rw [this]
def WkRel (w : World) (y m d : Int) (x z : Value) (wr : World) : Prop := ∃ n i : Int, x = .int .i64 n ∧ z = .int .i64 i ∧ WInv y m d n i ∧ Below w.heap.size w wr
def WeekPost (w : World) (p : Int × Int) (e : Ending) (w' : World) : Prop := e = .returned (.tuple #[.int .i64 p.1, .int .i64 p.2]) ∧ Below w.heap.size w w'
set_option maxHeartbeats 1000000 in
theorem refWeek_any (n : Int) (w : World) (h1 : -67108864 ≤ n) (h2 : n ≤ 67108864) : Calls Try.prog 36 #[.int .i64 n] w (WeekPost w (DateMath.week n)) := by
  have NR := refNear_any n w h1 h2
  have WD := refWeekday_any n w h1 h2
  obtain ⟨t, ht⟩ : ∃ t, DateMath.thursday n = t := ⟨_, rfl⟩
  have htn : t = n + 4 - DateMath.weekday n := by rw [← ht]; unfold DateMath.thursday; omega
  obtain ⟨D, hD⟩ : ∃ D, DateMath.date t = D := ⟨_, rfl⟩
  have wb := DateMath.weekday_bd n
  have DT := refdate_any t w (by omega) (by omega)
  obtain ⟨⟨v1, v2, v3, v4⟩, _⟩ := DateMath.date_valid t
  have hW : DateMath.week n = (D.1, (t - DateMath.place D.1 1 1) / 7 + 1) := by unfold DateMath.week; rw [ht, hD]
  have yb := year_bd t (by omega) (by omega)
  unfold DatePost at DT
  have db := DateMath.days_bd (DateMath.date t).1 (DateMath.date t).2.1
  rw [hD] at DT v1 v2 v3 v4 yb db
  rw [hW]
  obtain ⟨y, m, d⟩ := D
  simp only at DT v1 v2 v3 v4 yb db
  have v5 : d ≤ 31 := by omega
  have HD := Lib.hid hD
  generalize DateMath.weekday n = wd at *
  have hte : n + 4 - wd = t := by omega
  have HS := Lib.hid (WInv.start y m d v1)
  have HQ := Lib.hid (fun N I (h : WInv y m d N I) (hi : ¬ I < m) => h.done hi hD)
  generalize (t - DateMath.place y 1 1) / 7 + 1 = R at *
  clear ht htn hD hW v4 db
  have y1 : -202000 ≤ y := yb.1
  have y2 : y ≤ 202000 := yb.2
  clear yb
  go_enter Try.func36, Try.ntmps36
  go_wp2_with fail
  refine NR.mono ?_
  rintro e w' ⟨rfl, rfl⟩
  go_wp2_with fail
  refine WD.mono ?_
  rintro e w' ⟨rfl, rfl⟩
  go_wp2_with fail
  refine DT.mono ?_
  rintro e w1 ⟨rfl, hb1⟩
  go_wp2
  clear hte
  go_loopw [8, 9] (fun x z wr => WkRel w y m d x z wr) (fun _ z _ => (m - intOf z).toNat)
  case atStart => exact ⟨d, 1, rfl, rfl, HS.out, hb1⟩
  case round =>
    clear HS hb1
    obtain ⟨N, i, rfl, rfl, hi, hb⟩ := hrel
    obtain ⟨a1, a2, a3, a4⟩ := hi.bd v2 ⟨v3, v5⟩
    have HB := Lib.hid hb
    clear hb
    by_cases hlt : i < m
    · have MA := fun v => refMonth_any y i v a1 (by omega)
      have mb := DateMath.days_bd y i
      have HN := Lib.hid (hi.next v2 hlt)
      clear hi
      generalize DateMath.days y i = Y at *
      go_wp2_with fail
      refine (MA _).mono ?_
      rintro e w2 ⟨rfl, hb2⟩
      have HB2 := Lib.hid (HB.out.trans (hb2.mono HB.out.size))
      clear hb2
      go_wp2
      go_roundw
      case rel => exact ⟨N + Y, i + 1, rfl, rfl, HN.out, HB2.out⟩
      case measure => simp [intOf]; omega
    · have HE := Lib.hid (HQ.out N i hi (by omega))
      clear hi
      go_wp2
      go_ret2
      exact ⟨by rw [← HE.out]; rfl, HB.out⟩
set_option maxHeartbeats 1000000 in
theorem refPeriod_any (r : Nat) (hr0 : 1 ≤ r) (hr : r ≤ 5) (t : Int) (w : World) (h1 : -1099511627776 ≤ t) (h2 : t ≤ 1099511627776) :
    Calls Try.prog 20 #[.int .i64 r, .int .i64 t] w (WeekPost w (DateMath.per r t)) := by
  have SP := fun w => refSplit_any t w h1 h2
  have b1 : -12725830 ≤ t / 86400 := by omega
  have b2 : t / 86400 ≤ 12725830 := by omega
  have b3 : 0 ≤ t % 86400 := by omega
  have b4 : t % 86400 < 86400 := by omega
  have P1 := per_one t
  have P2 := per_two t
  have P3 := per_three t
  have P4 := per_four t
  have P5 := per_five t
  generalize t / 86400 = day at *
  generalize t % 86400 = sec at *
  have DT := fun w => refDate_any day w (by omega) (by omega)
  have WK := fun w => refWeek_any day w (by omega) (by omega)
  unfold DatePost at DT
  unfold WeekPost at WK ⊢
  generalize DateMath.date day = D at *
  generalize DateMath.week day = WW at *
  have hr6 : r = 1 ∨ r = 2 ∨ r = 3 ∨ r = 4 ∨ r = 5 := by omega
  rcases hr6 with rfl | rfl | rfl | rfl | rfl
  all_goals
    first | rw [P1] | rw [P2] | rw [P3] | rw [P4] | rw [P5]
    clear P1 P2 P3 P4 P5 hr h1 h2
    go_enter Try.func20, Try.ntmps20
    go_wp2_with fail
    refine (SP _).mono ?_
    rintro e w' ⟨rfl, rfl⟩
    go_wp2_with fail
    refine (DT _).mono ?_
    rintro e w1 ⟨rfl, hb1⟩
    first
      | (go_wp2_with fail
         refine (WK _).mono ?_
         rintro e w2 ⟨rfl, hb2⟩
         have HB := Lib.hid (hb1.trans (hb2.mono hb1.size))
         clear SP DT WK
         go_wp2
         go_ret2
         exact ⟨rfl, HB.out⟩)
      | (clear SP DT WK
         go_wp2
         go_ret2
         exact ⟨rfl, hb1⟩)
end Go.Proofs.Ytogoiikgiohlhaa
