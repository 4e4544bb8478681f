/- Dates, weeks and periods in the document's own answer. -/
import Derived.Test.YtogoiikgiohlhaaPeriod
namespace Go.Proofs.Ytogoiikgiohlhaa
open Go Go.RowKit

theorem refNear_any (n : Int) (w : World) (h1 : -67108864 ≤ n) (h2 : n ≤ 67108864) : Calls Try.prog 45 #[.int .i64 n] w fun e w' => e = .returned (.bool true) ∧ w = w' := by
  go_enter Try.func45, Try.ntmps45
  go_wp2
  go_ret
  exact ⟨rfl, rfl⟩
theorem refWeekday_any (n : Int) (w : World) (h1 : -67108864 ≤ n) (h2 : n ≤ 67108864) :
    Calls Try.prog 47 #[.int .i64 n] w fun e w' => e = .returned (.int .i64 (DateMath.weekday n)) ∧ w = w' := by
  have NR := refNear_any n w h1 h2
  have hw : DateMath.weekday n = (n + 3) % 7 + 1 := rfl
  by_cases h : 0 ≤ n + 3
  · obtain ⟨m, hm⟩ : ∃ m, (n + 3) % 7 = m := ⟨_, rfl⟩
    have m1 : 0 ≤ m := by omega
    have m2 : m < 7 := by omega
    have m3 : (m + 7) % 7 = m := by omega
    rw [hw, hm]
    clear hw
    go_enter Try.func47, Try.ntmps47
    go_wp2_with fail
    refine NR.mono ?_
    rintro e w' ⟨rfl, rfl⟩
    go_wp2
    go_ret
    exact ⟨rfl, rfl⟩
  · obtain ⟨t1, t2, t3, t4⟩ := tmod7 (n + 3) (by omega)
    obtain ⟨m, hm⟩ : ∃ m, (n + 3).tmod 7 = m := ⟨_, rfl⟩
    rw [hm] at t1 t2 t3 t4
    have hv : (m + 7) % 7 = DateMath.weekday n - 1 := by
      by_cases c : m < 0
      · have := t3 c; omega
      · have := t4 c; omega
    have hb := DateMath.weekday_bd n
    obtain ⟨v, hv2⟩ : ∃ v, DateMath.weekday n - 1 = v := ⟨_, rfl⟩
    have hv3 : DateMath.weekday n = v + 1 := by omega
    rw [hv2] at hv
    rw [hv3]
    have v1 : 0 ≤ v := by omega
    have v2 : v < 7 := by omega
    clear hw t3 t4 hv2 hv3 hb
    go_enter Try.func47, Try.ntmps47
    go_wp2_with fail
    refine NR.mono ?_
    rintro e w' ⟨rfl, rfl⟩
    go_wp2
    go_ret
    exact ⟨rfl, rfl⟩
/-- Years gone through: so many days are left. -/
def YInv (n y d : Int) : Prop := 0 ≤ d ∧ d < 146097 ∧ DateMath.place y 1 1 + d = n ∧ -200000 ≤ y ∧ y + d ≤ 400000
def MInv (n y m d : Int) : Prop := 0 ≤ d ∧ d ≤ 366 ∧ DateMath.place y m 1 + d = n ∧ 1 ≤ m ∧ m ≤ 12 ∧ n < DateMath.place (y + 1) 1 1
theorem YInv.next {n y d : Int} (h : YInv n y d) (hd : DateMath.yearLen y ≤ d) : YInv n (y + 1) (d - DateMath.yearLen y) := by
  obtain ⟨h1, h2, h3, h4, h5⟩ := h
  have := DateMath.place_year y
  have := DateMath.yearLen_bd y
  refine ⟨?_, ?_, ?_, ?_, ?_⟩ <;> omega
theorem YInv.months {n y d : Int} (h : YInv n y d) (hd : ¬ DateMath.yearLen y ≤ d) : MInv n y 1 d := by
  obtain ⟨h1, h2, h3, h4, h5⟩ := h
  have := DateMath.place_year y
  have := DateMath.yearLen_bd y
  refine ⟨?_, ?_, ?_, ?_, ?_, ?_⟩ <;> omega
theorem MInv.next {n y m d : Int} (h : MInv n y m d) (hd : DateMath.days y m ≤ d) : MInv n y (m + 1) (d - DateMath.days y m) := by
  obtain ⟨h1, h2, h3, h4, h5, h6⟩ := h
  have := DateMath.days_bd y m
  have hm : m ≤ 11 := by
    by_cases e : m = 12
    · subst e
      have d12 : DateMath.days y 12 = 31 := by simp [DateMath.days]
      have := DateMath.place_december y
      omega
    · omega
  have := DateMath.place_month y m h4 hm
  refine ⟨?_, ?_, ?_, ?_, ?_, ?_⟩ <;> omega
theorem MInv.done {n y m d : Int} (h : MInv n y m d) (hd : ¬ DateMath.days y m ≤ d) : DateMath.date n = (y, m, d + 1) := by
  obtain ⟨h1, h2, h3, h4, h5, h6⟩ := h
  exact DateMath.date_is ⟨h4, h5, by omega, by omega⟩ (by rw [DateMath.place_day]; omega)
theorem YInv.start (n e d : Int) (hd : d = n - 146097 * e) (h0 : 0 ≤ d) (h1 : d < 146097) (he : -500 ≤ e ∧ e ≤ 500) : YInv n (1970 + 400 * e) d := by
  have := DateMath.place_cycle 1970 1 1 e
  have := DateMath.place_epoch
  refine ⟨?_, ?_, ?_, ?_, ?_⟩ <;> omega
def DateRel (w : World) (n : Int) (x y : Value) (wr : World) : Prop := ∃ d a : Int, x = .int .i64 d ∧ y = .int .i64 a ∧ YInv n a d ∧ w = wr
def MonRel (w : World) (n y : Int) (x z : Value) (wr : World) : Prop := ∃ d m : Int, x = .int .i64 d ∧ z = .int .i64 m ∧ MInv n y m d ∧ Below w.heap.size w wr
def DatePost (w : World) (n : Int) (e : Ending) (w' : World) : Prop :=
  e = .returned (.tuple #[.int .i64 (DateMath.date n).1, .int .i64 (DateMath.date n).2.1, .int .i64 (DateMath.date n).2.2]) ∧ Below w.heap.size w w'
theorem yinvBd {n y d : Int} (h : YInv n y d) : 0 ≤ d ∧ d ≤ 146097 ∧ -200000 ≤ y ∧ y ≤ 400000 := by
  obtain ⟨h1, h2, h3, h4, h5⟩ := h; omega
theorem minvBd {n y m d : Int} (h : MInv n y m d) : 0 ≤ d ∧ d ≤ 366 ∧ 1 ≤ m ∧ m ≤ 12 := by
  obtain ⟨h1, h2, h3, h4, h5, h6⟩ := h; omega
set_option maxHeartbeats 2000000 in
theorem refdate_any (n : Int) (w : World) (h1 : -67108900 ≤ n) (h2 : n ≤ 67108900) : Calls Try.prog 46 #[.int .i64 n] w (DatePost w n) := by
  by_cases hneg : n < 0
  · have hq0 := tdiv_neg' n 146097 hneg
    obtain ⟨q, hq⟩ : ∃ q, -(n.tdiv 146097) = q := ⟨_, rfl⟩
    have hq9 : q = (-n) / 146097 := by omega
    clear hq0
    obtain ⟨k, hk⟩ : ∃ k, 1 + q = k := ⟨_, rfl⟩
    obtain ⟨C, hC⟩ : ∃ C, 146097 * k = C := ⟨_, rfl⟩
    obtain ⟨n1, hn1⟩ : ∃ n1, n + C = n1 := ⟨_, rfl⟩
    obtain ⟨C4, hC4⟩ : ∃ C, 400 * k = C := ⟨_, rfl⟩
    obtain ⟨y1, hy1⟩ : ∃ y1, 1970 - C4 = y1 := ⟨_, rfl⟩
    obtain ⟨e2, he2⟩ : ∃ e2, n1 / 146097 = e2 := ⟨_, rfl⟩
    obtain ⟨E4, hE4⟩ : ∃ E, 400 * e2 = E := ⟨_, rfl⟩
    obtain ⟨y0, hy0⟩ : ∃ y0, y1 + E4 = y0 := ⟨_, rfl⟩
    obtain ⟨d0, hd0⟩ : ∃ d0, n1 % 146097 = d0 := ⟨_, rfl⟩
    have q1 : 0 ≤ q := by omega
    have q2 : q ≤ 460 := by omega
    have n11 : 0 ≤ n1 := by omega
    have n12 : n1 ≤ 146097 := by omega
    have e21 : 0 ≤ e2 := by omega
    have e22 : e2 ≤ 1 := by omega
    have k1 : 1 ≤ k := by omega
    have k2 : k ≤ 461 := by omega
    have HS := Lib.hid (show YInv n y0 d0 by
      have := YInv.start n (e2 - k) d0 (by omega) (by omega) (by omega) (by omega)
      rw [show 1970 + 400 * (e2 - k) = y0 by omega] at this
      exact this)
    have HD0 := Lib.hid hd0
    have d01 : 0 ≤ d0 := by omega
    have d02 : d0 < 146097 := by omega
    go_enter Try.func46, Try.ntmps46
    clear hq9
    go_wp2
    clear hq hk hC hn1 hC4 hy1 he2 hE4 hy0 hd0
    go_loopw [0, 5] (fun x y wr => DateRel w n x y wr) (fun x _ _ => (intOf x).toNat)
    case atStart => exact ⟨d0, y0, by first | rfl | rw [HD0.out], rfl, HS.out, rfl⟩
    case round =>
      clear HS
      obtain ⟨d, y, rfl, rfl, hi, rfl⟩ := hrel
      obtain ⟨a1, a2, a3, a4⟩ := yinvBd hi
      have YA := refYear_any y w
      have yb := DateMath.yearLen_bd y
      by_cases hlt : DateMath.yearLen y ≤ d
      · have HN := Lib.hid (hi.next hlt)
        clear hi
        generalize DateMath.yearLen y = Y at *
        have hge : decide (d ≥ Y) = true := decide_eq_true (by omega)
        go_wp2_with fail
        refine YA.mono ?_
        rintro e w' ⟨rfl, rfl⟩
        go_wp2_with fail
        refine YA.mono ?_
        rintro e w' ⟨rfl, rfl⟩
        go_wp2
        go_roundw
        case rel => exact ⟨d - Y, y + 1, rfl, rfl, HN.out, rfl⟩
        case measure => simp [intOf]; omega
      · have HM := Lib.hid (hi.months hlt)
        clear hi
        generalize DateMath.yearLen y = Y at *
        have hge : decide (d ≥ Y) = false := decide_eq_false (by omega)
        go_wp2_with fail
        refine YA.mono ?_
        rintro e w' ⟨rfl, rfl⟩
        go_wp2
        clear a1 a2 hlt hge
        go_loopw [0, 7] (fun x z wr => MonRel w n y x z wr) (fun x _ _ => (intOf x).toNat)
        case atStart => exact ⟨d, 1, rfl, rfl, HM.out, Below.refl _ _⟩
        case round =>
          clear HM
          obtain ⟨d, m, rfl, rfl, hi, hb⟩ := hrel
          obtain ⟨a1, a2, m1, m2⟩ := minvBd hi
          have MA := fun v => refMonth_any y m v m1 m2
          have mb := DateMath.days_bd y m
          have HB := Lib.hid hb
          by_cases hlt : DateMath.days y m ≤ d
          · have HN := Lib.hid (hi.next hlt)
            clear hi hb
            generalize DateMath.days y m = Y at *
            have hge : decide (d ≥ Y) = true := decide_eq_true (by omega)
            go_wp2_with fail
            refine (MA _).mono ?_
            rintro e w1 ⟨rfl, hb1⟩
            go_wp2_with fail
            refine (MA _).mono ?_
            rintro e w2 ⟨rfl, hb2⟩
            have HB2 := Lib.hid ((HB.out.trans (hb1.mono HB.out.size)).trans (hb2.mono (Nat.le_trans HB.out.size hb1.size)))
            clear hb1 hb2
            go_wp2
            go_roundw
            case rel => exact ⟨d - Y, m + 1, rfl, rfl, HN.out, HB2.out⟩
            case measure => simp [intOf]; omega
          · have HD := Lib.hid (hi.done hlt)
            clear hi hb
            generalize DateMath.days y m = Y at *
            have hge : decide (d ≥ Y) = false := decide_eq_false (by omega)
            go_wp2_with fail
            refine (MA _).mono ?_
            rintro e w1 ⟨rfl, hb1⟩
            have HB2 := Lib.hid (HB.out.trans (hb1.mono HB.out.size))
            clear hb1
            go_wp2
            go_ret3
            exact ⟨by rw [HD.out]; rfl, HB2.out⟩
  · obtain ⟨e2, he2⟩ : ∃ e2, n / 146097 = e2 := ⟨_, rfl⟩
    obtain ⟨E4, hE4⟩ : ∃ E, 400 * e2 = E := ⟨_, rfl⟩
    obtain ⟨y0, hy0⟩ : ∃ y0, 1970 + E4 = y0 := ⟨_, rfl⟩
    obtain ⟨d0, hd0⟩ : ∃ d0, n % 146097 = d0 := ⟨_, rfl⟩
    have e21 : 0 ≤ e2 := by omega
    have e22 : e2 ≤ 460 := by omega
    have HS := Lib.hid (show YInv n y0 d0 by
      have := YInv.start n e2 d0 (by omega) (by omega) (by omega) (by omega)
      rw [show 1970 + 400 * e2 = y0 by omega] at this
      exact this)
    have HD0 := Lib.hid hd0
    have d01 : 0 ≤ d0 := by omega
    have d02 : d0 < 146097 := by omega
    go_enter Try.func46, Try.ntmps46
    go_wp2
    clear he2 hE4 hy0 hd0
    go_loopw [0, 5] (fun x y wr => DateRel w n x y wr) (fun x _ _ => (intOf x).toNat)
    case atStart => exact ⟨d0, y0, by first | rfl | rw [HD0.out], rfl, HS.out, rfl⟩
    case round =>
      clear HS
      obtain ⟨d, y, rfl, rfl, hi, rfl⟩ := hrel
      obtain ⟨a1, a2, a3, a4⟩ := yinvBd hi
      have YA := refYear_any y w
      have yb := DateMath.yearLen_bd y
      by_cases hlt : DateMath.yearLen y ≤ d
      · have HN := Lib.hid (hi.next hlt)
        clear hi
        generalize DateMath.yearLen y = Y at *
        have hge : decide (d ≥ Y) = true := decide_eq_true (by omega)
        go_wp2_with fail
        refine YA.mono ?_
        rintro e w' ⟨rfl, rfl⟩
        go_wp2_with fail
        refine YA.mono ?_
        rintro e w' ⟨rfl, rfl⟩
        go_wp2
        go_roundw
        case rel => exact ⟨d - Y, y + 1, rfl, rfl, HN.out, rfl⟩
        case measure => simp [intOf]; omega
      · have HM := Lib.hid (hi.months hlt)
        clear hi
        generalize DateMath.yearLen y = Y at *
        have hge : decide (d ≥ Y) = false := decide_eq_false (by omega)
        go_wp2_with fail
        refine YA.mono ?_
        rintro e w' ⟨rfl, rfl⟩
        go_wp2
        clear a1 a2 hlt hge
        go_loopw [0, 7] (fun x z wr => MonRel w n y x z wr) (fun x _ _ => (intOf x).toNat)
        case atStart => exact ⟨d, 1, rfl, rfl, HM.out, Below.refl _ _⟩
        case round =>
          clear HM
          obtain ⟨d, m, rfl, rfl, hi, hb⟩ := hrel
          obtain ⟨a1, a2, m1, m2⟩ := minvBd hi
          have MA := fun v => refMonth_any y m v m1 m2
          have mb := DateMath.days_bd y m
          have HB := Lib.hid hb
          by_cases hlt : DateMath.days y m ≤ d
          · have HN := Lib.hid (hi.next hlt)
            clear hi hb
            generalize DateMath.days y m = Y at *
            have hge : decide (d ≥ Y) = true := decide_eq_true (by omega)
            go_wp2_with fail
            refine (MA _).mono ?_
            rintro e w1 ⟨rfl, hb1⟩
            go_wp2_with fail
            refine (MA _).mono ?_
            rintro e w2 ⟨rfl, hb2⟩
            have HB2 := Lib.hid ((HB.out.trans (hb1.mono HB.out.size)).trans (hb2.mono (Nat.le_trans HB.out.size hb1.size)))
            clear hb1 hb2
            go_wp2
            go_roundw
            case rel => exact ⟨d - Y, m + 1, rfl, rfl, HN.out, HB2.out⟩
            case measure => simp [intOf]; omega
          · have HD := Lib.hid (hi.done hlt)
            clear hi hb
            generalize DateMath.days y m = Y at *
            have hge : decide (d ≥ Y) = false := decide_eq_false (by omega)
            go_wp2_with fail
            refine (MA _).mono ?_
            rintro e w1 ⟨rfl, hb1⟩
            have HB2 := Lib.hid (HB.out.trans (hb1.mono HB.out.size))
            clear hb1
            go_wp2
            go_ret3
            exact ⟨by rw [HD.out]; rfl, HB2.out⟩
theorem refDate_any (n : Int) (w : World) (h1 : -67108864 ≤ n) (h2 : n ≤ 67108864) : Calls Try.prog 35 #[.int .i64 n] w (DatePost w n) := by
  have NR := refNear_any n w h1 h2
  have DT := refdate_any n w (by omega) (by omega)
  unfold DatePost at DT ⊢
  generalize DateMath.date n = D at *
  go_enter Try.func35, Try.ntmps35
  go_wp2_with fail
  refine NR.mono ?_
  rintro e w' ⟨rfl, rfl⟩
  go_wp2_with fail
  refine DT.mono ?_
  rintro e w' ⟨rfl, hb⟩
  go_wp2
  go_ret3
  exact ⟨rfl, hb⟩
end Go.Proofs.Ytogoiikgiohlhaa
