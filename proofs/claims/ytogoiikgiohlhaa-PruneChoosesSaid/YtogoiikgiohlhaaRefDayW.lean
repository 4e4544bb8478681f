/- The day of a date in the document's own answer. -/
import Derived.Test.YtogoiikgiohlhaaRefDay
namespace Go.Proofs.Ytogoiikgiohlhaa
open Go Go.RowKit

def YearsRel (B t : Int) (w1 : World) (n i : Value) (wr : World) : Prop := ∃ a b : Int, n = .int .i64 a ∧ i = .int .i64 b ∧ YearsInv B t a b ∧ w1 = wr
def MonthsRel (B t m : Int) (w : World) (n i : Value) (wr : World) : Prop := ∃ a b : Int, n = .int .i64 a ∧ i = .int .i64 b ∧ MonthsInv B t m a b ∧ Below w.heap.size w wr
theorem dayOf_ok {y m d : Int} (h : dayOk y m d) : dayOf y m d = (DateMath.place y m d, true) := if_pos h
theorem ret2_ib {a a' : Int} {b : Bool} (h : a = a') : Ending.returned (.tuple #[.int .i64 a, .bool b]) = .returned (.tuple #[.int .i64 a', .bool b]) := by rw [h]
set_option maxHeartbeats 4000000 in
theorem refDay_late (y m d : Int) (w : World) (hk : dayOk y m d) (hl : ¬ y < 1970) :
    Calls Try.prog 15 #[.int .i64 y, .int .i64 m, .int .i64 d] w fun e w' => e = .returned (.tuple #[.int .i64 (dayOf y m d).1, .bool (dayOf y m d).2]) ∧ Below w.heap.size w w' := by
  rw [dayOf_ok hk]
  obtain ⟨h1, h2, h3, h4, h5, h6⟩ := hk
  obtain ⟨b1, b2⟩ := DateMath.days_bd y m
  have MA := refMonth_any y m w h3 h4
  generalize DateMath.days y m = L at *
  obtain ⟨k, hk⟩ : ∃ k, (y - 1970) / 400 = k := ⟨_, rfl⟩
  obtain ⟨B, hB⟩ : ∃ B, 146097 * k = B := ⟨_, rfl⟩
  obtain ⟨r, hr⟩ : ∃ r, (y - 1970) % 400 = r := ⟨_, rfl⟩
  obtain ⟨t, ht⟩ : ∃ t, 1970 + r = t := ⟨_, rfl⟩
  have k1 : 0 ≤ k := by omega
  have k2 : k ≤ 260 := by omega
  have r1 : 0 ≤ r := by omega
  have r2 : r ≤ 399 := by omega
  have t1 : 1970 ≤ t := by omega
  have t2 : t ≤ 2369 := by omega
  have B1 : -60000000 ≤ B ∧ B ≤ 60000000 := by omega
  have YT := Lib.hid (show y = t + 400 * k by omega)
  have HB := Lib.hid hB.symm
  go_enter Try.func15, Try.ntmps15
  go_wp2_with fail
  refine MA.mono ?_
  rintro e w1 ⟨rfl, hb⟩
  go_wp2
  generalize decide (y < -100000) = z1
  generalize decide (100000 < y) = z2
  generalize decide (m < 1) = z3
  generalize decide (12 < m) = z4
  generalize decide (d < 1) = z5
  generalize decide (L < d) = z6
  generalize decide (y < 1970) = z7
  clear hk hr hB ht
  go_loopw [8, 10] (fun n i wr => YearsRel B t w1 n i wr) (fun _ i _ => (t - intOf i).toNat)
  case atStart => exact ⟨B, 1970, rfl, rfl, years_start B t t1, rfl⟩
  case round =>
    obtain ⟨a, b, rfl, rfl, hi, rfl⟩ := hrel
    obtain ⟨a1, a2, a3, a4⟩ := yearsBd hi t2 B1
    by_cases hlt : b < t
    · have HS := Lib.hid (years_step hi hlt)
      clear hi
      have YA := refYear_any b w1
      have yb := DateMath.yearLen_bd b
      generalize DateMath.yearLen b = Y at *
      go_wp2_with fail
      refine YA.mono ?_
      rintro e w' ⟨rfl, rfl⟩
      go_wp2
      go_roundw
      case rel => exact ⟨a + Y, b + 1, rfl, rfl, HS.out, rfl⟩
      case measure => simp [intOf]; omega
    · have hj := months_start m hi t2 hlt h3
      clear hi
      go_wp2
      go_loopw [8, 11] (fun n i wr => MonthsRel B t m w n i wr) (fun _ i _ => (m - intOf i).toNat)
      case atStart => exact ⟨a, 1, rfl, rfl, hj, hb⟩
      case round =>
        clear hj hb a1 a2 a3 a4 hlt
        obtain ⟨c, i, rfl, rfl, hi, hb⟩ := hrel
        obtain ⟨a1, a2, a3, a4⟩ := monthsBd hi h4 B1
        by_cases hlt : i < m
        · have HS := Lib.hid (months_step hi h4 hlt)
          clear hi
          have YA := fun v => refMonth_any t i v a1 (by omega)
          have yb := DateMath.days_bd t i
          generalize DateMath.days t i = Y at *
          go_wp2_with fail
          refine (YA _).mono ?_
          rintro e w' ⟨rfl, hb2⟩
          go_wp2
          go_roundw
          case rel => exact ⟨c + Y, i + 1, rfl, rfl, HS.out, hb.trans (hb2.mono hb.size)⟩
          case measure => simp [intOf]; omega
        · have HD := Lib.hid (months_done k y d hi hlt YT.out HB.out)
          clear hi
          go_wp2
          go_ret2
          exact ⟨ret2_ib HD.out, hb⟩
set_option maxHeartbeats 4000000 in
theorem refDay_early (y m d : Int) (w : World) (hk : dayOk y m d) (hl : y < 1970) :
    Calls Try.prog 15 #[.int .i64 y, .int .i64 m, .int .i64 d] w fun e w' => e = .returned (.tuple #[.int .i64 (dayOf y m d).1, .bool (dayOf y m d).2]) ∧ Below w.heap.size w w' := by
  rw [dayOf_ok hk]
  obtain ⟨h1, h2, h3, h4, h5, h6⟩ := hk
  obtain ⟨b1, b2⟩ := DateMath.days_bd y m
  have MA := refMonth_any y m w h3 h4
  generalize DateMath.days y m = L at *
  obtain ⟨q, hq⟩ : ∃ q, (1970 - y) / 400 = q := ⟨_, rfl⟩
  obtain ⟨k, hk⟩ : ∃ k, 1 + q = k := ⟨_, rfl⟩
  obtain ⟨y1, hy1⟩ : ∃ y1, y + 400 * k = y1 := ⟨_, rfl⟩
  obtain ⟨C, hC⟩ : ∃ C, 146097 * k = C := ⟨_, rfl⟩
  obtain ⟨k2, hk2⟩ : ∃ k2, (y1 - 1970) / 400 = k2 := ⟨_, rfl⟩
  obtain ⟨B, hB⟩ : ∃ B, -C + 146097 * k2 = B := ⟨_, rfl⟩
  obtain ⟨r, hr⟩ : ∃ r, (y1 - 1970) % 400 = r := ⟨_, rfl⟩
  obtain ⟨t, ht⟩ : ∃ t, 1970 + r = t := ⟨_, rfl⟩
  have q1 : 0 ≤ q := by omega
  have q2 : q ≤ 260 := by omega
  have k1 : 1 ≤ k := by omega
  have k3 : k ≤ 261 := by omega
  have y2 : 1970 ≤ y1 := by omega
  have y3 : y1 ≤ 2370 := by omega
  have C1 : 0 ≤ C := by omega
  have C2 : C ≤ 40000000 := by omega
  have k4 : 0 ≤ k2 := by omega
  have k5 : k2 ≤ 1 := by omega
  have r1 : 0 ≤ r := by omega
  have r2 : r ≤ 399 := by omega
  have t1 : 1970 ≤ t := by omega
  have t2 : t ≤ 2369 := by omega
  have B1 : -60000000 ≤ B ∧ B ≤ 60000000 := by omega
  have YT := Lib.hid (show y = t + 400 * (k2 - k) by omega)
  have HB := Lib.hid (show B = 146097 * (k2 - k) by omega)
  go_enter Try.func15, Try.ntmps15
  go_wp2_with fail
  refine MA.mono ?_
  rintro e w1 ⟨rfl, hb⟩
  go_wp2
  generalize decide (y < -100000) = z1
  generalize decide (100000 < y) = z2
  generalize decide (m < 1) = z3
  generalize decide (12 < m) = z4
  generalize decide (d < 1) = z5
  generalize decide (L < d) = z6
  generalize decide (y < 1970) = z7
  clear hk hr hB ht hq hy1 hC hk2
  go_loopw [8, 10] (fun n i wr => YearsRel B t w1 n i wr) (fun _ i _ => (t - intOf i).toNat)
  case atStart => exact ⟨B, 1970, rfl, rfl, years_start B t t1, rfl⟩
  case round =>
    obtain ⟨a, b, rfl, rfl, hi, rfl⟩ := hrel
    obtain ⟨a1, a2, a3, a4⟩ := yearsBd hi t2 B1
    by_cases hlt : b < t
    · have HS := Lib.hid (years_step hi hlt)
      clear hi
      have YA := refYear_any b w1
      have yb := DateMath.yearLen_bd b
      generalize DateMath.yearLen b = Y at *
      go_wp2_with fail
      refine YA.mono ?_
      rintro e w' ⟨rfl, rfl⟩
      go_wp2
      go_roundw
      case rel => exact ⟨a + Y, b + 1, rfl, rfl, HS.out, rfl⟩
      case measure => simp [intOf]; omega
    · have hj := months_start m hi t2 hlt h3
      clear hi
      go_wp2
      go_loopw [8, 11] (fun n i wr => MonthsRel B t m w n i wr) (fun _ i _ => (m - intOf i).toNat)
      case atStart => exact ⟨a, 1, rfl, rfl, hj, hb⟩
      case round =>
        clear hj hb a1 a2 a3 a4 hlt
        obtain ⟨c, i, rfl, rfl, hi, hb⟩ := hrel
        obtain ⟨a1, a2, a3, a4⟩ := monthsBd hi h4 B1
        by_cases hlt : i < m
        · have HS := Lib.hid (months_step hi h4 hlt)
          clear hi
          have YA := fun v => refMonth_any t i v a1 (by omega)
          have yb := DateMath.days_bd t i
          generalize DateMath.days t i = Y at *
          go_wp2_with fail
          refine (YA _).mono ?_
          rintro e w' ⟨rfl, hb2⟩
          go_wp2
          go_roundw
          case rel => exact ⟨c + Y, i + 1, rfl, rfl, HS.out, hb.trans (hb2.mono hb.size)⟩
          case measure => simp [intOf]; omega
        · have HD := Lib.hid (months_done (k2 - k) y d hi hlt YT.out HB.out)
          clear hi
          go_wp2
          go_ret2
          exact ⟨ret2_ib HD.out, hb⟩
theorem refDay_no (y m d : Int) (w : World) (hk : ¬ dayOk y m d) :
    Calls Try.prog 15 #[.int .i64 y, .int .i64 m, .int .i64 d] w fun e w' => e = .returned (.tuple #[.int .i64 (dayOf y m d).1, .bool (dayOf y m d).2]) ∧ Below w.heap.size w w' := by
  have hr : dayOf y m d = (0, false) := if_neg hk
  rw [hr]
  clear hr
  unfold dayOk DateMath.valid at hk
  by_cases h1 : y < -100000
  · clear hk
    go_enter Try.func15, Try.ntmps15
    go_wp2
    go_ret2
    exact ⟨rfl, Below.refl _ _⟩
  by_cases h2 : 100000 < y
  · clear hk
    go_enter Try.func15, Try.ntmps15
    go_wp2
    go_ret2
    exact ⟨rfl, Below.refl _ _⟩
  by_cases h3 : m < 1
  · clear hk
    go_enter Try.func15, Try.ntmps15
    go_wp2
    go_ret2
    exact ⟨rfl, Below.refl _ _⟩
  by_cases h4 : 12 < m
  · clear hk
    go_enter Try.func15, Try.ntmps15
    go_wp2
    go_ret2
    exact ⟨rfl, Below.refl _ _⟩
  by_cases h5 : d < 1
  · clear hk
    go_enter Try.func15, Try.ntmps15
    go_wp2
    go_ret2
    exact ⟨rfl, Below.refl _ _⟩
  have MA := refMonth_any y m w (by omega) (by omega)
  generalize DateMath.days y m = L at *
  have h6 : L < d := by omega
  clear hk
  go_enter Try.func15, Try.ntmps15
  go_wp2_with fail
  refine MA.mono ?_
  rintro e w1 ⟨rfl, hb⟩
  go_wp2
  go_ret2
  exact ⟨rfl, hb⟩
theorem refDay_any (y m d : Int) (w : World) :
    Calls Try.prog 15 #[.int .i64 y, .int .i64 m, .int .i64 d] w fun e w' => e = .returned (.tuple #[.int .i64 (dayOf y m d).1, .bool (dayOf y m d).2]) ∧ Below w.heap.size w w' := by
  by_cases hk : dayOk y m d
  · by_cases hl : y < 1970
    · exact refDay_early y m d w hk hl
    · exact refDay_late y m d w hk hl
  · exact refDay_no y m d w hk
end Go.Proofs.Ytogoiikgiohlhaa
