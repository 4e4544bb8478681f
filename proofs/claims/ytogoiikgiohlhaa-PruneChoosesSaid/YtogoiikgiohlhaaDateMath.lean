/- Plain facts on days and dates, over Int: from a date to its day and back. No program stands here. -/
namespace DateMath

def leap (y : Int) : Bool := (y % 4 == 0 && y % 100 != 0) || y % 400 == 0
def yearLen (y : Int) : Int := if leap y then 366 else 365
def days (y m : Int) : Int := if m = 2 then (if leap y then 29 else 28) else if m = 4 ∨ m = 6 ∨ m = 9 ∨ m = 11 then 30 else 31

/-- The day of the first of March of a year of the 400, and how many days that year has. -/
def startY (y : Int) : Int := 365 * y + y / 4 - y / 100
def lenY (y : Int) : Int := if leap (y + 1) then 366 else 365
def guess (o : Int) : Int := o - o / 1460 + o / 36524 - o / 146096
def startM (m : Int) : Int := (153 * m + 2) / 5

def place (y m d : Int) : Int :=
  let y' := if m ≤ 2 then y - 1 else y
  let k := if m ≤ 2 then m + 9 else m - 3
  (y' / 400) * 146097 + startY (y' - 400 * (y' / 400)) + (startM k + d - 1) - 719468
def yearOf (o : Int) : Int := guess o / 365
def date (n : Int) : Int × Int × Int :=
  let z := n + 719468
  let o := z - z / 146097 * 146097
  let year := yearOf o
  let i := o - startY year
  let k := (5 * i + 2) / 153
  let m := if k + 3 > 12 then k + 3 - 12 else k + 3
  ((if m ≤ 2 then year + 400 * (z / 146097) + 1 else year + 400 * (z / 146097)), m, i - startM k + 1)
def valid (y m d : Int) : Prop := 1 ≤ m ∧ m ≤ 12 ∧ 1 ≤ d ∧ d ≤ days y m

theorem leap_iff (y : Int) : leap y = true ↔ (y % 4 = 0 ∧ y % 100 ≠ 0) ∨ y % 400 = 0 := by
  simp [leap]
theorem lenY_succ (y : Int) (h0 : 0 ≤ y) (h : y < 399) : startY (y + 1) = startY y + lenY y := by
  unfold startY lenY
  by_cases hl : leap (y + 1) = true
  · rw [if_pos hl]; rw [leap_iff] at hl; omega
  · rw [if_neg hl]; rw [leap_iff] at hl; omega
theorem lenY_bd (y : Int) : 365 ≤ lenY y ∧ lenY y ≤ 366 := by unfold lenY; split <;> omega
theorem lenY_last : lenY 399 = 366 := by decide
theorem startY_zero : startY 0 = 0 := by decide
theorem startY_last : startY 399 = 145731 := by decide
theorem startY_period (y e : Int) : startY (y - 400 * e) = startY y - 146096 * e := by unfold startY; omega

theorem guess_succ (o : Int) (h0 : 0 ≤ o) (h : o + 1 ≤ 146096) : guess o ≤ guess (o + 1) := by unfold guess; omega
theorem guess_mono (a : Int) (h0 : 0 ≤ a) : ∀ k : Nat, a + k ≤ 146096 → guess a ≤ guess (a + k) := by
  intro k
  induction k with
  | zero => intro _; simp
  | succ k ih =>
    intro h
    have := ih (by omega)
    have h2 := guess_succ (a + k) (by omega) (by omega)
    rw [show a + ((k + 1 : Nat) : Int) = a + k + 1 by omega]
    omega
theorem ends_ok : ∀ y : Fin 400, guess (startY y.val) / 365 = y.val ∧ guess (startY y.val + lenY y.val - 1) / 365 = y.val := by decide +kernel
theorem yearOf_is (y o : Int) (h0 : 0 ≤ y) (h : y ≤ 399) (h1 : startY y ≤ o) (h2 : o < startY y + lenY y) : yearOf o = y := by
  obtain ⟨k, rfl⟩ := Int.eq_ofNat_of_zero_le h0
  have he := ends_ok ⟨k, by omega⟩
  simp only at he
  have hs : 0 ≤ startY (k : Int) := by unfold startY; omega
  have ht : startY (k : Int) + lenY k ≤ 146097 := by
    by_cases e : (k : Int) = 399
    · rw [e]; decide
    · have := lenY_bd k; unfold startY; omega
  have m1 := guess_mono (startY k) hs (o - startY k).toNat (by omega)
  have m2 := guess_mono o (by omega) (startY k + lenY k - 1 - o).toNat (by omega)
  rw [show startY (k : Int) + ((o - startY k).toNat : Int) = o by omega] at m1
  rw [show o + ((startY k + lenY k - 1 - o).toNat : Int) = startY k + lenY k - 1 by omega] at m2
  unfold yearOf
  omega
theorem year_there (o : Int) (h0 : 0 ≤ o) : ∀ k : Nat, k ≤ 399 → o < startY k → ∃ y : Int, 0 ≤ y ∧ y < k ∧ startY y ≤ o ∧ o < startY y + lenY y := by
  intro k
  induction k with
  | zero => intro _ h; exfalso; have : startY ((0 : Nat) : Int) = 0 := startY_zero; omega
  | succ k ih =>
    intro hk h
    by_cases h1 : o < startY k
    · obtain ⟨y, a, b, c, d⟩ := ih (by omega) h1
      exact ⟨y, a, by omega, c, d⟩
    · refine ⟨k, by omega, by omega, by omega, ?_⟩
      have := lenY_succ k (by omega) (by omega)
      rw [show ((k + 1 : Nat) : Int) = (k : Int) + 1 by omega] at h
      omega
theorem year_of (o : Int) (h0 : 0 ≤ o) (h : o < 146097) : 0 ≤ yearOf o ∧ yearOf o ≤ 399 ∧ startY (yearOf o) ≤ o ∧ o < startY (yearOf o) + lenY (yearOf o) := by
  by_cases h1 : o < startY 399
  · obtain ⟨y, a, b, c, d⟩ := year_there o h0 399 (by omega) h1
    rw [yearOf_is y o a (by omega) c d]
    exact ⟨a, by omega, c, d⟩
  · have : yearOf o = 399 := yearOf_is 399 o (by omega) (by omega) (by omega) (by rw [startY_last, lenY_last]; omega)
    rw [this]
    exact ⟨by omega, by omega, by omega, by rw [startY_last, lenY_last]; omega⟩

theorem month_of (i : Int) (h0 : 0 ≤ i) (h : i ≤ 365) : 0 ≤ (5 * i + 2) / 153 ∧ (5 * i + 2) / 153 ≤ 11 ∧ startM ((5 * i + 2) / 153) ≤ i ∧ i < startM ((5 * i + 2) / 153 + 1) := by
  unfold startM; omega
theorem month_is (i k : Int) (h1 : startM k ≤ i) (h2 : i < startM (k + 1)) (_h0 : 0 ≤ k) (_h11 : k ≤ 11) : (5 * i + 2) / 153 = k := by
  unfold startM at h1 h2; omega

theorem leap_period (y e : Int) : leap (y + 400 * e) = leap y := by
  rw [Bool.eq_iff_iff, leap_iff, leap_iff]; omega
/-- The months that begin with March. -/
theorem days_march (y k : Int) (h0 : 0 ≤ k) (h : k ≤ 10) : days (if k + 3 > 12 then y + 1 else y) (if k + 3 > 12 then k + 3 - 12 else k + 3) = startM (k + 1) - startM k := by
  have : k = 0 ∨ k = 1 ∨ k = 2 ∨ k = 3 ∨ k = 4 ∨ k = 5 ∨ k = 6 ∨ k = 7 ∨ k = 8 ∨ k = 9 ∨ k = 10 := by omega
  rcases this with rfl | rfl | rfl | rfl | rfl | rfl | rfl | rfl | rfl | rfl | rfl <;> simp [days, startM]

theorem date_valid (n : Int) : valid (date n).1 (date n).2.1 (date n).2.2 ∧ place (date n).1 (date n).2.1 (date n).2.2 = n := by
  have ho0 : 0 ≤ (n + 719468) - (n + 719468) / 146097 * 146097 := by omega
  have ho1 : (n + 719468) - (n + 719468) / 146097 * 146097 < 146097 := by omega
  have hz : n = (n + 719468) / 146097 * 146097 + ((n + 719468) - (n + 719468) / 146097 * 146097) - 719468 := by omega
  simp only [date]
  generalize (n + 719468) - (n + 719468) / 146097 * 146097 = o at *
  generalize (n + 719468) / 146097 = e at *
  obtain ⟨y0, y1, s0, s1⟩ := year_of o ho0 ho1
  generalize yearOf o = y at *
  have hi0 : 0 ≤ o - startY y := by omega
  have hlb := lenY_bd y
  have hi1 : o - startY y ≤ 365 := by omega
  have hil : o - startY y < lenY y := by omega
  have ho : o = startY y + (o - startY y) := by omega
  generalize o - startY y = i at *
  obtain ⟨k0, k1, k2, k3⟩ := month_of i hi0 hi1
  generalize (5 * i + 2) / 153 = k at *
  have hdiv : ∀ y : Int, 0 ≤ y → y ≤ 399 → (y + 400 * e) / 400 = e := by intro y h1 h2; omega
  by_cases hk : k + 3 > 12
  · simp only [hk, if_true, show k + 3 - 12 ≤ 2 by omega]
    refine ⟨⟨by omega, by omega, by omega, ?_⟩, ?_⟩
    · by_cases hk11 : k = 11
      · subst hk11
        have hm : startM 11 = 337 := by decide
        have : days (y + 400 * e + 1) (11 + 3 - 12) = lenY y - 337 := by
          unfold days lenY
          rw [if_pos (by decide), show y + 400 * e + 1 = (y + 1) + 400 * e by omega, leap_period]
          split <;> rfl
        rw [this, hm]; omega
      · have := days_march (y + 400 * e) k k0 (by omega)
        rw [if_pos hk, if_pos hk] at this
        rw [this]; omega
    · simp only [place, show k + 3 - 12 ≤ 2 by omega, if_true]
      rw [show y + 400 * e + 1 - 1 = y + 400 * e by omega, hdiv y y0 y1, show y + 400 * e - 400 * e = y by omega, show k + 3 - 12 + 9 = k by omega]
      omega
  · simp only [hk, if_false, show ¬ k + 3 ≤ 2 by omega]
    refine ⟨⟨by omega, by omega, by omega, ?_⟩, ?_⟩
    · have := days_march (y + 400 * e) k k0 (by omega)
      rw [if_neg hk, if_neg hk] at this
      rw [this]; omega
    · simp only [place, show ¬ k + 3 ≤ 2 by omega, if_false]
      rw [hdiv y y0 y1, show y + 400 * e - 400 * e = y by omega, show k + 3 - 3 = k by omega]
      omega

theorem date_place (y m d : Int) (hv : valid y m d) : date (place y m d) = (y, m, d) := by
  obtain ⟨m0, m1, d0, d1⟩ := hv
  have core : ∀ (y' k : Int), 0 ≤ k → k ≤ 11 → (k = 11 → d ≤ (if leap (y' + 1) then 29 else 28)) → (k ≤ 10 → d ≤ startM (k + 1) - startM k) →
      ((m ≤ 2 ∧ y = y' + 1 ∧ m = k - 9) ∨ (¬ m ≤ 2 ∧ y = y' ∧ m = k + 3)) →
      date ((y' / 400) * 146097 + startY (y' - 400 * (y' / 400)) + (startM k + d - 1) - 719468) = (y, m, d) := by
    intro y' k k0 k11 hf hd hym
    have e0 : 0 ≤ y' - 400 * (y' / 400) := by omega
    have e1 : y' - 400 * (y' / 400) ≤ 399 := by omega
    have ey : y' = (y' - 400 * (y' / 400)) + 400 * (y' / 400) := by omega
    have hlp : leap (y' + 1) = leap (y' - 400 * (y' / 400) + 1) := by
      rw [← leap_period (y' - 400 * (y' / 400) + 1) (y' / 400)]; congr 1; omega
    rw [hlp] at hf
    generalize y' - 400 * (y' / 400) = r at *
    generalize y' / 400 = e at *
    have hsM : 0 ≤ startM k ∧ startM k ≤ 337 ∧ startM 11 = 337 := by unfold startM; omega
    have hi : startM k + d - 1 < lenY r ∧ startM k ≤ startM k + d - 1 ∧ startM k + d - 1 < startM (k + 1) := by
      by_cases hk : k = 11
      · subst hk
        have h12 : startM (11 + 1) = 367 := by decide
        have := hf rfl
        unfold lenY
        cases hl : leap (r + 1)
        · rw [hl, if_neg (by decide)] at this; rw [if_neg (by decide)]; omega
        · rw [hl, if_pos rfl] at this; rw [if_pos rfl]; omega
      · have := hd (by omega)
        have := lenY_bd r
        have : startM (k + 1) ≤ 337 := by unfold startM; omega
        omega
    generalize hie : startM k + d - 1 = i at *
    have ho0 : 0 ≤ startY r := by unfold startY; omega
    have ho1 : startY r + lenY r ≤ 146097 := by
      by_cases er : r = 399
      · rw [er]; decide
      · have := lenY_bd r; unfold startY; omega
    have hz : (e * 146097 + startY r + i - 719468 + 719468) / 146097 = e := by omega
    have hyr : yearOf (startY r + i) = r := yearOf_is r _ e0 e1 (by omega) (by omega)
    have hmo : (5 * i + 2) / 153 = k := month_is i k hi.2.1 hi.2.2 k0 k11
    simp only [date]
    rw [hz, show e * 146097 + startY r + i - 719468 + 719468 - e * 146097 = startY r + i by omega, hyr, show startY r + i - startY r = i by omega, hmo]
    rcases hym with ⟨a, b, c⟩ | ⟨a, b, c⟩
    · rw [if_pos (show k + 3 > 12 by omega), if_pos (show k + 3 - 12 ≤ 2 by omega)]
      rw [show i - startM k + 1 = d by omega, show k + 3 - 12 = m by omega, b]
      congr 1; omega
    · rw [if_neg (show ¬ k + 3 > 12 by omega), if_neg (show ¬ k + 3 ≤ 2 by omega)]
      rw [show i - startM k + 1 = d by omega, show k + 3 = m by omega, b]
      congr 1; omega
  unfold place
  by_cases hm : m ≤ 2
  · simp only [hm, if_true]
    refine core (y - 1) (m + 9) (by omega) (by omega) ?_ ?_ (.inl ⟨hm, by omega, by omega⟩)
    · intro h
      obtain rfl : m = 2 := by omega
      rw [days, if_pos rfl] at d1
      rw [show y - 1 + 1 = y by omega]; exact d1
    · intro h
      obtain rfl : m = 1 := by omega
      have : days y 1 = 31 := by simp [days]
      have : startM (1 + 9 + 1) - startM (1 + 9) = 31 := by decide
      omega
  · simp only [hm, if_false]
    refine core y (m - 3) (by omega) (by omega) (by omega) ?_ (.inr ⟨hm, rfl, by omega⟩)
    intro _
    have := days_march y (m - 3) (by omega) (by omega)
    rw [if_neg (by omega), if_neg (by omega), show m - 3 + 3 = m by omega] at this
    omega

/-! Steps: a year on, a month on, 400 years on. -/
theorem days_bd (y m : Int) : 28 ≤ days y m ∧ days y m ≤ 31 := by
  unfold days; split
  · split <;> omega
  · split <;> omega
theorem place_day (y m d : Int) : place y m d = place y m 1 + (d - 1) := by simp only [place]; omega
theorem place_epoch : place 1970 1 1 = 0 := by decide
theorem place_cycle (y m d e : Int) : place (y + 400 * e) m d = place y m d + 146097 * e := by
  simp only [place]
  have core : ∀ y : Int, (y + 400 * e) / 400 * 146097 + startY (y + 400 * e - 400 * ((y + 400 * e) / 400)) = y / 400 * 146097 + startY (y - 400 * (y / 400)) + 146097 * e := by
    intro y
    rw [show (y + 400 * e) / 400 = y / 400 + e by omega, show y + 400 * e - 400 * (y / 400 + e) = y - 400 * (y / 400) by omega]
    omega
  by_cases hm : m ≤ 2
  · simp only [hm, if_true]
    rw [show y + 400 * e - 1 = (y - 1) + 400 * e by omega]
    have := core (y - 1)
    omega
  · simp only [hm, if_false]
    have := core y
    omega
theorem place_month (y m : Int) (h0 : 1 ≤ m) (h : m ≤ 11) : place y (m + 1) 1 = place y m 1 + days y m := by
  have hd : ∀ k : Int, 0 ≤ k → k ≤ 10 → m = (if k + 3 > 12 then k + 3 - 12 else k + 3) → days y m = startM (k + 1) - startM k := by
    intro k a b c
    by_cases hk : k + 3 > 12
    · have := days_march (y - 1) k a b
      rw [if_pos hk, if_pos hk] at this
      rw [if_pos hk] at c
      rw [c, ← this, show y - 1 + 1 = y by omega]
    · have := days_march y k a b
      rw [if_neg hk, if_neg hk] at this
      rw [if_neg hk] at c
      rw [c, ← this]
  simp only [place]
  by_cases h1 : m ≤ 1
  · obtain rfl : m = 1 := by omega
    rw [hd 10 (by omega) (by omega) (by decide)]
    simp only [show (1 : Int) ≤ 2 by omega, show (1 : Int) + 1 ≤ 2 by omega, if_true]
    rw [show (1 : Int) + 1 + 9 = 11 by omega, show (1 : Int) + 9 = 10 by omega, show (10 : Int) + 1 = 11 by omega]
    omega
  · by_cases h2 : m ≤ 2
    · obtain rfl : m = 2 := by omega
      simp only [show (2 : Int) ≤ 2 by omega, show ¬ (2 : Int) + 1 ≤ 2 by omega, if_true, if_false]
      have e1 : startM (2 + 1 - 3) = 0 := by decide
      have e2 : startM (2 + 9) = 337 := by decide
      rw [e1, e2]
      have e3 : days y 2 = lenY (y - 1) - 337 := by
        unfold days lenY
        rw [if_pos rfl, show y - 1 + 1 = y by omega]
        split <;> rfl
      rw [e3]
      unfold lenY startY
      rw [show y - 1 + 1 = y by omega]
      by_cases hl : leap y = true
      · rw [if_pos hl]; rw [leap_iff] at hl; omega
      · rw [if_neg hl]; rw [leap_iff] at hl; omega
    · simp only [h2, show ¬ m + 1 ≤ 2 by omega, if_false]
      rw [hd (m - 3) (by omega) (by omega) (by rw [if_neg (by omega)]; omega), show m + 1 - 3 = m - 3 + 1 by omega]
      omega
theorem place_december (y : Int) : place (y + 1) 1 1 = place y 12 1 + 31 := by
  simp only [place, show (1 : Int) ≤ 2 by omega, show ¬ (12 : Int) ≤ 2 by omega, if_true, if_false]
  have e1 : startM (1 + 9) = 306 := by decide
  have e2 : startM (12 - 3) = 275 := by decide
  rw [e1, e2, show y + 1 - 1 = y by omega]
  omega
theorem place_year (y : Int) : place (y + 1) 1 1 = place y 1 1 + yearLen y := by
  rw [place_december]
  have m := place_month y
  have m1 := m 1 (by omega) (by omega)
  have m2 := m 2 (by omega) (by omega)
  have m3 := m 3 (by omega) (by omega)
  have m4 := m 4 (by omega) (by omega)
  have m5 := m 5 (by omega) (by omega)
  have m6 := m 6 (by omega) (by omega)
  have m7 := m 7 (by omega) (by omega)
  have m8 := m 8 (by omega) (by omega)
  have m9 := m 9 (by omega) (by omega)
  have m10 := m 10 (by omega) (by omega)
  have m11 := m 11 (by omega) (by omega)
  simp only [Int.reduceAdd] at m1 m2 m3 m4 m5 m6 m7 m8 m9 m10 m11
  have d1 : days y 1 = 31 := by simp [days]
  have d3 : days y 3 = 31 := by simp [days]
  have d4 : days y 4 = 30 := by simp [days]
  have d5 : days y 5 = 31 := by simp [days]
  have d6 : days y 6 = 30 := by simp [days]
  have d7 : days y 7 = 31 := by simp [days]
  have d8 : days y 8 = 31 := by simp [days]
  have d9 : days y 9 = 30 := by simp [days]
  have d10 : days y 10 = 31 := by simp [days]
  have d11 : days y 11 = 30 := by simp [days]
  have d2 : days y 2 + 337 = yearLen y := by unfold days yearLen; rw [if_pos rfl]; split <;> rfl
  omega
theorem yearLen_bd (y : Int) : 365 ≤ yearLen y ∧ yearLen y ≤ 366 := by unfold yearLen; split <;> omega
theorem yearLen_period (y e : Int) : yearLen (y + 400 * e) = yearLen y := by unfold yearLen; rw [leap_period]
theorem days_period (y e m : Int) : days (y + 400 * e) m = days y m := by unfold days; rw [leap_period]

/-- What has a date's marks is the date. -/
theorem date_is {n y m d : Int} (hv : valid y m d) (h : place y m d = n) : date n = (y, m, d) := by rw [← h, date_place y m d hv]

/-- The next day. -/
theorem date_next (n y m d : Int) (h : date n = (y, m, d)) :
    (d < days y m ∧ date (n + 1) = (y, m, d + 1)) ∨ (d = days y m ∧ m < 12 ∧ date (n + 1) = (y, m + 1, 1)) ∨ (d = days y m ∧ m = 12 ∧ date (n + 1) = (y + 1, 1, 1)) := by
  have hv := date_valid n
  rw [h] at hv
  obtain ⟨⟨v1, v2, v3, v4⟩, hp⟩ := hv
  rw [place_day] at hp
  simp only at v1 v2 v3 v4 hp
  by_cases hd : d < days y m
  · left; exact ⟨hd, date_is ⟨v1, v2, by omega, by omega⟩ (by rw [place_day]; omega)⟩
  · right
    have e : d = days y m := by omega
    by_cases hm : m < 12
    · left
      refine ⟨e, hm, date_is ⟨by omega, by omega, by omega, ?_⟩ ?_⟩
      · have := (days_bd y (m + 1)).1; omega
      · rw [place_month y m v1 (by omega)]; omega
    · right
      obtain rfl : m = 12 := by omega
      refine ⟨e, rfl, date_is ⟨by omega, by omega, by omega, ?_⟩ ?_⟩
      · have := (days_bd (y + 1) 1).1; omega
      · have d12 : days y 12 = 31 := by simp [days]
        rw [place_december]; omega

/-! Weeks. -/
def weekday (n : Int) : Int := (n + 3) % 7 + 1
def thursday (n : Int) : Int := n - weekday n + 4
def week (n : Int) : Int × Int := ((date (thursday n)).1, (thursday n - place (date (thursday n)).1 1 1) / 7 + 1)

/-- A day's place in its year. -/
theorem in_year (n : Int) : 0 ≤ n - place (date n).1 1 1 ∧ n - place (date n).1 1 1 < yearLen (date n).1 := by
  have hv := date_valid n
  obtain ⟨⟨v1, v2, v3, v4⟩, hp⟩ := hv
  generalize (date n).1 = y at *
  generalize (date n).2.1 = m at *
  generalize (date n).2.2 = d at *
  have core : ∀ k : Nat, k ≤ 11 → place y 1 1 ≤ place y (1 + k) 1 := by
    intro k
    induction k with
    | zero => intro _; exact Int.le_refl _
    | succ k ih =>
      intro hk
      have h1 := ih (by omega)
      have h2 := place_month y (1 + k) (by omega) (by omega)
      have h3 := days_bd y (1 + k)
      rw [show (1 : Int) + ((k + 1 : Nat) : Int) = 1 + (k : Int) + 1 by omega]
      omega
  have core2 : ∀ k : Nat, k ≤ 11 → place y (12 - k) 1 + days y (12 - k) ≤ place (y + 1) 1 1 := by
    intro k
    induction k with
    | zero =>
      intro _
      have d12 : days y 12 = 31 := by simp [days]
      rw [place_december]
      show place y 12 1 + days y 12 ≤ _
      omega
    | succ k ih =>
      intro hk
      have h1 := ih (by omega)
      have h2 := place_month y (12 - ((k + 1 : Nat) : Int)) (by omega) (by omega)
      rw [show (12 : Int) - ((k + 1 : Nat) : Int) + 1 = 12 - k by omega] at h2
      have h3 := days_bd y (12 - k)
      omega
  have c1 := core (m - 1).toNat (by omega)
  have c2 := core2 (12 - m).toNat (by omega)
  rw [show (1 : Int) + ((m - 1).toNat : Int) = m by omega] at c1
  rw [show (12 : Int) - ((12 - m).toNat : Int) = m by omega, place_year] at c2
  rw [place_day] at hp
  omega
/-- A year is that of all its days. -/
theorem year_is (n y : Int) (h0 : 0 ≤ n - place y 1 1) (h1 : n - place y 1 1 < yearLen y) : (date n).1 = y := by
  have h2 := in_year n
  generalize (date n).1 = x at *
  have up : ∀ k : Nat, place y 1 1 + 365 * k ≤ place (y + k) 1 1 := by
    intro k
    induction k with
    | zero => simp
    | succ k ih =>
      have := place_year (y + k)
      have := yearLen_bd (y + k)
      rw [show y + ((k + 1 : Nat) : Int) = y + k + 1 by omega]
      omega
  have upx : ∀ k : Nat, place x 1 1 + 365 * k ≤ place (x + k) 1 1 := by
    intro k
    induction k with
    | zero => simp
    | succ k ih =>
      have := place_year (x + k)
      have := yearLen_bd (x + k)
      rw [show x + ((k + 1 : Nat) : Int) = x + k + 1 by omega]
      omega
  rcases Int.lt_trichotomy x y with h | h | h
  · have a := upx (y - x - 1).toNat
    have b := place_year (y - 1)
    have c := up 0
    have e1 := place_year x
    have u2 : place (x + 1) 1 1 ≤ place y 1 1 := by
      have : ∀ k : Nat, place (x + 1) 1 1 ≤ place (x + 1 + k) 1 1 := by
        intro k
        induction k with
        | zero => simp
        | succ k ih =>
          have := place_year (x + 1 + k)
          have := yearLen_bd (x + 1 + k)
          rw [show x + 1 + ((k + 1 : Nat) : Int) = x + 1 + k + 1 by omega]
          omega
      have := this (y - x - 1).toNat
      rwa [show x + 1 + ((y - x - 1).toNat : Int) = y by omega] at this
    omega
  · exact h
  · have e1 := place_year y
    have u2 : place (y + 1) 1 1 ≤ place x 1 1 := by
      have : ∀ k : Nat, place (y + 1) 1 1 ≤ place (y + 1 + k) 1 1 := by
        intro k
        induction k with
        | zero => simp
        | succ k ih =>
          have := place_year (y + 1 + k)
          have := yearLen_bd (y + 1 + k)
          rw [show y + 1 + ((k + 1 : Nat) : Int) = y + 1 + k + 1 by omega]
          omega
      have := this (x - y - 1).toNat
      rwa [show y + 1 + ((x - y - 1).toNat : Int) = x by omega] at this
    omega

theorem week_same (n : Int) (h : weekday n < 7) : week (n + 1) = week n := by
  have : thursday (n + 1) = thursday n := by unfold thursday weekday at *; omega
  unfold week; rw [this]
theorem week_bd (n : Int) : 1 ≤ (week n).2 ∧ (week n).2 ≤ 53 := by
  have h := in_year (thursday n)
  have := yearLen_bd (date (thursday n)).1
  unfold week; simp only; omega
theorem week_next (n : Int) (h : weekday n = 7) :
    ((week (n + 1)).1 = (week n).1 ∧ (week (n + 1)).2 = (week n).2 + 1) ∨ ((week (n + 1)).1 = (week n).1 + 1 ∧ (week (n + 1)).2 = 1 ∧ 52 ≤ (week n).2) := by
  have ht : thursday (n + 1) = thursday n + 7 := by unfold thursday weekday at *; omega
  have h1 := in_year (thursday n)
  have hb := yearLen_bd (date (thursday n)).1
  by_cases hc : thursday n + 7 - place (date (thursday n)).1 1 1 < yearLen (date (thursday n)).1
  · left
    have e := year_is (thursday n + 7) (date (thursday n)).1 (by omega) hc
    unfold week; simp only; rw [ht, e]; omega
  · right
    have hp := place_year (date (thursday n)).1
    have hb2 := yearLen_bd ((date (thursday n)).1 + 1)
    have e := year_is (thursday n + 7) ((date (thursday n)).1 + 1) (by omega) (by omega)
    unfold week; simp only; rw [ht, e]; omega
theorem weekday_bd (n : Int) : 1 ≤ weekday n ∧ weekday n ≤ 7 := by unfold weekday; omega
theorem weekday_next (n : Int) : weekday (n + 1) = weekday n % 7 + 1 := by unfold weekday; omega

end DateMath
