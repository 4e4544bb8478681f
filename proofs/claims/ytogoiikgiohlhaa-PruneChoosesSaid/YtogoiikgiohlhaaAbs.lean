/- Rows of archives: how they lie in memory; few; whether numbers can be. -/
import Derived.Test.YtogoiikgiohlhaaRefPeriod
import Derived.Test.YtogoiikgiohlhaaChooseMath
namespace Go.Proofs.Ytogoiikgiohlhaa
open Go Go.RowKit

/-- n archives, whose cells are R and whose times are T. -/
structure Abs (w : World) (a : Option Addr) (cap n : Nat) (R : Nat → List Value) (T : Int → Int) : Prop where
  fits : n ≤ cap
  room : cap ≤ 9223372036854775807
  len : ∀ i, i < n → (R i).length = 37
  time : ∀ i : Nat, i < n → (R i)[33]? = some (.int .i64 (T i))
  rows : n = 0 ∨ ∃ b off, a = some ⟨b, off, none⟩ ∧ b < w.heap.size ∧ ∀ i, i < n → w.rangeAt b (off + i * 37) (R i)
section
variable {w w' : World} {a : Option Addr} {cap n : Nat} {R : Nat → List Value} {T : Int → Int}
theorem Abs.keeps (h : Abs w a cap n R T) (k : Keeps w w') (hs : w.heap.size ≤ w'.heap.size) : Abs w' a cap n R T :=
  ⟨h.fits, h.room, h.len, h.time, by
    rcases h.rows with e | ⟨b, off, e, hl, hr⟩
    · exact .inl e
    · exact .inr ⟨b, off, e, by omega, fun i hi j v hv => k _ _ (hr i hi j v hv)⟩⟩
theorem Abs.below (h : Abs w a cap n R T) (k : Below w.heap.size w w') : Abs w' a cap n R T := h.keeps (Keeps.below k) k.size
theorem Abs.touch {F : Nat → Prop} (h : Abs w a cap n R T) (k : Touch F w w') (hF : ∀ ad, 0 < n → a = some ad → ¬ F ad.block) : Abs w' a cap n R T :=
  ⟨h.fits, h.room, h.len, h.time, by
    rcases h.rows with e | ⟨b, off, e, hl, hr⟩
    · exact .inl e
    · by_cases hn0 : n = 0
      · exact .inl hn0
      exact .inr ⟨b, off, e, Nat.lt_of_lt_of_le hl k.size, fun i hi j v hv => k.cell (hr i hi j v hv) (hF ⟨b, off, none⟩ (by omega) e)⟩⟩
theorem Abs.cut (h : Abs w a cap n R T) {m : Nat} (hm : m ≤ n) : Abs w a cap m R T :=
  ⟨Nat.le_trans hm h.fits, h.room, fun i hi => h.len i (by omega), fun i hi => h.time i (by omega), by
    rcases h.rows with e | ⟨b, off, e, hl, hr⟩
    · left; omega
    · exact .inr ⟨b, off, e, hl, fun i hi => hr i (by omega)⟩⟩
theorem Abs.times (h : Abs w a cap n R T) : TimesAt w a n T := fun i hi => by
  obtain ⟨b, off, e, _, hr⟩ := h.rows.resolve_left (by omega)
  exact ⟨b, off, e, rangeAt_cell (hr i hi) (h.time i hi)⟩
theorem TimesAt.keeps (h : TimesAt w a n T) (k : Keeps w w') : TimesAt w' a n T := fun i hi => by
  obtain ⟨b, o, e, hc⟩ := h i hi
  exact ⟨b, o, e, k _ _ hc⟩
end
theorem few25_any (a : Option Addr) (cap n : Nat) {R : Nat → List Value} {T : Int → Int} (w : World) (hr : Abs w a cap n R T) :
    Calls Try.prog 16 #[.slice a n cap] w fun e w' => e = .returned (.slice a (min n 40) cap) ∧ w = w' := by
  have hl := hr.fits
  have hc := hr.room
  by_cases h : 40 < n
  · obtain ⟨b, off, rfl, _⟩ := hr.rows.resolve_left (by omega)
    clear hr
    go_enter Try.func16, Try.ntmps16
    go_wp2
    go_ret
    exact ⟨ret_slice (by omega), rfl⟩
  · clear hr
    go_enter Try.func16, Try.ntmps16
    go_wp2
    go_ret
    exact ⟨ret_slice (by omega), rfl⟩
def badT (t : Int) : Bool := decide (t < -1099511627776) || decide (1099511627776 < t)
theorem rightClosure_any (cs : Array Value) (t : Int) (hcs : cs[33]? = some (.int .i64 t)) (w : World) :
    Calls Try.prog 41 #[.agg cs] w fun e w' => e = .returned (.bool (badT t)) ∧ Below w.heap.size w w' := by
  have hn := heap_alloc_new w (.cells cs 49)
  have hc : (w.alloc (.cells cs 49)).cell? ⟨w.heap.size, 33, none⟩ = some (.int .i64 t) := by simp only [World.cell?, hn]; exact hcs
  have hb := (Below.refl w.heap.size w).alloc (Nat.le_refl _) (.cells cs 49)
  have hr : badT t = (decide (t < -1099511627776) || decide (1099511627776 < t)) := rfl
  by_cases h1 : t < -1099511627776
  · have hr : badT t = true := by simp [badT, h1]
    rw [hr]
    clear hr
    go_enter Try.func41, Try.ntmps41
    go_wp2
    go_ret
    exact ⟨rfl, hb⟩
  · have hr : badT t = decide (1099511627776 < t) := by simp [badT, h1]
    by_cases h2 : 1099511627776 < t
    all_goals
      simp only [h2, decide_true, decide_false] at hr
      rw [hr]
      clear hr
      go_enter Try.func41, Try.ntmps41
      go_wp2
      go_ret
      exact ⟨rfl, hb⟩
def IndexPost (w : World) (n : Nat) (T : Int → Int) (e : Ending) (w' : World) : Prop :=
  ∃ r : Int, e = .returned (.int .i64 r) ∧ (0 ≤ r ↔ ∃ i : Nat, i < n ∧ badT (T i) = true) ∧ Below w.heap.size w w'
def IdxRel (w : World) (n : Nat) (T : Int → Int) (x : Value) (wr : World) : Prop :=
  ∃ i : Nat, i ≤ n ∧ x = .int .i64 i ∧ (∀ j : Nat, j < i → badT (T j) = false) ∧ Below w.heap.size w wr
set_option maxHeartbeats 1000000 in
theorem indexFunc_any (a : Option Addr) (cap n : Nat) {R : Nat → List Value} {T : Int → Int} (w : World) (hr : Abs w a cap n R T) :
    Calls Try.prog 48 #[.slice a n cap, .func (.func 41) #[] #[]] w (IndexPost w n T) := by
  have HA := Lib.hid hr
  have hl := hr.fits
  have hc := hr.room
  clear hr
  go_enter Try.func48, Try.ntmps48
  go_wp2
  go_loopw [8] (fun x wr => IdxRel w n T x wr) (fun x _ => n - (intOf x).toNat)
  case atStart => exact ⟨0, Nat.zero_le _, rfl, fun j hj => by omega, Below.refl _ _⟩
  case round =>
    obtain ⟨i, hi, rfl, hno, hb⟩ := hrel
    have HN := Lib.hid hno
    have HB := Lib.hid hb
    clear hno hb
    by_cases hlt : i < n
    · have hA := HA.out.below HB.out
      obtain ⟨b, off, rfl, _, hrows⟩ := hA.rows.resolve_left (by omega)
      have hrow := hrows i hlt
      have hlen := hA.len i hlt
      have CL := rightClosure_any (R i).toArray (T i) (by rw [List.getElem?_toArray]; exact hA.time i hlt) wr
      have hiC : (Try.prog.info? 49).map (·.size) = some (R i).length := by rw [hlen]; kernel_rfl
      generalize hbt : badT (T i) = bt at *
      have HT := Lib.hid hbt
      generalize R i = C at *
      clear hrows hA hlen hbt
      cases bt
      all_goals
        go_wp2_with (with_reducible refine at_load 49 ?_; go_must (refine wpList_load_mid rfl 49 _ rfl b (off + i * 37) rfl C _ hrow Try.underlying49 rfl hiC ?_))
        refine CL.mono ?_
        rintro e w1 ⟨rfl, hb1⟩
        have HB1 := Lib.hid (HB.out.trans (hb1.mono HB.out.size))
        clear hb1 hrow
        go_wp2
      · go_roundw
        case rel =>
          refine ⟨i + 1, by omega, by go_num, fun j hj => ?_, HB1.out⟩
          by_cases e : j = i
          · rw [e]; exact HT.out
          · exact HN.out j (by omega)
        case measure => simp [intOf]; omega
      · go_ret
        exact ⟨i, rfl, ⟨fun _ => ⟨i, hlt, HT.out⟩, fun _ => by omega⟩, HB1.out⟩
    · go_wp2
      go_ret
      exact ⟨-1, rfl, ⟨fun h => by omega, fun ⟨j, hj, hb⟩ => by rw [HN.out j (by omega)] at hb; cases hb⟩, HB.out⟩
theorem containsFunc_any (a : Option Addr) (cap n : Nat) {R : Nat → List Value} {T : Int → Int} (w : World) (hr : Abs w a cap n R T) :
    Calls Try.prog 40 #[.slice a n cap, .func (.func 41) #[] #[]] w fun e w' => ∃ b : Bool, e = .returned (.bool b) ∧ (b = true ↔ ∃ i : Nat, i < n ∧ badT (T i) = true) ∧ Below w.heap.size w w' := by
  have IX := indexFunc_any a cap n w hr
  clear hr
  go_enter Try.func40, Try.ntmps40
  go_wp2_with fail
  refine IX.mono ?_
  rintro e w1 ⟨r, rfl, hiff, hb⟩
  have HI := Lib.hid hiff
  clear hiff
  obtain ⟨b, hb2⟩ : ∃ b, decide (r ≥ 0) = b := ⟨_, rfl⟩
  have hb3 : decide (0 ≤ r) = b := hb2
  go_wp2
  go_ret
  exact ⟨b, rfl, by rw [← HI.out, ← hb3, decide_eq_true_iff], hb⟩
/-- Whether numbers and times can be. -/
def Rightly (k : Nat → Int) (n : Nat) (T : Int → Int) : Prop := (∀ j : Nat, j < 6 → 0 ≤ k j ∧ k j ≤ 1000) ∧ ∀ i : Nat, i < n → badT (T i) = false
abbrev keepV (k : Nat → Int) : Value := .agg #[.int .i64 (k 0), .int .i64 (k 1), .int .i64 (k 2), .int .i64 (k 3), .int .i64 (k 4), .int .i64 (k 5)]
abbrev keepC (k : Nat → Int) : Array Value := #[.int .i64 (k 0), .int .i64 (k 1), .int .i64 (k 2), .int .i64 (k 3), .int .i64 (k 4), .int .i64 (k 5)]
theorem keepC_at (k : Nat → Int) (j : Nat) (h : j < 6) : (keepC k)[j]? = some (.int .i64 (k j)) := by
  have : j = 0 ∨ j = 1 ∨ j = 2 ∨ j = 3 ∨ j = 4 ∨ j = 5 := by omega
  rcases this with rfl | rfl | rfl | rfl | rfl | rfl <;> rfl
def RightRel (w : World) (k : Nat → Int) (B : Nat) (x : Value) (wr : World) : Prop :=
  ∃ j : Nat, j ≤ 6 ∧ x = .int .i64 j ∧ (∀ m : Nat, m < j → 0 ≤ k m ∧ k m ≤ 1000) ∧ (∀ m, m < 6 → wr.cell? ⟨B, m, none⟩ = some (.int .i64 (k m))) ∧ Below w.heap.size w wr
def BoolPost (w : World) (P : Prop) (e : Ending) (w' : World) : Prop := ∃ b : Bool, e = .returned (.bool b) ∧ (b = true ↔ P) ∧ Below w.heap.size w w'
set_option maxHeartbeats 2000000 in
theorem right_any (a : Option Addr) (cap n : Nat) {R : Nat → List Value} {T : Int → Int} (k : Nat → Int) (w : World) (hr : Abs w a cap n R T) :
    Calls Try.prog 27 #[.slice a n cap, keepV k] w (BoolPost w (Rightly k n T)) := by
  have HA := Lib.hid hr
  have hl := hr.fits
  have hc := hr.room
  clear hr
  go_enter Try.func27, Try.ntmps27
  go_wp2
  have hb2 : Below w.heap.size w ((w.alloc (.cells (keepC k) 36)).alloc (.cells (keepC k) 3)) := ((Below.refl _ _).alloc (Nat.le_refl _) _).alloc (by simp) _
  have hc2 : ∀ m, m < 6 → ((w.alloc (.cells (keepC k) 36)).alloc (.cells (keepC k) 3)).cell? ⟨w.heap.size + 1, m, none⟩ = some (.int .i64 (k m)) := fun m hm => by
    have hn := heap_alloc_new (w.alloc (.cells (keepC k) 36)) (.cells (keepC k) 3)
    rw [World.size_alloc] at hn
    simp only [World.cell?, hn]
    exact keepC_at k m hm
  unfold keepC at hb2 hc2
  generalize (w.alloc (.cells #[.int .i64 (k 0), .int .i64 (k 1), .int .i64 (k 2), .int .i64 (k 3), .int .i64 (k 4), .int .i64 (k 5)] 36)).alloc (.cells #[.int .i64 (k 0), .int .i64 (k 1), .int .i64 (k 2), .int .i64 (k 3), .int .i64 (k 4), .int .i64 (k 5)] 3) = w2 at *
  have HS := Lib.hid (show RightRel w k (w.heap.size + 1) (.int .i64 0) w2 from ⟨0, by omega, rfl, fun m hm => by omega, hc2, hb2⟩)
  clear hb2 hc2
  generalize hB : w.heap.size + 1 = B at *
  go_loopw [21] (fun x wr => RightRel w k B x wr) (fun x _ => 6 - (intOf x).toNat)
  case atStart => exact HS.out
  case round =>
    clear HS hB
    obtain ⟨j, hj, rfl, hgood, hcs, hb⟩ := hrel
    have HG := Lib.hid hgood
    have HB := Lib.hid hb
    have HC := Lib.hid hcs
    clear hgood hb hcs
    by_cases hlt : j < 6
    · have hcj := HC.out j hlt
      have hkj : k j = k j := rfl
      generalize hv : k j = v at *
      have HV := Lib.hid hv
      clear hv hkj
      have pj : (0 : Int) ≤ (j : Int) := by omega
      have bj : (j : Int) < 6 := by omega
      by_cases h0 : v < 0
      · have hz : decide (v < 0) = true := decide_eq_true h0
        go_wp2
        go_ret
        exact ⟨false, rfl, ⟨fun h => absurd h (by decide), fun h => by have := (h.1 j hlt).1; have := HV.out; omega⟩, HB.out⟩
      · by_cases h1 : 1000 < v
        · go_wp2
          go_ret
          exact ⟨false, rfl, ⟨fun h => absurd h (by decide), fun h => by have := (h.1 j hlt).2; have := HV.out; omega⟩, HB.out⟩
        · go_wp2
          go_roundw
          case rel =>
            refine ⟨j + 1, by omega, by go_num, fun m hm => ?_, HC.out, HB.out⟩
            by_cases e : m = j
            · rw [e, HV.out]; omega
            · exact HG.out m (by omega)
          case measure => simp [intOf]; omega
    · obtain rfl : j = 6 := by omega
      have CF := containsFunc_any a cap n wr (HA.out.below HB.out)
      go_wp2_with fail
      refine CF.mono ?_
      rintro e w1 ⟨b, rfl, hiff, hb1⟩
      have HI := Lib.hid hiff
      have HB1 := Lib.hid (HB.out.trans (hb1.mono HB.out.size))
      clear hiff hb1
      cases b
      all_goals
        go_wp2
        go_ret
      · refine ⟨true, rfl, ⟨fun _ => ⟨HG.out, fun i hi => ?_⟩, fun _ => rfl⟩, HB1.out⟩
        cases hb : badT (T i)
        · rfl
        · have := HI.out.2 ⟨i, hi, hb⟩; cases this
      · refine ⟨false, rfl, ⟨fun h => absurd h (by decide), fun h => ?_⟩, HB1.out⟩
        obtain ⟨i, hi, hb⟩ := HI.out.1 (by trivial)
        rw [h.2 i hi] at hb; cases hb
end Go.Proofs.Ytogoiikgiohlhaa
