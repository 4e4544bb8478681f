/- slices.SortStableFunc at places: the comparison of two places by their times; the entry. -/
import Derived.Test.YtogoiikgiohlhaaStable
namespace Go.Proofs.Ytogoiikgiohlhaa
open Go Go.RowKit Sm

def cmpI (x y : Int) : Int := if x < y then -1 else if y < x then 1 else 0
theorem compare64_any (x y : Int) (w : World) : Calls Try.prog 30 #[.int .i64 x, .int .i64 y] w fun e w' => e = .returned (.int .i64 (cmpI x y)) ∧ w = w' := by
  have hr : cmpI x y = if x < y then -1 else if y < x then 1 else 0 := rfl
  have hN : ∀ (v : Int) (w : World), Calls Try.prog 43 #[.int .i64 v] w fun e w' => e = .returned (.bool false) ∧ w = w' := by
    intro v w
    go_enter Try.func43, Try.ntmps43
    go_wp2
    go_ret
    exact ⟨rfl, rfl⟩
  by_cases h1 : x < y
  · rw [if_pos h1] at hr
    rw [hr]
    clear hr
    go_enter Try.func30, Try.ntmps30
    go_wp2_with fail
    refine (hN _ _).mono ?_
    rintro e w' ⟨rfl, rfl⟩
    go_wp2_with fail
    refine (hN _ _).mono ?_
    rintro e w' ⟨rfl, rfl⟩
    clear hN
    go_wp2
    go_ret
    exact ⟨rfl, rfl⟩
  · rw [if_neg h1] at hr
    by_cases h2 : y < x
    all_goals
      first | rw [if_pos h2] at hr | rw [if_neg h2] at hr
      rw [hr]
      clear hr
      go_enter Try.func30, Try.ntmps30
      go_wp2_with fail
      refine (hN _ _).mono ?_
      rintro e w' ⟨rfl, rfl⟩
      go_wp2_with fail
      refine (hN _ _).mono ?_
      rintro e w' ⟨rfl, rfl⟩
      clear hN
      go_wp2
      go_ret
      exact ⟨rfl, rfl⟩
/-- The archives' times, where a slice of archives lies. -/
def TimesAt (w : World) (a : Option Addr) (n : Nat) (T : Int → Int) : Prop := ∀ i : Nat, i < n → ∃ b o, a = some ⟨b, o, none⟩ ∧ w.cell? ⟨b, o + i * 37 + 33, none⟩ = some (.int .i64 (T i))
set_option maxHeartbeats 1000000 in
theorem closure_any {w : World} {box n cap : Nat} {a : Option Addr} {T : Int → Int} (hb : w.cell? ⟨box, 0, none⟩ = some (.slice a n cap)) (hT : TimesAt w a n T) (hn : n ≤ 1000) (x y : Int) (hx : 0 ≤ x ∧ x < n) (hy : 0 ≤ y ∧ y < n) :
    Calls Try.prog 29 #[.int .i64 x, .int .i64 y, .pointer (some ⟨box, 0, none⟩)] w fun e w' => e = .returned (.int .i64 (cmpI (T y) (T x))) ∧ ∃ m, w' = w.drewN m := by
  obtain ⟨i, rfl⟩ : ∃ i : Nat, x = i := ⟨x.toNat, by omega⟩
  obtain ⟨j, rfl⟩ : ∃ i : Nat, y = i := ⟨y.toNat, by omega⟩
  obtain ⟨b, o, rfl, ci⟩ := hT i (by omega)
  obtain ⟨b', o', e, cj⟩ := hT j (by omega)
  injection e with e
  injection e with e1 e2 _
  subst e1 e2
  clear hT
  generalize T (i : Int) = Ti at *
  generalize T (j : Int) = Tj at *
  have CQ := fun q => (compare64_any Tj Ti (w.drewN q)).mono fun e w' ⟨he, hw⟩ => (⟨he, q, hw.symm⟩ : e = Ending.returned (.int .i64 (cmpI Tj Ti)) ∧ ∃ m, w' = w.drewN m)
  generalize cmpI Tj Ti = r at *
  have pi : (0 : Int) ≤ (i : Int) := by omega
  have bi : (i : Int) < (n : Int) := by omega
  have pj : (0 : Int) ≤ (j : Int) := by omega
  have bj : (j : Int) < (n : Int) := by omega
  go_enter Try.func29, Try.ntmps29
  go_wp2
  go_quiet (exact CQ _)
  go_wp2
  go_ret
  exact ⟨rfl, _, rfl⟩
theorem cmpOf_times {w0 : World} {blk box n lcap : Nat} {a : Option Addr} {T : Int → Int} (hb : w0.cell? ⟨box, 0, none⟩ = some (.slice a n lcap)) (hT : TimesAt w0 a n T) (hn : n ≤ 1000) (h1 : box ≠ blk) (h2 : ∀ ad, 0 < n → a = some ad → ad.block ≠ blk) :
    CmpOf w0 blk n box fun x y => cmpI (T y) (T x) := fun w t x y hx hy => by
  refine closure_any (t.cell hb h1) (fun i hi => ?_) hn x y hx hy
  obtain ⟨b, o, e, hc⟩ := hT i hi
  exact ⟨b, o, e, t.cell hc (h2 ⟨b, o, none⟩ (by omega) e)⟩
theorem cmpI_neg (T : Int → Int) (x y : Int) : cmpI (T y) (T x) < 0 ↔ T y < T x := by
  unfold cmpI
  split
  · omega
  · split <;> omega
set_option maxHeartbeats 1000000 in
theorem sortStable_any {w0 w : World} {blk off n cap box : Nat} {d : Nat → Int} {K : Int → Int} {cv : Int → Int → Int} (S : SR w0 blk off n d w) (hC : CmpOf w0 blk n box cv) (hcv : ∀ x y, cv x y < 0 ↔ K y < K x)
    (hn : n ≤ 40) (hd : Decr d 0 n) :
    Calls Try.prog 28 #[.slice (some ⟨blk, off, none⟩) n cap, cmpV box] w (StablePost w0 K blk off n d) := by
  have ST := stable_any (cap := cap) S hC hcv hn hd
  clear S hC hcv hd
  go_enter Try.func28, Try.ntmps28
  go_wp2_with fail
  refine ST.mono ?_
  rintro en w1 ⟨rfl, f, S2, dn⟩
  have HD := Lib.hid dn
  clear dn
  go_wp2
  exact bodyPost_end (results_none rfl _ _ _) rfl ⟨rfl, f, S2, HD.out⟩
end Go.Proofs.Ytogoiikgiohlhaa
