/- The law's walk: PruneEach. -/
import Derived.Test.YtogoiikgiohlhaaKept
namespace Go.Proofs.Ytogoiikgiohlhaa
open Go Go.RowKit Ch Sm

def LastRel (w3 : World) (T : Int → Int) (r n i : Nat) (lt : Value) (x : Value) (wr : World) : Prop :=
  ∃ (m : Nat) (b : Bool), m ≤ n ∧ x = .int .i64 m ∧ lt = .bool b ∧ (b = true ↔ ∀ j : Nat, j < m → DateMath.per r (T j) = DateMath.per r (T i) → ¬ Bef T j i) ∧ Below w3.heap.size w3 wr
def EachRel (w3 : World) (S : List Int) (n : Nat) (x y : Value) (wr : World) : Prop :=
  ∃ i : Nat, i ≤ n ∧ y = .int .i64 i ∧ x = .int .i64 (chosen i S).length ∧ Below w3.heap.size w3 wr
theorem keep_at1 (n : Int) (W : World) : Sem.run Try.prog (Instr.index 50 (.agg #[.int .i64 0, .int .i64 0, .int .i64 0, .int .i64 0, .int .i64 0, .int .i64 0, .int .i64 0, .int .i64 n, .int .i64 0, .int .i64 0, .int .i64 0, .int .i64 0, .int .i64 0, .int .i64 0, .int .i64 n, .int .i64 0, .int .i64 0, .int .i64 0, .int .i64 0, .int .i64 0, .int .i64 0, .int .i64 n, .int .i64 0, .int .i64 0, .int .i64 0, .int .i64 0, .int .i64 0, .int .i64 0, .int .i64 n, .int .i64 0, .int .i64 0, .int .i64 0, .int .i64 0, .int .i64 0, .int .i64 0, .int .i64 n]) (.int .i64 1)) W = .ok (.agg #[.int .i64 0, .int .i64 n, .int .i64 0, .int .i64 0, .int .i64 0, .int .i64 0]) W := by kernel_rfl
theorem keep_at2 (n : Int) (W : World) : Sem.run Try.prog (Instr.index 50 (.agg #[.int .i64 0, .int .i64 0, .int .i64 0, .int .i64 0, .int .i64 0, .int .i64 0, .int .i64 0, .int .i64 n, .int .i64 0, .int .i64 0, .int .i64 0, .int .i64 0, .int .i64 0, .int .i64 0, .int .i64 n, .int .i64 0, .int .i64 0, .int .i64 0, .int .i64 0, .int .i64 0, .int .i64 0, .int .i64 n, .int .i64 0, .int .i64 0, .int .i64 0, .int .i64 0, .int .i64 0, .int .i64 0, .int .i64 n, .int .i64 0, .int .i64 0, .int .i64 0, .int .i64 0, .int .i64 0, .int .i64 0, .int .i64 n]) (.int .i64 2)) W = .ok (.agg #[.int .i64 0, .int .i64 0, .int .i64 n, .int .i64 0, .int .i64 0, .int .i64 0]) W := by kernel_rfl
theorem keep_at3 (n : Int) (W : World) : Sem.run Try.prog (Instr.index 50 (.agg #[.int .i64 0, .int .i64 0, .int .i64 0, .int .i64 0, .int .i64 0, .int .i64 0, .int .i64 0, .int .i64 n, .int .i64 0, .int .i64 0, .int .i64 0, .int .i64 0, .int .i64 0, .int .i64 0, .int .i64 n, .int .i64 0, .int .i64 0, .int .i64 0, .int .i64 0, .int .i64 0, .int .i64 0, .int .i64 n, .int .i64 0, .int .i64 0, .int .i64 0, .int .i64 0, .int .i64 0, .int .i64 0, .int .i64 n, .int .i64 0, .int .i64 0, .int .i64 0, .int .i64 0, .int .i64 0, .int .i64 0, .int .i64 n]) (.int .i64 3)) W = .ok (.agg #[.int .i64 0, .int .i64 0, .int .i64 0, .int .i64 n, .int .i64 0, .int .i64 0]) W := by kernel_rfl
theorem keep_at4 (n : Int) (W : World) : Sem.run Try.prog (Instr.index 50 (.agg #[.int .i64 0, .int .i64 0, .int .i64 0, .int .i64 0, .int .i64 0, .int .i64 0, .int .i64 0, .int .i64 n, .int .i64 0, .int .i64 0, .int .i64 0, .int .i64 0, .int .i64 0, .int .i64 0, .int .i64 n, .int .i64 0, .int .i64 0, .int .i64 0, .int .i64 0, .int .i64 0, .int .i64 0, .int .i64 n, .int .i64 0, .int .i64 0, .int .i64 0, .int .i64 0, .int .i64 0, .int .i64 0, .int .i64 n, .int .i64 0, .int .i64 0, .int .i64 0, .int .i64 0, .int .i64 0, .int .i64 0, .int .i64 n]) (.int .i64 4)) W = .ok (.agg #[.int .i64 0, .int .i64 0, .int .i64 0, .int .i64 0, .int .i64 n, .int .i64 0]) W := by kernel_rfl
theorem keep_at5 (n : Int) (W : World) : Sem.run Try.prog (Instr.index 50 (.agg #[.int .i64 0, .int .i64 0, .int .i64 0, .int .i64 0, .int .i64 0, .int .i64 0, .int .i64 0, .int .i64 n, .int .i64 0, .int .i64 0, .int .i64 0, .int .i64 0, .int .i64 0, .int .i64 0, .int .i64 n, .int .i64 0, .int .i64 0, .int .i64 0, .int .i64 0, .int .i64 0, .int .i64 0, .int .i64 n, .int .i64 0, .int .i64 0, .int .i64 0, .int .i64 0, .int .i64 0, .int .i64 0, .int .i64 n, .int .i64 0, .int .i64 0, .int .i64 0, .int .i64 0, .int .i64 0, .int .i64 0, .int .i64 n]) (.int .i64 5)) W = .ok (.agg #[.int .i64 0, .int .i64 0, .int .i64 0, .int .i64 0, .int .i64 0, .int .i64 n]) W := by kernel_rfl
theorem keep_at (n r : Nat) (h1 : 1 ≤ r) (h5 : r ≤ 5) (W : World) : Sem.run Try.prog (Instr.index 50 (.agg #[.int .i64 0, .int .i64 0, .int .i64 0, .int .i64 0, .int .i64 0, .int .i64 0, .int .i64 0, .int .i64 n, .int .i64 0, .int .i64 0, .int .i64 0, .int .i64 0, .int .i64 0, .int .i64 0, .int .i64 n, .int .i64 0, .int .i64 0, .int .i64 0, .int .i64 0, .int .i64 0, .int .i64 0, .int .i64 n, .int .i64 0, .int .i64 0, .int .i64 0, .int .i64 0, .int .i64 0, .int .i64 0, .int .i64 n, .int .i64 0, .int .i64 0, .int .i64 0, .int .i64 0, .int .i64 0, .int .i64 0, .int .i64 n]) (.int .i64 r)) W = .ok (keepV fun j => if j = r then (n : Int) else 0) W := by
  have hr : r = 1 ∨ r = 2 ∨ r = 3 ∨ r = 4 ∨ r = 5 := by omega
  rcases hr with rfl | rfl | rfl | rfl | rfl
  · exact keep_at1 n W
  · exact keep_at2 n W
  · exact keep_at3 n W
  · exact keep_at4 n W
  · exact keep_at5 n W
def KeepPost (W : World) (n : Nat) (T : Int → Int) (Fin : List Int) (e : Ending) (w' : World) : Prop :=
  (e = .returned (.tuple #[.slice none 0 0, .int .i64 2]) ∧ Below W.heap.size W w') ∨
  ((∀ i : Nat, i < n → badT (T i) = false) ∧ ∃ v, e = .returned (.tuple #[v, .int .i64 0]) ∧ w'.ownsRow W.heap.size 3 1 v (chosen n Fin).length ((chosen n Fin).map fun x => .int .i64 x) ∧ Below W.heap.size W w')
set_option maxRecDepth 40000 in
set_option maxHeartbeats 4000000 in
theorem pruneEach_walk (a : Option Addr) (cap n0 : Nat) (R : Nat → List Value) (T : Int → Int) (rule : Int) (w : World) (hA : Abs w a cap n0 R T) (_h : -9223372036854775808 ≤ rule ∧ rule ≤ 9223372036854775807) :
    Calls Try.prog 8 #[.slice a n0 cap, .int .i64 rule] w fun e w' => e = .returned (.bool true) ∧ Below w.heap.size w w' := by
  obtain ⟨n, hn⟩ : ∃ n, min n0 40 = n := ⟨_, rfl⟩
  have FW := few25_any a cap n0 w hA
  rw [hn] at FW
  have AB := hA.cut (m := n) (by omega)
  have hn40 : n ≤ 40 := by omega
  have hfit := AB.fits
  have hroom := AB.room
  have hfit0 := hA.fits
  clear hn hA
  obtain ⟨r, hr⟩ : ∃ r : Nat, within rule 1 5 = r := ⟨(within rule 1 5).toNat, by have := within_bds rule 1 5 (by omega); omega⟩
  obtain ⟨r1, r5⟩ : 1 ≤ r ∧ r ≤ 5 := by have := within_bds rule 1 5 (by omega); omega
  have WI := within_any rule 1 5 w
  rw [hr] at WI
  clear hr
  have LV := lives_any
  obtain ⟨k, hk⟩ : ∃ k : Nat → Int, k = fun j => if j = r then (n : Int) else 0 := ⟨_, rfl⟩
  have CH := fun W (h : Abs W a cap n R T) => choose_any a cap n k W h hn40
  have hcnt : cntK k = fun j => if j = r then n else 0 := by
    funext j
    show (k j).toNat = _
    rw [hk]
    simp only
    split <;> simp
  have PER := fun (t : Int) (W : World) (h1 : -1099511627776 ≤ t) (h2 : t ≤ 1099511627776) => refPeriod_any r r1 r5 t W h1 h2
  have EK := each_kept (K := T) (perP T) n r r1 r5 (fun x y z h1 h2 h3 => (DateMath.per_between r h1 h2 h3.symm).trans h3)
  rw [← hcnt] at EK
  obtain ⟨Fin, hFin⟩ : ∃ F, kept (perP T) (cntK k) n T = F := ⟨_, rfl⟩
  have CH2 : ∀ W, Abs W a cap n R T → Calls Try.prog 17 #[.slice a n cap, keepV k] W (KeepPost W n T Fin) := fun W h => (CH W h).mono fun e w' hp => by
    rcases hp with hp | ⟨h1, v, L, h2, h3, h4, h5⟩
    · exact .inl hp.2
    · have h3 : L = chosen n Fin := by rw [← hFin]; exact h3
      subst h3
      exact .inr ⟨h1.2, v, h2, h4, h5⟩
  rw [hFin] at EK
  have HEK := Lib.hid EK
  clear EK CH hFin hcnt
  have hAB := Lib.hid AB
  have hidx := keep_at n r r1 r5
  rw [← hk] at hidx
  have CH := CH2
  clear CH2 hk AB
  go_enter Try.func8, Try.ntmps8
  go_wp2_with fail
  refine FW.mono ?_
  rintro e w' ⟨rfl, rfl⟩
  go_wp2_with fail
  refine WI.mono ?_
  rintro e w' ⟨rfl, rfl⟩
  clear WI FW
  go_wp2_with fail
  have hb2 := (Below.refl w.heap.size w).alloc (Nat.le_refl _) (.cells #[.int .i64 (k 0), .int .i64 (k 1), .int .i64 (k 2), .int .i64 (k 3), .int .i64 (k 4), .int .i64 (k 5)] 36)
  have HB2 := Lib.hid hb2
  refine (CH _ (hAB.out.below hb2)).mono ?_
  clear CH hidx hb2
  rintro e w3 (⟨rfl, hb3⟩ | ⟨hgood, v, rfl, ho, hb3⟩)
  · have HB3 := Lib.hid (HB2.out.trans (hb3.mono HB2.out.size))
    clear hb3
    go_wp2_with fail
    refine (LV _).mono ?_
    rintro e w' ⟨rfl, rfl⟩
    go_wp2
    go_ret
    exact ⟨rfl, HB3.out⟩
  · have HB3 := Lib.hid (HB2.out.trans (hb3.mono HB2.out.size))
    have HA3 := Lib.hid (hAB.out.below HB3.out)
    obtain ⟨av, cv, rfl⟩ := own_slice ho
    have HO := Lib.hid ho
    have HG := Lib.hid (fun (j : Nat) (hj : j < n) => badT_no (hgood j hj))
    obtain ⟨Ln, hLn⟩ : ∃ m, (chosen n Fin).length = m := ⟨_, rfl⟩
    have HLn := Lib.hid hLn
    have hln := chosen_le n Fin
    rw [hLn] at hln ⊢
    clear hb3 ho hgood hLn HB2 hAB
    go_wp2_with fail
    go_loopw [9, 10] (fun x y wr => EachRel w3 Fin n x y wr) (fun _ y _ => n - (intOf y).toNat)
    case atStart => exact ⟨0, Nat.zero_le _, rfl, rfl, Below.refl _ _⟩
    case round =>
      obtain ⟨i, hi, rfl, rfl, hb⟩ := hrel
      have HB := Lib.hid hb
      clear hb
      have hat := chosen_le i Fin
      obtain ⟨at0, hat0⟩ : ∃ m, (chosen i Fin).length = m := ⟨_, rfl⟩
      rw [hat0] at hat
      have HAT := Lib.hid hat0
      simp only [hat0]
      clear hat0
      by_cases hlt : i < n
      · have ABr := HA3.out.below HB.out
        obtain ⟨lb, lo, rfl, hti⟩ := ABr.times i hlt
        have hbi := HG.out i hlt
        have PI := PER (T i) wr hbi.1 hbi.2
        obtain ⟨pi, hpi⟩ : ∃ p, DateMath.per r (T i) = p := ⟨_, rfl⟩
        obtain ⟨ti, htiE⟩ : ∃ t, T (i : Int) = t := ⟨_, rfl⟩
        rw [hpi] at PI
        rw [htiE] at PI hti
        have HPI := Lib.hid hpi
        have HTI := Lib.hid htiE
        clear hpi htiE hbi ABr
        obtain ⟨wo, rfl⟩ : ∃ wo : World, wo = wr := ⟨_, rfl⟩
        unfold WeekPost at PI
        go_wp2_with fail
        refine PI.mono ?_
        rintro e w4 ⟨rfl, hb4⟩
        have HB4 := Lib.hid (HB.out.trans (hb4.mono HB.out.size))
        have hti4 := (Keeps.below hb4) _ _ hti
        have HT4 := Lib.hid hti4
        clear PI hb4 hti hti4
        go_wp2
        go_loopw [13, 14] (fun lt x wr => LastRel w3 T r n i lt x wr) (fun _ x _ => n - (intOf x).toNat)
        case atStart => exact ⟨0, true, Nat.zero_le _, rfl, rfl, ⟨fun _ j hj => by omega, fun _ => rfl⟩, HB4.out⟩
        case round =>
          obtain ⟨m, b, hm, rfl, rfl, hiff, hb⟩ := hrel
          have HI := Lib.hid hiff
          have HBm := Lib.hid hb
          clear hiff hb
          have ABm := HA3.out.below HBm.out
          by_cases hltm : m < n
          · obtain ⟨lb', lo', e, htm⟩ := ABm.times m hltm
            injection e with e
            injection e with e1 e2 _
            subst e1 e2
            obtain ⟨_, _, e, hti⟩ := ABm.times i hlt
            injection e with e
            injection e with e1 e2 _
            subst e1 e2
            have hbm := HG.out m hltm
            have PM := PER (T m) wr hbm.1 hbm.2
            obtain ⟨pm, hpm⟩ : ∃ p, DateMath.per r (T m) = p := ⟨_, rfl⟩
            obtain ⟨tm, htmE⟩ : ∃ t, T (m : Int) = t := ⟨_, rfl⟩
            rw [hpm] at PM
            rw [htmE] at PM htm
            rw [HTI.out] at hti
            have HPM := Lib.hid hpm
            have HTM := Lib.hid htmE
            clear hpm htmE hbm ABm
            unfold WeekPost at PM
            have km : (0 : Int) ≤ (m : Int) := by omega
            have bm : (m : Int) < (n : Int) := by omega
            have ki : (0 : Int) ≤ (i : Int) := by omega
            have bi : (i : Int) < (n : Int) := by omega
            go_wp2_with fail
            refine PM.mono ?_
            rintro e w5 ⟨rfl, hb5⟩
            have HB5 := Lib.hid (HBm.out.trans (hb5.mono HBm.out.size))
            have HB6 := Lib.hid (fun q => HB5.out.trans ((Touch.refl (fun _ => False) w5).drewN q |>.below (B := w3.heap.size) (fun _ h => h.elim) HB5.out.size))
            have htm := (Keeps.below hb5) _ _ htm
            have hti := (Keeps.below hb5) _ _ hti
            clear PM hb5
            by_cases c1 : pi.1 = pm.1
            · have f1 : (pi.1 == pm.1) = true := by simpa using c1
              by_cases c2 : pi.2 = pm.2
              · have f2 : (pi.2 == pm.2) = true := by simpa using c2
                have HE := Lib.hid (show DateMath.per r (T m) = DateMath.per r (T i) by rw [HPM.out, HPI.out]; exact (Prod.ext c1 c2).symm)
                by_cases c3 : ti < tm
                · have HYES := Lib.hid (And.intro HE.out (show Bef T m i by left; rw [HTI.out, HTM.out]; exact c3))
                  clear c1 c2
                  go_wp2_with fail
                  go_quiet (fail)
                  have HB7 := Lib.hid (HB6.out nq)
                  generalize w5.drewN nq = w6 at *
                  clear htm hti
                  go_wp2
                  go_roundw
                  case rel =>
                    refine ⟨m + 1, false, by omega, by go_num, rfl, ⟨fun h => absurd h (by decide), fun h => ?_⟩, HB7.out⟩
                    exact absurd HYES.out.2 (h m (by omega) HYES.out.1)
                  case measure => simp [intOf]; omega
                · by_cases c4 : tm = ti
                  · have f4 : (tm == ti) = true := by simpa using c4
                    by_cases c5 : i < m
                    · have HYES := Lib.hid (And.intro HE.out (show Bef T m i by right; rw [HTI.out, HTM.out]; omega))
                      clear c1 c2 c4
                      go_wp2_with fail
                      go_quiet (fail)
                      have HB7 := Lib.hid (HB6.out nq)
                      generalize w5.drewN nq = w6 at *
                      clear htm hti
                      go_wp2
                      go_roundw
                      case rel =>
                        refine ⟨m + 1, false, by omega, by go_num, rfl, ⟨fun h => absurd h (by decide), fun h => ?_⟩, HB7.out⟩
                        exact absurd HYES.out.2 (h m (by omega) HYES.out.1)
                      case measure => simp [intOf]; omega
                    · have HNO := Lib.hid (show DateMath.per r (T m) = DateMath.per r (T i) → ¬ Bef T m i from fun _ h => by unfold Bef at h; rw [HTI.out, HTM.out] at h; omega)
                      clear c1 c2 c4
                      go_wp2_with fail
                      go_quiet (fail)
                      have HB7 := Lib.hid (HB6.out nq)
                      generalize w5.drewN nq = w6 at *
                      clear htm hti
                      go_wp2
                      go_roundw
                      case rel =>
                        refine ⟨m + 1, b, by omega, by go_num, rfl, ?_, HB7.out⟩
                        rw [HI.out]
                        constructor
                        · intro h j hj hp hB
                          by_cases e : j = m
                          · subst e
                            have := HNO.out hp
                            exact this hB
                          · exact h j (by omega) hp hB
                        · intro h j hj
                          exact h j (by omega)
                      case measure => simp [intOf]; omega
                  · have f4 : (tm == ti) = false := by simpa using c4
                    have HNO := Lib.hid (show DateMath.per r (T m) = DateMath.per r (T i) → ¬ Bef T m i from fun _ h => by unfold Bef at h; rw [HTI.out, HTM.out] at h; omega)
                    clear c1 c2
                    go_wp2_with fail
                    go_quiet (fail)
                    have HB7 := Lib.hid (HB6.out nq)
                    generalize w5.drewN nq = w6 at *
                    clear htm hti
                    go_wp2
                    go_roundw
                    case rel =>
                      refine ⟨m + 1, b, by omega, by go_num, rfl, ?_, HB7.out⟩
                      rw [HI.out]
                      constructor
                      · intro h j hj hp hB
                        by_cases e : j = m
                        · subst e
                          have := HNO.out hp
                          exact this hB
                        · exact h j (by omega) hp hB
                      · intro h j hj
                        exact h j (by omega)
                    case measure => simp [intOf]; omega
              · have f2 : (pi.2 == pm.2) = false := by simpa using c2
                have HNO := Lib.hid (show DateMath.per r (T m) = DateMath.per r (T i) → ¬ Bef T m i from fun h _ => c2 (by rw [← HPM.out, ← HPI.out, h]))
                clear c1
                go_wp2_with fail
                go_quiet (fail)
                have HB7 := Lib.hid (HB6.out nq)
                generalize w5.drewN nq = w6 at *
                clear htm hti
                go_wp2
                go_roundw
                case rel =>
                  refine ⟨m + 1, b, by omega, by go_num, rfl, ?_, HB7.out⟩
                  rw [HI.out]
                  constructor
                  · intro h j hj hp hB
                    by_cases e : j = m
                    · subst e
                      have := HNO.out hp
                      exact this hB
                    · exact h j (by omega) hp hB
                  · intro h j hj
                    exact h j (by omega)
                case measure => simp [intOf]; omega
            · have f1 : (pi.1 == pm.1) = false := by simpa using c1
              have HNO := Lib.hid (show DateMath.per r (T m) = DateMath.per r (T i) → ¬ Bef T m i from fun h _ => c1 (by rw [← HPM.out, ← HPI.out, h]))
              go_wp2_with fail
              go_quiet (fail)
              have HB7 := Lib.hid (HB6.out nq)
              generalize w5.drewN nq = w6 at *
              clear htm hti
              go_wp2
              go_roundw
              case rel =>
                refine ⟨m + 1, b, by omega, by go_num, rfl, ?_, HB7.out⟩
                rw [HI.out]
                constructor
                · intro h j hj hp hB
                  by_cases e : j = m
                  · subst e
                    have := HNO.out hp
                    exact this hB
                  · exact h j (by omega) hp hB
                · intro h j hj
                  exact h j (by omega)
              case measure => simp [intOf]; omega
          · have hin : m = n := by omega
            have hb : b = Fin.contains (i : Int) := by
              rw [Bool.eq_iff_iff, HI.out, List.contains_iff_mem, HEK.out, hin]
              constructor
              · intro h
                refine ⟨by omega, fun y y0 y1 hp hB => ?_⟩
                obtain ⟨j, rfl⟩ : ∃ j : Nat, y = j := ⟨y.toNat, by omega⟩
                exact h j (by omega) hp hB
              · rintro ⟨_, h⟩ j hj hp hB
                exact h j (by omega) (by omega) hp hB
            have CA := chosen_at Fin hlt
            rw [HAT.out] at CA
            have HCS := chosen_succ Fin i
            rw [← hb] at CA HCS
            have HCS := Lib.hid HCS
            clear hin hb ABm
            have hatl : at0 ≤ Ln := by
              obtain ⟨t, ht, _⟩ := chosen_split Fin (show i ≤ n by omega)
              have := congrArg List.length ht
              rw [List.length_append, HLn.out, HAT.out] at this
              omega
            cases b
            · have CA := CA.2 rfl
              by_cases hal : at0 < Ln
              · obtain ⟨x, hx⟩ : ∃ x, (chosen n Fin)[at0]? = some x := ⟨_, List.getElem?_eq_getElem (by rw [HLn.out]; exact hal)⟩
                have hne := CA x hx
                obtain ⟨g, cp, e, hg1, hg2, hcell⟩ := own_cell HO.out (i := at0) (by rw [HLn.out]; exact hal)
                rw [List.getElem?_eq_getElem (by rw [HLn.out]; exact hal)] at hx
                injection hx with hx
                rw [hx] at hcell
                injection e with e1 e2 e3
                subst e1 e3
                have hcell := (Keeps.below HBm.out) _ _ hcell
                have f1 : (x == (i : Int)) = false := by simpa using hne
                have k1 : (0 : Int) ≤ (at0 : Int) := by omega
                have k2 : (at0 : Int) < (Ln : Int) := by omega
                clear hx CA hne
                go_wp2
                go_roundw
                case rel => exact ⟨i + 1, by omega, by go_num, by rw [HCS.out]; simp [HAT.out], HBm.out⟩
                case measure => simp [intOf]; omega
              · clear CA
                go_wp2
                go_roundw
                case rel => exact ⟨i + 1, by omega, by go_num, by rw [HCS.out]; simp [HAT.out], HBm.out⟩
                case measure => simp [intOf]; omega
            · have hx := CA.1 rfl
              have hal : at0 < Ln := by
                have := (List.getElem?_eq_some_iff.1 hx).1
                rw [HLn.out] at this
                exact this
              obtain ⟨g, cp, e, hg1, hg2, hcell⟩ := own_cell HO.out (i := at0) (by rw [HLn.out]; exact hal)
              rw [List.getElem?_eq_getElem (by rw [HLn.out]; exact hal)] at hx
              injection hx with hx
              rw [hx] at hcell
              injection e with e1 e2 e3
              subst e1 e3
              have hcell := (Keeps.below HBm.out) _ _ hcell
              have f1 : ((i : Int) == (i : Int)) = true := by simp
              have k1 : (0 : Int) ≤ (at0 : Int) := by omega
              have k2 : (at0 : Int) < (Ln : Int) := by omega
              clear hx CA
              go_wp2
              go_roundw
              case rel => exact ⟨i + 1, by omega, by go_num, by rw [HCS.out]; simp [HAT.out], HBm.out⟩
              case measure => simp [intOf]; omega
      · have hin : i = n := by omega
        have hae : at0 = Ln := by rw [← HAT.out, ← HLn.out, hin]
        have f1 : ((at0 : Int) == (Ln : Int)) = true := by rw [hae]; simp
        have LVr := LV wr
        clear hin hae
        go_wp2_with fail
        refine LVr.mono ?_
        rintro e w' ⟨rfl, rfl⟩
        go_wp2
        go_ret
        exact ⟨rfl, HB3.out.trans (HB.out.mono HB3.out.size)⟩
end Go.Proofs.Ytogoiikgiohlhaa
