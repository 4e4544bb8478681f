/- The law's walk: PruneBounds. -/
import Derived.Test.YtogoiikgiohlhaaKept
namespace Go.Proofs.Ytogoiikgiohlhaa
open Go Go.RowKit Ch Sm

theorem at_mkslice (t : TypeId) {P : Program} {ops : Array Oper} {Q : Exit → Act → World → Prop} {rest : List Oper} {d : Option Tmp} {x y : Operand} {ty : TypeId} {pos : String} {after : Array Edge} {g : Option (Nat × Bool)} {a : Act} {w : World}
    (h : wpList P ops Q ({ dst := d, op := .makeSlice t x y, type := ty, pos, after, guard := g } :: rest) a w) : wpList P ops Q ({ dst := d, op := .makeSlice t x y, type := ty, pos, after, guard := g } :: rest) a w := h
def MarkRel (w4 : World) (kb n : Nat) (L : List Int) (x : Value) (wr : World) : Prop :=
  ∃ i : Nat, i ≤ L.length ∧ x = .int .i64 i ∧ Kp wr kb n (L.take i) ∧ Touch (fun b => b = kb) w4 wr
def OutRel (w5 : World) (n : Nat) (y : Value) (wr : World) : Prop := ∃ i : Nat, i ≤ n ∧ y = .int .i64 i ∧ Below w5.heap.size w5 wr
def CountRel (w5 : World) (T : Int → Int) (n i : Nat) (lt x : Value) (wr : World) : Prop :=
  ∃ m : Nat, m ≤ n ∧ x = .int .i64 m ∧ lt = .int .i64 (later T m i) ∧ Below w5.heap.size w5 wr
theorem later_succ (T : Int → Int) (m : Nat) (x : Int) : later T (m + 1) x = later T m x + (if Bef T m x then 1 else 0) := by
  unfold later
  rw [List.range_succ, List.map_append, List.countP_append]
  congr 1
  simp [List.countP_cons]
theorem later_le (T : Int → Int) (m : Nat) (x : Int) : later T m x ≤ m := by
  unfold later
  have := List.countP_le_length (l := (List.range m).map fun i : Nat => (i : Int)) (p := fun y => decide (Bef T y x))
  rw [List.length_map, List.length_range] at this
  exact this
set_option maxRecDepth 40000 in
set_option maxHeartbeats 16000000 in
theorem pruneBounds_walk (a : Option Addr) (cap n0 : Nat) (R : Nat → List Value) (T : Int → Int) (k : Nat → Int) (w : World) (hA : Abs w a cap n0 R T) :
    Calls Try.prog 7 #[.slice a n0 cap, keepV k] w fun e w' => e = .returned (.bool true) ∧ Below w.heap.size w w' := by
  obtain ⟨n, hn⟩ : ∃ n, min n0 40 = n := ⟨_, rfl⟩
  have h1 := heap_alloc_new w (.cells (keepC k) 36)
  have b1 := (Below.refl w.heap.size w).alloc (Nat.le_refl _) (.cells (keepC k) 36)
  have FW := few25_any a cap n0 (w.alloc (.cells (keepC k) 36)) (hA.below b1)
  rw [hn] at FW
  have AB := (hA.below b1).cut (m := n) (by omega)
  have hn40 : n ≤ 40 := by omega
  have hfit := AB.fits
  have hroom := AB.room
  have hfit0 := hA.fits
  have CK := ckof_of_heap h1
  obtain ⟨W1, hW1⟩ : ∃ W, w.alloc (.cells (keepC k) 36) = W := ⟨_, rfl⟩
  rw [hW1] at h1 b1 FW AB CK
  have CH := choose_any a cap n k W1 AB hn40
  have LV := lives_any
  have HAB := Lib.hid AB
  have HB1 := Lib.hid b1
  have HCK := Lib.hid CK
  have HS1 := Lib.hid (show W1.heap.size = w.heap.size + 1 by rw [← hW1]; simp)
  have hiK : (Try.prog.info? 36).map (·.size) = some (#[.int .i64 (k 0), .int .i64 (k 1), .int .i64 (k 2), .int .i64 (k 3), .int .i64 (k 4), .int .i64 (k 5)] : Array Value).size := by kernel_rfl
  unfold keepC at h1 hW1
  clear hn hA AB b1 CK
  go_enter Try.func7, Try.ntmps7
  go_wp2_with fail
  refine FW.mono ?_
  rintro e w' ⟨rfl, rfl⟩
  clear FW
  go_wp2_with (with_reducible refine at_load 36 ?_; go_must (refine wpList_load_row_g rfl 36 _ rfl w.heap.size rfl _ _ _ _ h1 Try.underlying36 rfl hiK ?_))
  refine CH.mono ?_
  clear CH hW1
  rintro e w3 (⟨_, rfl, hb3⟩ | ⟨hgood, v, L, rfl, hL, ho, hb3⟩)
  · have HB3 := Lib.hid (HB1.out.trans (hb3.mono HB1.out.size))
    clear hb3
    go_wp2_with fail
    refine (LV _).mono ?_
    rintro e w' ⟨rfl, rfl⟩
    go_wp2
    go_ret
    exact ⟨rfl, HB3.out⟩
  · have HB3 := Lib.hid (HB1.out.trans (hb3.mono HB1.out.size))
    have HA3 := Lib.hid (HAB.out.below hb3)
    have HCK3 := Lib.hid (show CKof k w.heap.size w3 from fun r m hr hm => (Keeps.below hb3) _ _ (HCK.out r m hr hm))
    have hb3s := hb3.size
    have HLL := Lib.hid hL
    have CL := chosen_len (K := T) (perP T) (cntK k) n
    have LK := fun x h0 h1 hl => later_kept (K := T) (perP T) (cntK k) n (x := x) h0 h1 hl
    have hL2 : L = chosen n (kept (perP T) (cntK k) n T) := hL
    rw [← hL2] at CL
    obtain ⟨av, cv, rfl⟩ := own_slice ho
    have HO := Lib.hid ho
    have HR1 := hgood.1
    obtain ⟨m0, hm0⟩ : ∃ m : Nat, k 0 = m := ⟨(k 0).toNat, by have := HR1 0 (by omega); omega⟩
    obtain ⟨m1, hm1⟩ : ∃ m : Nat, k 1 = m := ⟨(k 1).toNat, by have := HR1 1 (by omega); omega⟩
    obtain ⟨m2, hm2⟩ : ∃ m : Nat, k 2 = m := ⟨(k 2).toNat, by have := HR1 2 (by omega); omega⟩
    obtain ⟨m3, hm3⟩ : ∃ m : Nat, k 3 = m := ⟨(k 3).toNat, by have := HR1 3 (by omega); omega⟩
    obtain ⟨m4, hm4⟩ : ∃ m : Nat, k 4 = m := ⟨(k 4).toNat, by have := HR1 4 (by omega); omega⟩
    obtain ⟨m5, hm5⟩ : ∃ m : Nat, k 5 = m := ⟨(k 5).toNat, by have := HR1 5 (by omega); omega⟩
    have u0 : m0 ≤ 1000 := by have := HR1 0 (by omega); omega
    have u1 : m1 ≤ 1000 := by have := HR1 1 (by omega); omega
    have u2 : m2 ≤ 1000 := by have := HR1 2 (by omega); omega
    have u3 : m3 ≤ 1000 := by have := HR1 3 (by omega); omega
    have u4 : m4 ≤ 1000 := by have := HR1 4 (by omega); omega
    have u5 : m5 ≤ 1000 := by have := HR1 5 (by omega); omega
    have c0 := HCK3.out 0 m0 (by omega) hm0
    have c1 := HCK3.out 1 m1 (by omega) hm1
    have c2 := HCK3.out 2 m2 (by omega) hm2
    have c3 := HCK3.out 3 m3 (by omega) hm3
    have c4 := HCK3.out 4 m4 (by omega) hm4
    have c5 := HCK3.out 5 m5 (by omega) hm5
    have hsum : sumTo (cntK k) 6 = m0 + m1 + m2 + m3 + m4 + m5 := by
      show 0 + (k 0).toNat + (k 1).toNat + (k 2).toNat + (k 3).toNat + (k 4).toNat + (k 5).toNat = _
      omega
    have hc0 : cntK k 0 = m0 := by show (k 0).toNat = _; omega
    rw [hsum, hc0] at CL
    obtain ⟨Ln, hLn⟩ : ∃ m, L.length = m := ⟨_, rfl⟩
    rw [hLn] at CL ⊢
    obtain ⟨l1, l2, l3⟩ := CL
    obtain ⟨s1, hs1⟩ : ∃ s : Nat, (m0 : Int) + (m1 : Int) = s := ⟨m0 + m1, by omega⟩
    obtain ⟨s2, hs2⟩ : ∃ s : Nat, (s1 : Int) + (m2 : Int) = s := ⟨s1 + m2, by omega⟩
    obtain ⟨s3, hs3⟩ : ∃ s : Nat, (s2 : Int) + (m3 : Int) = s := ⟨s2 + m3, by omega⟩
    obtain ⟨s4, hs4⟩ : ∃ s : Nat, (s3 : Int) + (m4 : Int) = s := ⟨s3 + m4, by omega⟩
    obtain ⟨s5, hs5⟩ : ∃ s : Nat, (s4 : Int) + (m5 : Int) = s := ⟨s4 + m5, by omega⟩
    have x1 : ¬ s5 < Ln := by omega
    have x2 : ¬ n < Ln := by omega
    obtain ⟨mn, hmn⟩ : ∃ s : Nat, min m0 n = s := ⟨_, rfl⟩
    rw [hmn] at l3
    have x3 : ¬ Ln < mn := by omega
    have hmnI : min (m0 : Int) (n : Int) = mn := by omega
    have hif : (if n < m0 then (n : Int) else (m0 : Int)) = (mn : Int) := by split <;> omega
    have HLn := Lib.hid hLn
    have HC0 := Lib.hid hc0
    have HM0 := Lib.hid hm0
    have HLK := Lib.hid LK
    clear hLn hc0 LK hL hL2 hsum hm0 hm1 hm2 hm3 hm4 hm5 ho hgood HR1 h1 hb3
    go_upto_region 7 with fail
    all_goals
      clear hs1 hs2 hs3 hs4 hs5 hmn hmnI hif x1 x2 x3 c0 c1 c2 c3 c4 c5
      obtain ⟨kb, hkb⟩ : ∃ b, w3.heap.size = b := ⟨_, rfl⟩
      go_wp2_with (with_reducible refine at_mkslice 38 ?_; go_must (refine wpList_make_ints w3 rfl _ _ rfl n rfl rfl (by omega) ?_); intro w4 hk4 hb4 hs4; rw [hkb] at hk4 hs4; rw [hkb])
      have HB4 := Lib.hid (HB3.out.trans (hb4.mono HB3.out.size))
      have HA4 := Lib.hid (HA3.out.below hb4)
      have HCK4 := Lib.hid (show CKof k w.heap.size w4 from fun r m hr hm => (Keeps.below hb4) _ _ (HCK3.out r m hr hm))
      have HK4 := Lib.hid hk4
      have HKB := Lib.hid (show kb < w4.heap.size ∧ w.heap.size < kb ∧ W1.heap.size ≤ kb by have := HS1.out; omega)
      have HKe := Lib.hid hkb
      have HLr := Lib.hid (show ∀ x, x ∈ L → 0 ≤ x ∧ x < n from fun x hx => by rw [HLL.out] at hx; exact (mem_chosen.1 hx).1)
      have HOC := Lib.hid (fun (i : Nat) (hi : i < L.length) => by
        obtain ⟨g, cp, e, g1, g2, gc⟩ := own_cell HO.out hi
        rw [HLn.out] at e
        exact (⟨g, cp, e, g2, gc⟩ : ∃ g cp, (.slice av Ln cv : Value) = .slice (some ⟨g, 0, none⟩) Ln cp ∧ g < w3.heap.size ∧ w3.cell? ⟨g, i, none⟩ = some (.int .i64 L[i])))
      have HKW := Lib.hid (Keeps.below hb4)
      clear hk4 hb4 hs4 hkb
      go_loopw [8] (fun x wr => MarkRel w4 kb n L x wr) (fun x _ => Ln - (intOf x).toNat)
      case atStart => exact ⟨0, Nat.zero_le _, rfl, by simpa using HK4.out, Touch.refl _ _⟩
      case round =>
        obtain ⟨i, hi, rfl, hK, hT⟩ := hrel
        have HKr := Lib.hid hK
        have HTr := Lib.hid hT
        have HKL := Lib.hid (show kb < wr.heap.size by have := hT.size; have := HKB.out.1; omega)
        rw [HLn.out] at hi
        clear hK hT
        by_cases hlt : i < Ln
        · have hiL : i < L.length := by rw [HLn.out]; exact hlt
          obtain ⟨g, cp, e, hg, hc⟩ := HOC.out i hiL
          have hc0 := hc
          injection e with e1 e2 e3
          subst e1 e3
          have hgk : g ≠ kb := by have := HKe.out; omega
          have hc := HTr.out.cell (HKW.out _ _ hc) hgk
          have hr := HLr.out L[i] (List.getElem_mem hiL)
          obtain ⟨x, hx⟩ : ∃ x : Nat, L[i] = x := ⟨L[i].toNat, by omega⟩
          rw [hx] at hc hr
          have HX := Lib.hid hx
          have HIL := Lib.hid hiL
          have hxn : x < n := by omega
          have pi : (0 : Int) ≤ (i : Int) := by omega
          have bi : (i : Int) < (Ln : Int) := by omega
          have px : (0 : Int) ≤ (x : Int) := by omega
          have bx : (x : Int) < (n : Int) := by omega
          have nx : ¬ (x : Int) < 0 := by omega
          have mx : ¬ n ≤ x := by omega
          have y1 : decide ((x : Int) < 0) = false := decide_eq_false (by omega)
          have y2 : decide ((x : Int) ≥ (n : Int)) = false := decide_eq_false (by omega)
          have y3 : decide ((n : Int) ≤ (x : Int)) = false := decide_eq_false (by omega)
          have y4 : decide (n ≤ x) = false := decide_eq_false (by omega)
          by_cases i0 : i = 0
          · have i1 : decide (0 < i) = false := decide_eq_false (by omega)
            have i2 : decide ((i : Int) > 0) = false := decide_eq_false (by omega)
            have i3 : decide ((0 : Int) < (i : Int)) = false := decide_eq_false (by omega)
            have I0 := Lib.hid i0
            clear hx hr hc0 i0
            go_wp2_with fail
            go_quiet (fail)
            have hc6 : (wr.drewN nq).cell? ⟨g, i, none⟩ = some (.int .i64 x) := hc
            have K6 := HKr.out.touch (F := fun _ => False) ((Touch.refl _ wr).drewN nq) HKL.out id
            have T6 := Lib.hid (HTr.out.drewN nq)
            generalize wr.drewN nq = w6 at *
            have ck := K6.cell x hxn
            have fk := K6.froz x hxn
            have M6 := Lib.hid (K6.mark hxn)
            have T7 := Lib.hid (T6.out.trans (Touch.set (F := fun b => b = kb) w6 kb x (.int .i64 1) rfl))
            clear K6 hc
            go_wp2
            clear ck fk hc6
            go_roundw
            case rel =>
              refine ⟨i + 1, by rw [HLn.out]; omega, by go_num, ?_, T7.out⟩
              rw [List.take_succ_eq_append_getElem HIL.out, HX.out]
              exact M6.out
            case measure => simp [intOf]; omega
          · obtain ⟨j, hj⟩ : ∃ j, i = j + 1 := ⟨i - 1, by omega⟩
            have hjL : j < L.length := by omega
            obtain ⟨g', cp', e, hg', hcj⟩ := HOC.out j hjL
            injection e with e1 e2 e3
            injection e1 with e1
            injection e1 with e1
            subst e1
            clear e3
            have hcj := HTr.out.cell (HKW.out _ _ hcj) hgk
            have hrj := HLr.out L[j] (List.getElem_mem hjL)
            obtain ⟨y, hy⟩ : ∃ y : Nat, L[j] = y := ⟨L[j].toNat, by omega⟩
            rw [hy] at hcj
            have hri : L.Pairwise (· < ·) := by rw [HLL.out]; exact chosen_rising _ _
            have hyx := List.pairwise_iff_getElem.1 hri j i hjL hiL (by omega)
            rw [hx, hy] at hyx
            have nyx : ¬ (x : Int) ≤ (y : Int) := by omega
            have nyx2 : ¬ x ≤ y := by omega
            have i1 : decide (0 < i) = true := decide_eq_true (by omega)
            have i2 : decide ((i : Int) > 0) = true := decide_eq_true (by omega)
            have i3 : decide ((0 : Int) < (i : Int)) = true := decide_eq_true (by omega)
            have z1 : decide ((x : Int) ≤ (y : Int)) = false := decide_eq_false (by omega)
            have z2 : decide (x ≤ y) = false := decide_eq_false (by omega)
            have ei : (i : Int) - 1 = (j : Int) := by omega
            have pj : (0 : Int) ≤ (j : Int) := by omega
            have bj : (j : Int) < (Ln : Int) := by omega
            clear hx hr hc0 i0 hj hy hri hyx hrj e2
            go_wp2_with fail
            go_quiet (fail)
            have hc6 : (wr.drewN nq).cell? ⟨g, i, none⟩ = some (.int .i64 x) := hc
            have K6 := HKr.out.touch (F := fun _ => False) ((Touch.refl _ wr).drewN nq) HKL.out id
            have T6 := Lib.hid (HTr.out.drewN nq)
            generalize wr.drewN nq = w6 at *
            have ck := K6.cell x hxn
            have fk := K6.froz x hxn
            have M6 := Lib.hid (K6.mark hxn)
            have T7 := Lib.hid (T6.out.trans (Touch.set (F := fun b => b = kb) w6 kb x (.int .i64 1) rfl))
            clear K6 hc hcj
            go_wp2
            clear ck fk hc6 ei
            go_roundw
            case rel =>
              refine ⟨i + 1, by rw [HLn.out]; omega, by go_num, ?_, T7.out⟩
              rw [List.take_succ_eq_append_getElem HIL.out, HX.out]
              exact M6.out
            case measure => simp [intOf]; omega
        · have hin : i = Ln := by omega
          obtain ⟨w5, rfl⟩ : ∃ w5 : World, w5 = wr := ⟨_, rfl⟩
          have HK5 := Lib.hid (show Kp w5 kb n L by have := HKr.out; rw [hin, ← HLn.out, List.take_length] at this; exact this)
          have HB5 := Lib.hid (HB4.out.trans (HTr.out.below (B := w.heap.size) (fun q e => by have e2 : q = kb := e; have := HKB.out; omega) (by have := HKB.out; omega)))
          have HA5 := Lib.hid (HA4.out.touch HTr.out (fun ad hp e => by
            obtain ⟨b, o, e2, hb2, _⟩ := HAB.out.rows.resolve_left (by omega)
            rw [e2] at e; injection e with e; subst e
            show b ≠ kb
            have := HKB.out; omega))
          have HC5 := Lib.hid ((HCK4.out.touch HTr.out (by show w.heap.size ≠ kb; have := HKB.out; omega)) 0 m0 (by omega) HM0.out)
          clear hin hi
          go_wp2
          go_loopw [9] (fun y wr => OutRel w5 n y wr) (fun y _ => n - (intOf y).toNat)
          case atStart => exact ⟨0, Nat.zero_le _, rfl, Below.refl _ _⟩
          case round =>
            obtain ⟨i, hi, rfl, hb⟩ := hrel
            have HB := Lib.hid hb
            clear hb
            by_cases hlt : i < n
            · obtain ⟨wo, rfl⟩ : ∃ wo : World, wo = wr := ⟨_, rfl⟩
              go_wp2
              go_loopw [10, 11] (fun lt x wr => CountRel w5 T n i lt x wr) (fun _ x _ => n - (intOf x).toNat)
              case atStart => exact ⟨0, Nat.zero_le _, rfl, rfl, HB.out⟩
              case round =>
                obtain ⟨m, hm, rfl, rfl, hb⟩ := hrel
                have HBm := Lib.hid hb
                clear hb
                have ABm := HA5.out.below HBm.out
                have hle := later_le T m i
                obtain ⟨lc, hlc⟩ : ∃ c, later T m i = c := ⟨_, rfl⟩
                rw [hlc] at hle
                simp only [hlc]
                have HLC := Lib.hid hlc
                clear hlc
                by_cases hltm : m < n
                · obtain ⟨lb, lo, rfl, htm⟩ := ABm.times m hltm
                  obtain ⟨_, _, e, hti⟩ := ABm.times i hlt
                  injection e with e
                  injection e with e1 e2 _
                  subst e1 e2
                  have HLS := Lib.hid (later_succ T m i)
                  obtain ⟨ti, htiE⟩ : ∃ t, T (i : Int) = t := ⟨_, rfl⟩
                  obtain ⟨tm, htmE⟩ : ∃ t, T (m : Int) = t := ⟨_, rfl⟩
                  rw [htiE] at hti
                  rw [htmE] at htm
                  have HTI := Lib.hid htiE
                  have HTM := Lib.hid htmE
                  have km : (0 : Int) ≤ (m : Int) := by omega
                  have bm : (m : Int) < (n : Int) := by omega
                  have ki : (0 : Int) ≤ (i : Int) := by omega
                  have bi : (i : Int) < (n : Int) := by omega
                  clear htiE htmE ABm
                  by_cases c3 : ti < tm
                  · have HYES := Lib.hid (show Bef T m i by left; rw [HTI.out, HTM.out]; exact c3)
                    go_wp2_with fail
                    go_quiet (fail)
                    have HB6 := Lib.hid (HBm.out.trans ((Touch.refl (fun _ => False) wr).drewN nq |>.below (B := w5.heap.size) (fun _ h => h.elim) HBm.out.size))
                    generalize wr.drewN nq = w6 at *
                    clear htm hti
                    go_wp2
                    go_roundw
                    case rel => exact ⟨m + 1, by omega, by go_num, by rw [HLS.out, if_pos HYES.out, HLC.out]; go_num, HB6.out⟩
                    case measure => simp [intOf]; omega
                  · by_cases c4 : tm = ti
                    · have f4 : (tm == ti) = true := by simpa using c4
                      by_cases c5 : i < m
                      · have HYES := Lib.hid (show Bef T m i by right; rw [HTI.out, HTM.out]; omega)
                        clear c4
                        go_wp2_with fail
                        go_quiet (fail)
                        have HB6 := Lib.hid (HBm.out.trans ((Touch.refl (fun _ => False) wr).drewN nq |>.below (B := w5.heap.size) (fun _ h => h.elim) HBm.out.size))
                        generalize wr.drewN nq = w6 at *
                        clear htm hti
                        go_wp2
                        go_roundw
                        case rel => exact ⟨m + 1, by omega, by go_num, by rw [HLS.out, if_pos HYES.out, HLC.out]; go_num, HB6.out⟩
                        case measure => simp [intOf]; omega
                      · have HNO := Lib.hid (show ¬ Bef T m i from fun h => by unfold Bef at h; rw [HTI.out, HTM.out] at h; omega)
                        clear c4
                        go_wp2_with fail
                        go_quiet (fail)
                        have HB6 := Lib.hid (HBm.out.trans ((Touch.refl (fun _ => False) wr).drewN nq |>.below (B := w5.heap.size) (fun _ h => h.elim) HBm.out.size))
                        generalize wr.drewN nq = w6 at *
                        clear htm hti
                        go_wp2
                        go_roundw
                        case rel => exact ⟨m + 1, by omega, by go_num, by rw [HLS.out, if_neg HNO.out, HLC.out]; rfl, HB6.out⟩
                        case measure => simp [intOf]; omega
                    · have f4 : (tm == ti) = false := by simpa using c4
                      have HNO := Lib.hid (show ¬ Bef T m i from fun h => by unfold Bef at h; rw [HTI.out, HTM.out] at h; omega)
                      go_wp2_with fail
                      go_quiet (fail)
                      have HB6 := Lib.hid (HBm.out.trans ((Touch.refl (fun _ => False) wr).drewN nq |>.below (B := w5.heap.size) (fun _ h => h.elim) HBm.out.size))
                      generalize wr.drewN nq = w6 at *
                      clear htm hti
                      go_wp2
                      go_roundw
                      case rel => exact ⟨m + 1, by omega, by go_num, by rw [HLS.out, if_neg HNO.out, HLC.out]; rfl, HB6.out⟩
                      case measure => simp [intOf]; omega
                · have hin : m = n := by omega
                  have ck := (HBm.out.cell (p := ⟨kb, i, none⟩) (by have := HKB.out.1; have := HTr.out.size; show kb < w5.heap.size; omega)).trans (HK5.out.cell i hlt)
                  have hc5 := (HBm.out.cell (p := ⟨w.heap.size, 0, none⟩) (by have := HKB.out; have := HTr.out.size; show w.heap.size < w5.heap.size; omega)).trans HC5.out
                  have ki : (0 : Int) ≤ (i : Int) := by omega
                  have bi : (i : Int) < (n : Int) := by omega
                  by_cases hl : lc < m0
                  · have hcon : L.contains (i : Int) = true := by
                      rw [List.contains_iff_mem, HLL.out]
                      exact mem_chosen.2 ⟨by omega, HLK.out i (by omega) (by omega) (by rw [← hin, HLC.out, HC0.out]; exact hl)⟩
                    rw [hcon] at ck
                    have ck : wr.cell? ⟨kb, i, none⟩ = some (.int .i64 1) := ck
                    clear hin hcon ABm
                    go_wp2
                    go_roundw
                    case rel => exact ⟨i + 1, by omega, by go_num, HBm.out⟩
                    case measure => simp [intOf]; omega
                  · clear hin ck ABm
                    go_wp2
                    go_roundw
                    case rel => exact ⟨i + 1, by omega, by go_num, HBm.out⟩
                    case measure => simp [intOf]; omega
            · go_wp2_with fail
              refine (LV _).mono ?_
              rintro e w' ⟨rfl, rfl⟩
              go_wp2
              go_ret
              exact ⟨rfl, HB5.out.trans (HB.out.mono HB5.out.size)⟩
end Go.Proofs.Ytogoiikgiohlhaa
