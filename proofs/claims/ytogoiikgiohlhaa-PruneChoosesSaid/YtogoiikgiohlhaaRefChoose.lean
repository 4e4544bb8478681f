/- 'Choose' in the document's own answer. -/
import Derived.Test.YtogoiikgiohlhaaRefOrder
namespace Go.Proofs.Ytogoiikgiohlhaa
open Go Go.RowKit Ch Sm

def RulesRel (W2 : World) (k : Nat → Int) (x : Value) (wr : World) : Prop := ∃ j : Nat, j ≤ 6 ∧ x = .int .i64 j ∧ (∀ m : Nat, m < j → 0 ≤ k m ∧ k m ≤ 1000) ∧ Hid (W2 = wr)
def TimesRel (W2 : World) (T : Int → Int) (n : Nat) (x : Value) (wr : World) : Prop := ∃ i : Nat, i ≤ n ∧ x = .int .i64 i ∧ (∀ j : Nat, j < i → badT (T j) = false) ∧ Hid (W2 = wr)
def KeptRel (W3 : World) (k : Nat → Int) (T : Int → Int) (n : Nat) (v x : Value) (wr : World) : Prop :=
  ∃ r : Nat, r ≤ 6 ∧ x = .int .i64 r ∧ OwnI wr W3.heap.size v (rules (perP T) (cntK k) (order T n) r) ∧ Below W3.heap.size W3 wr
def ByRel2 (W3 : World) (T : Int → Int) (f : Nat → Int) (n r c : Nat) (Fin : List Int) (v y x : Value) (wr : World) : Prop :=
  ∃ (i m : Nat) (S : List Int), i ≤ n ∧ x = .int .i64 i ∧ y = .int .i64 m ∧ m ≤ c ∧ OwnI wr W3.heap.size v S ∧ by1 (r == 0) (perP T r) (prevOf f i) (restOf f n i) (c - m) S = Fin ∧ S.length ≤ r * 1000 + m ∧ Below W3.heap.size W3 wr
def OutRel2 (W4 : World) (n : Nat) (S : List Int) (v x : Value) (wr : World) : Prop := ∃ i : Nat, i ≤ n ∧ x = .int .i64 i ∧ OwnI wr W4.heap.size v (chosen i S) ∧ Below W4.heap.size W4 wr
def ordF (T : Int → Int) (n i : Nat) : Int := (order T n).getD i 0
theorem ordF_at (T : Int → Int) {n i : Nat} (h : i < n) : (order T n)[i]'(by rw [length_order]; exact h) = ordF T n i := by
  unfold ordF
  rw [List.getD_eq_getElem?_getD, List.getElem?_eq_getElem (by rw [length_order]; exact h)]; rfl
theorem ordF_list (T : Int → Int) (n : Nat) : (List.range n).map (ordF T n) = order T n := by
  refine List.ext_getElem (by simp [length_order]) fun i h1 h2 => ?_
  rw [List.getElem_map, List.getElem_range]
  exact (ordF_at T (by simpa using h1)).symm
theorem ordF_bd (T : Int → Int) {n i : Nat} (h : i < n) : 0 ≤ ordF T n i ∧ ordF T n i < n := by
  rw [← ordF_at T h]
  exact mem_order.1 (List.getElem_mem _)
theorem rules_le (T : Int → Int) (k : Nat → Int) (n r : Nat) (hk : ∀ j : Nat, j < 6 → 0 ≤ k j ∧ k j ≤ 1000) (hr : r ≤ 6) : (rules (perP T) (cntK k) (order T n) r).length ≤ r * 1000 := by
  refine Nat.le_trans (rules_len ..) ?_
  have core : ∀ r, r ≤ 6 → sumTo (cntK k) r ≤ r * 1000 := by
    intro r
    induction r with
    | zero => intro _; simp [sumTo]
    | succ r ih =>
      intro h
      have := ih (by omega)
      have h2 := hk r (by omega)
      show sumTo (cntK k) r + (k r).toNat ≤ _
      omega
  exact core r hr
set_option maxRecDepth 40000 in
set_option maxHeartbeats 4000000 in
theorem refChoose_any (a : Option Addr) (cap n : Nat) {R : Nat → List Value} {T : Int → Int} (k : Nat → Int) (w : World) (hr : Abs w a cap n R T) (hn : n ≤ 40) :
    Calls Try.prog 18 #[.slice a n cap, keepV k] w (ChoosePost w k n T) := by
  have hfit := hr.fits
  have hroom := hr.room
  have HR := Lib.hid hr
  have hb2 : Below w.heap.size w ((w.alloc (.cells (keepC k) 36)).alloc (.cells (keepC k) 3)) := ((Below.refl _ _).alloc (Nat.le_refl _) _).alloc (by simp) _
  have hc2 : ∀ m, m < 6 → ((w.alloc (.cells (keepC k) 36)).alloc (.cells (keepC k) 3)).cell? ⟨w.heap.size + 1, m, none⟩ = some (.int .i64 (k m)) := fun m hm => by
    have hn := heap_alloc_new (w.alloc (.cells (keepC k) 36)) (.cells (keepC k) 3)
    rw [World.size_alloc] at hn
    simp only [World.cell?, hn]
    exact keepC_at k m hm
  have hs2 : ((w.alloc (.cells (keepC k) 36)).alloc (.cells (keepC k) 3)).heap.size = w.heap.size + 2 := by simp
  unfold keepC at hb2 hc2 hs2
  clear hr
  go_enter Try.func18, Try.ntmps18
  go_wp2
  generalize (w.alloc (.cells #[.int .i64 (k 0), .int .i64 (k 1), .int .i64 (k 2), .int .i64 (k 3), .int .i64 (k 4), .int .i64 (k 5)] 36)).alloc (.cells #[.int .i64 (k 0), .int .i64 (k 1), .int .i64 (k 2), .int .i64 (k 3), .int .i64 (k 4), .int .i64 (k 5)] 3) = W2 at *
  have HB2 := Lib.hid hb2
  have HC2 := Lib.hid hc2
  have HS2 := Lib.hid hs2
  generalize hbr : w.heap.size + 1 = br at *
  have HBR := Lib.hid hbr
  clear hb2 hc2 hs2 hbr
  go_loopw [7] (fun x wr => RulesRel W2 k x wr) (fun x _ => 6 - (intOf x).toNat)
  case atStart => exact ⟨0, by omega, rfl, fun m hm => by omega, rfl⟩
  case round =>
    obtain ⟨j, hj, rfl, hgood, hw⟩ := hrel
    have HG := Lib.hid hgood
    clear hgood
    by_cases hlt : j < 6
    · have hcj : wr.cell? ⟨br, j, none⟩ = some (.int .i64 (k j)) := by rw [← hw.out]; exact HC2.out j hlt
      obtain ⟨v, hv⟩ : ∃ v, k j = v := ⟨_, rfl⟩
      rw [hv] at hcj
      have HV := Lib.hid hv
      clear hv
      have pj : (0 : Int) ≤ (j : Int) := by omega
      have bj : (j : Int) < 6 := by omega
      by_cases h0 : v < 0
      · go_wp2
        go_ret2
        exact .inl ⟨fun h => by have := (h.1 j hlt).1; have := HV.out; omega, rfl, by rw [← hw.out]; exact HB2.out⟩
      · by_cases h1 : 1000 < v
        · go_wp2
          go_ret2
          exact .inl ⟨fun h => by have := (h.1 j hlt).2; have := HV.out; omega, rfl, by rw [← hw.out]; exact HB2.out⟩
        · go_wp2
          go_roundw
          case rel =>
            refine ⟨j + 1, by omega, by go_num, fun m hm => ?_, hw⟩
            by_cases e : m = j
            · rw [e, HV.out]; omega
            · exact HG.out m (by omega)
          case measure => simp [intOf]; omega
    · obtain rfl : j = 6 := by omega
      go_wp2
      go_loopw [8] (fun x wr => TimesRel W2 T n x wr) (fun x _ => n - (intOf x).toNat)
      case atStart => exact ⟨0, Nat.zero_le _, rfl, fun j hj => by omega, hw⟩
      case round =>
        clear hw
        obtain ⟨i, hi, rfl, hno, hw⟩ := hrel
        have HN := Lib.hid hno
        clear hno
        by_cases hlt : i < n
        · obtain ⟨lb, lo, rfl, hti⟩ := (HR.out.below HB2.out).times i hlt
          have hti : wr.cell? ⟨lb, lo + i * 37 + 33, none⟩ = some (.int .i64 (T i)) := by rw [← hw.out]; exact hti
          obtain ⟨t, ht⟩ : ∃ t, T (i : Int) = t := ⟨_, rfl⟩
          rw [ht] at hti
          have HTI := Lib.hid ht
          have pi : (0 : Int) ≤ (i : Int) := by omega
          have bi : (i : Int) < (n : Int) := by omega
          clear ht
          by_cases h0 : t < -1099511627776
          · have HX := Lib.hid (show badT (T i) = true by rw [HTI.out]; simp [badT, h0])
            go_wp2
            go_ret2
            exact .inl ⟨fun h => by have := h.2 i hlt; rw [HX.out] at this; exact absurd this (by decide), rfl, by rw [← hw.out]; exact HB2.out⟩
          · by_cases h1 : 1099511627776 < t
            · have HX := Lib.hid (show badT (T i) = true by rw [HTI.out]; simp [badT, h1])
              go_wp2
              go_ret2
              exact .inl ⟨fun h => by have := h.2 i hlt; rw [HX.out] at this; exact absurd this (by decide), rfl, by rw [← hw.out]; exact HB2.out⟩
            · have HX := Lib.hid (show badT (T i) = false by rw [HTI.out]; simp [badT]; omega)
              go_wp2
              go_roundw
              case rel =>
                refine ⟨i + 1, by omega, by go_num, fun m hm => ?_, hw⟩
                by_cases e : m = i
                · rw [e]; exact HX.out
                · exact HN.out m (by omega)
              case measure => simp [intOf]; omega
        · have HRT := Lib.hid (show Rightly k n T from ⟨HG.out, fun j hj => HN.out j (by omega)⟩)
          have hwe := hw.out
          subst hwe
          clear hw hi
          have OR := refOrder_any a cap n W2 (HR.out.below HB2.out) hn
          go_wp2_with fail
          refine OR.mono ?_
          rintro e W3 ⟨ov, rfl, hov, hb3⟩
          have HOV := Lib.hid hov
          have HB3 := Lib.hid (HB2.out.trans (hb3.mono HB2.out.size))
          have HC3 := Lib.hid (show ∀ m, m < 6 → W3.cell? ⟨br, m, none⟩ = some (.int .i64 (k m)) from fun m hm => (Keeps.below hb3) _ _ (HC2.out m hm))
          have HA3 := Lib.hid ((HR.out.below HB2.out).below hb3)
          have HSZ := Lib.hid (show br < W3.heap.size by have := hb3.size; have := HS2.out; have := HBR.out; omega)
          obtain ⟨oa, oc, rfl⟩ := own_slice hov
          have hol := length_order (K := T) n
          rw [hol]
          have HOL := Lib.hid hol
          clear OR hov hb3 hol
          go_wp2
          go_loopw [10, 11] (fun v x wr => KeptRel W3 k T n v x wr) (fun _ x _ => 6 - (intOf x).toNat)
          case atStart => exact ⟨0, by omega, rfl, own_nil W3 _, Below.refl _ _⟩
          case round =>
            obtain ⟨v, rfl⟩ : ∃ v, v = u10 := ⟨_, rfl⟩
            obtain ⟨r, hr, rfl, ho, hb⟩ := hrel
            have HO := Lib.hid ho
            have HB := Lib.hid hb
            clear ho hb
            by_cases hlr : r < 6
            · have pr : (0 : Int) ≤ (r : Int) := by omega
              have brr : (r : Int) < 6 := by omega
              obtain ⟨c, hc⟩ : ∃ c : Nat, k r = c := ⟨(k r).toNat, by have := HRT.out.1 r hlr; omega⟩
              have hc1000 : c ≤ 1000 := by have := HRT.out.1 r hlr; omega
              have HCR := Lib.hid hc
              have hcn : cntK k r = c := by show (k r).toNat = c; omega
              obtain ⟨Fin, hFin⟩ : ∃ F, rules (perP T) (cntK k) (order T n) (r + 1) = F := ⟨_, rfl⟩
              have HFIN := Lib.hid hFin
              have H0 := Lib.hid (show by1 (r == 0) (perP T r) (prevOf (ordF T n) 0) (restOf (ordF T n) n 0) (c - 0) (rules (perP T) (cntK k) (order T n) r) = Fin by
                rw [← hFin, rules, hcn]
                unfold restOf prevOf
                rw [if_pos rfl, List.drop_zero, ordF_list]; rfl)
              have HRL := Lib.hid (rules_le T k n r HRT.out.1 (by omega))
              clear hc hcn hFin
              obtain ⟨wo, rfl⟩ : ∃ wo : World, wo = wr := ⟨_, rfl⟩
              go_wp2
              go_loopw [10, 12, 13] (fun v y x wr => ByRel2 W3 T (ordF T n) n r c Fin v y x wr) (fun _ _ x _ => n - (intOf x).toNat)
              case atStart => exact ⟨0, 0, _, Nat.zero_le _, rfl, rfl, Nat.zero_le _, HO.out, H0.out, by have := HRL.out; omega, HB.out⟩
              case round =>
                clear HO H0
                obtain ⟨v, rfl⟩ : ∃ v, v = u10 := ⟨_, rfl⟩
                obtain ⟨i, m, S, hi, rfl, rfl, hm, ho, hF, hsl, hb⟩ := hrel
                have HO := Lib.hid ho
                have HF := Lib.hid hF
                have HBi := Lib.hid hb
                clear ho hF hb
                have hcr := (HBi.out.cell (p := ⟨br, r, none⟩) HSZ.out).trans (HC3.out r hlr)
                rw [HCR.out] at hcr
                by_cases hlt : i < n
                · by_cases hmc : m < c
                  · have hfb := ordF_bd T hlt
                    obtain ⟨j, hj⟩ : ∃ j : Nat, ordF T n i = j := ⟨(ordF T n i).toNat, by omega⟩
                    obtain ⟨og, ocp, e, _, hgl, hco⟩ := own_cell HOV.out (i := i) (by rw [HOL.out]; exact hlt)
                    rw [ordF_at T hlt, hj] at hco
                    have hco := (HBi.out.cell (p := ⟨og, i, none⟩) hgl).trans hco
                    injection e with e1 e2 e3
                    subst e1 e3
                    have HJ := Lib.hid hj
                    rw [hj] at hfb
                    have hjn : j < n := by omega
                    have hm0 : c - m ≠ 0 := by omega
                    have HREST := Lib.hid (restOf_cons (ordF T n) hlt)
                    have pi : (0 : Int) ≤ (i : Int) := by omega
                    have bi : (i : Int) < (n : Int) := by omega
                    clear hj e2 hfb
                    by_cases hi0 : i = 0
                    · have i1 : ((i : Int) == 0) = true := by simp; omega
                      have HFR := Lib.hid (show fresh (r == 0) (perP T r) (prevOf (ordF T n) i) (ordF T n i) = true by rw [hi0]; rfl)
                      clear hi0
                      have IN := refIn_any wr HO.out (by omega) (j : Int)
                      cases hc : S.contains (j : Int)
                      · rw [hc] at IN
                        have NX := Lib.hid (show by1 (r == 0) (perP T r) (prevOf (ordF T n) (i + 1)) (restOf (ordF T n) n (i + 1)) (c - (m + 1)) (S ++ [(j : Int)]) = Fin by
                          rw [← HF.out, HREST.out, by1_take hm0 HFR.out (by rw [HJ.out]; exact hc), prevOf_succ, HJ.out, show c - (m + 1) = c - m - 1 by omega])
                        go_wp2_with fail
                        refine IN.mono ?_
                        rintro e w' ⟨rfl, rfl⟩
                        clear IN hc
                        try clear i1
                        try clear r1
                        obtain ⟨av7, cv7, rfl⟩ : ∃ av cv, v = .slice av S.length cv := own_slice HO.out
                        have HA7 := Lib.hid (HO.out.alloc (.cells #[.int .i64 (j : Int)] 3))
                        have g7 : (wr.alloc (.cells #[.int .i64 (j : Int)] 3)).cell? ⟨wr.heap.size, 0, none⟩ = some (.int .i64 (j : Int)) := by simp only [World.cell?, heap_alloc_new]; rfl
                        have hs7 := HBi.out.size
                        go_wp2_with (at_builtin; go_must (refine wpList_append_elem ints_elem rfl _ _ rfl W3.heap.size (.slice av7 S.length cv7) S.length (S.map fun x => Value.int .i64 x) rfl HA7.out ⟨wr.heap.size, 0, none⟩ 1 (.int .i64 (j : Int)) rfl g7 rfl (by omega) (by omega) (by simp; omega) ?_); intro v7 W7 ho7 hg7 _)
                        have HO7 := Lib.hid (own_snoc ho7)
                        have HB7 := Lib.hid (grown_below HBi.out (by first | exact Nat.le_refl _ | omega) _ HA7.out hg7)
                        clear ho7 hg7 g7 hs7
                        go_wp2
                        go_roundw
                        case rel => exact ⟨i + 1, m + 1, S ++ [(j : Int)], by omega, by go_num, by go_num, by omega, HO7.out, NX.out, by simp; omega, HB7.out⟩
                        case measure => simp [intOf]; omega
                      · rw [hc] at IN
                        have NX := Lib.hid (show by1 (r == 0) (perP T r) (prevOf (ordF T n) (i + 1)) (restOf (ordF T n) n (i + 1)) (c - m) S = Fin by
                          rw [← HF.out, HREST.out, by1_in hm0 (by rw [HJ.out]; exact hc), prevOf_succ])
                        obtain ⟨av8, cv8, rfl⟩ := own_slice HO.out
                        go_wp2_with fail
                        refine IN.mono ?_
                        rintro e w' ⟨rfl, rfl⟩
                        clear IN hc
                        try clear i1
                        try clear r1
                        go_wp2
                        go_roundw
                        case rel => exact ⟨i + 1, m, S, by omega, by go_num, rfl, hm, HO.out, NX.out, hsl, HBi.out⟩
                        case measure => simp [intOf]; omega
                    · have i1 : ((i : Int) == 0) = false := by simp; omega
                      by_cases hr0 : r = 0
                      · have r1 : ((r : Int) == 0) = true := by simp; omega
                        have HFR := Lib.hid (show fresh (r == 0) (perP T r) (prevOf (ordF T n) i) (ordF T n i) = true by rw [hr0]; unfold prevOf; rw [if_neg hi0]; rfl)
                        clear hi0 hr0
                        have IN := refIn_any wr HO.out (by omega) (j : Int)
                        cases hc : S.contains (j : Int)
                        · rw [hc] at IN
                          have NX := Lib.hid (show by1 (r == 0) (perP T r) (prevOf (ordF T n) (i + 1)) (restOf (ordF T n) n (i + 1)) (c - (m + 1)) (S ++ [(j : Int)]) = Fin by
                            rw [← HF.out, HREST.out, by1_take hm0 HFR.out (by rw [HJ.out]; exact hc), prevOf_succ, HJ.out, show c - (m + 1) = c - m - 1 by omega])
                          go_wp2_with fail
                          refine IN.mono ?_
                          rintro e w' ⟨rfl, rfl⟩
                          clear IN hc
                          try clear i1
                          try clear r1
                          obtain ⟨av7, cv7, rfl⟩ : ∃ av cv, v = .slice av S.length cv := own_slice HO.out
                          have HA7 := Lib.hid (HO.out.alloc (.cells #[.int .i64 (j : Int)] 3))
                          have g7 : (wr.alloc (.cells #[.int .i64 (j : Int)] 3)).cell? ⟨wr.heap.size, 0, none⟩ = some (.int .i64 (j : Int)) := by simp only [World.cell?, heap_alloc_new]; rfl
                          have hs7 := HBi.out.size
                          go_wp2_with (at_builtin; go_must (refine wpList_append_elem ints_elem rfl _ _ rfl W3.heap.size (.slice av7 S.length cv7) S.length (S.map fun x => Value.int .i64 x) rfl HA7.out ⟨wr.heap.size, 0, none⟩ 1 (.int .i64 (j : Int)) rfl g7 rfl (by omega) (by omega) (by simp; omega) ?_); intro v7 W7 ho7 hg7 _)
                          have HO7 := Lib.hid (own_snoc ho7)
                          have HB7 := Lib.hid (grown_below HBi.out (by first | exact Nat.le_refl _ | omega) _ HA7.out hg7)
                          clear ho7 hg7 g7 hs7
                          go_wp2
                          go_roundw
                          case rel => exact ⟨i + 1, m + 1, S ++ [(j : Int)], by omega, by go_num, by go_num, by omega, HO7.out, NX.out, by simp; omega, HB7.out⟩
                          case measure => simp [intOf]; omega
                        · rw [hc] at IN
                          have NX := Lib.hid (show by1 (r == 0) (perP T r) (prevOf (ordF T n) (i + 1)) (restOf (ordF T n) n (i + 1)) (c - m) S = Fin by
                            rw [← HF.out, HREST.out, by1_in hm0 (by rw [HJ.out]; exact hc), prevOf_succ])
                          obtain ⟨av8, cv8, rfl⟩ := own_slice HO.out
                          go_wp2_with fail
                          refine IN.mono ?_
                          rintro e w' ⟨rfl, rfl⟩
                          clear IN hc
                          try clear i1
                          try clear r1
                          go_wp2
                          go_roundw
                          case rel => exact ⟨i + 1, m, S, by omega, by go_num, rfl, hm, HO.out, NX.out, hsl, HBi.out⟩
                          case measure => simp [intOf]; omega
                      · have r1 : ((r : Int) == 0) = false := by simp; omega
                        obtain ⟨i', hi'⟩ : ∃ i', i = i' + 1 := ⟨i - 1, by omega⟩
                        have hlt' : i' < n := by omega
                        have hfb' := ordF_bd T hlt'
                        obtain ⟨j', hj'⟩ : ∃ j : Nat, ordF T n i' = j := ⟨(ordF T n i').toNat, by omega⟩
                        obtain ⟨og', ocp', e, _, hgl', hco'⟩ := own_cell HOV.out (i := i') (by rw [HOL.out]; exact hlt')
                        rw [ordF_at T hlt', hj'] at hco'
                        injection e with e1 e2 e3
                        injection e1 with e1
                        injection e1 with e1
                        subst e1
                        clear e3
                        have hco' := (HBi.out.cell (p := ⟨og, i', none⟩) hgl').trans hco'
                        rw [hj'] at hfb'
                        have hjn' : j' < n := by omega
                        have ei : (i : Int) - 1 = (i' : Int) := by omega
                        have pi' : (0 : Int) ≤ (i' : Int) := by omega
                        have bi' : (i' : Int) < (n : Int) := by omega
                        have HFE := Lib.hid (show fresh (r == 0) (perP T r) (prevOf (ordF T n) i) (ordF T n i) = decide (DateMath.per r (T j) ≠ DateMath.per r (T j')) by
                          unfold prevOf
                          rw [if_neg hi0, show i - 1 = i' by omega, HJ.out, hj']
                          show (r == 0 || _) = _
                          rw [show (r == 0) = false by simp; omega]; rfl)
                        have AB := HA3.out.below HBi.out
                        obtain ⟨lb, lo, rfl, htj⟩ := AB.times j hjn
                        obtain ⟨_, _, e, htj'⟩ := AB.times j' hjn'
                        injection e with e
                        injection e with e1 e2' _
                        subst e1 e2'
                        have bj := badT_no (HRT.out.2 j hjn)
                        have bj' := badT_no (HRT.out.2 j' hjn')
                        have P1 := fun W => refPeriod_any r (by omega) (by omega) (T j) W bj.1 bj.2
                        have P2 := fun W => refPeriod_any r (by omega) (by omega) (T j') W bj'.1 bj'.2
                        obtain ⟨q, hq⟩ : ∃ q, DateMath.per r (T j) = q := ⟨_, rfl⟩
                        obtain ⟨p, hp⟩ : ∃ q, DateMath.per r (T j') = q := ⟨_, rfl⟩
                        rw [hq] at P1
                        rw [hp] at P2
                        rw [hq, hp] at HFE
                        obtain ⟨tj, htjE⟩ : ∃ t, T (j : Int) = t := ⟨_, rfl⟩
                        obtain ⟨tj', htjE'⟩ : ∃ t, T (j' : Int) = t := ⟨_, rfl⟩
                        rw [htjE] at htj P1
                        rw [htjE'] at htj' P2
                        unfold WeekPost at P1 P2
                        have pj : (0 : Int) ≤ (j : Int) := by omega
                        have bjn : (j : Int) < (n : Int) := by omega
                        have pj' : (0 : Int) ≤ (j' : Int) := by omega
                        have bjn' : (j' : Int) < (n : Int) := by omega
                        clear hq hp htjE htjE' bj bj' AB hi0 hr0 hi' hj' e2 hfb' hlt'
                        go_wp2_with fail
                        refine (P1 _).mono ?_
                        rintro e w5 ⟨rfl, hb5⟩
                        have HB5 := Lib.hid (HBi.out.trans (hb5.mono HBi.out.size))
                        have HO5 := Lib.hid (show OwnI w5 W3.heap.size v S from (Touch.of_below (F := fun _ => False) hb5).row HO.out fun _ _ => id)
                        have hco := (Keeps.below hb5) _ _ hco
                        have hco' := (Keeps.below hb5) _ _ hco'
                        have htj' := (Keeps.below hb5) _ _ htj'
                        clear hb5 P1
                        go_wp2_with fail
                        refine (P2 _).mono ?_
                        rintro e w6 ⟨rfl, hb6⟩
                        have HB6 := Lib.hid (HB5.out.trans (hb6.mono HB5.out.size))
                        have HO6 := Lib.hid (show OwnI w6 W3.heap.size v S from (Touch.of_below (F := fun _ => False) hb6).row HO5.out fun _ _ => id)
                        have hco := (Keeps.below hb6) _ _ hco
                        clear hb6 P2 hco' htj'
                        by_cases q1 : q.1 = p.1
                        · have f1 : (q.1 != p.1) = false := by simpa using q1
                          by_cases q2 : q.2 = p.2
                          · have f2 : (q.2 != p.2) = false := by simpa using q2
                            have HFR := Lib.hid (show fresh (r == 0) (perP T r) (prevOf (ordF T n) i) (ordF T n i) = false by
                              rw [HFE.out]
                              exact decide_eq_false fun h => h (Prod.ext q1 q2))
                            have NX := Lib.hid (show by1 (r == 0) (perP T r) (prevOf (ordF T n) (i + 1)) (restOf (ordF T n) n (i + 1)) (c - m) S = Fin by
                              rw [← HF.out, HREST.out, by1_stale hm0 HFR.out, prevOf_succ])
                            clear q1 q2
                            go_wp2
                            go_roundw
                            case rel => exact ⟨i + 1, m, S, by omega, by go_num, rfl, hm, HO6.out, NX.out, hsl, HB6.out⟩
                            case measure => simp [intOf]; omega
                          · have f2 : (q.2 != p.2) = true := by simpa using q2
                            have HFR := Lib.hid (show fresh (r == 0) (perP T r) (prevOf (ordF T n) i) (ordF T n i) = true by
                              rw [HFE.out]
                              exact decide_eq_true fun h => q2 (by rw [h]))
                            clear q1 q2
                            have IN := refIn_any w6 HO6.out (by omega) (j : Int)
                            cases hc : S.contains (j : Int)
                            · rw [hc] at IN
                              have NX := Lib.hid (show by1 (r == 0) (perP T r) (prevOf (ordF T n) (i + 1)) (restOf (ordF T n) n (i + 1)) (c - (m + 1)) (S ++ [(j : Int)]) = Fin by
                                rw [← HF.out, HREST.out, by1_take hm0 HFR.out (by rw [HJ.out]; exact hc), prevOf_succ, HJ.out, show c - (m + 1) = c - m - 1 by omega])
                              go_wp2_with fail
                              refine IN.mono ?_
                              rintro e w' ⟨rfl, rfl⟩
                              clear IN hc
                              try clear i1
                              try clear r1
                              obtain ⟨av7, cv7, rfl⟩ : ∃ av cv, v = .slice av S.length cv := own_slice HO6.out
                              have HA7 := Lib.hid (HO6.out.alloc (.cells #[.int .i64 (j : Int)] 3))
                              have g7 : (w6.alloc (.cells #[.int .i64 (j : Int)] 3)).cell? ⟨w6.heap.size, 0, none⟩ = some (.int .i64 (j : Int)) := by simp only [World.cell?, heap_alloc_new]; rfl
                              have hs7 := HB6.out.size
                              go_wp2_with (at_builtin; go_must (refine wpList_append_elem ints_elem rfl _ _ rfl W3.heap.size (.slice av7 S.length cv7) S.length (S.map fun x => Value.int .i64 x) rfl HA7.out ⟨w6.heap.size, 0, none⟩ 1 (.int .i64 (j : Int)) rfl g7 rfl (by omega) (by omega) (by simp; omega) ?_); intro v7 W7 ho7 hg7 _)
                              have HO7 := Lib.hid (own_snoc ho7)
                              have HB7 := Lib.hid (grown_below HB6.out (by first | exact Nat.le_refl _ | omega) _ HA7.out hg7)
                              clear ho7 hg7 g7 hs7
                              go_wp2
                              go_roundw
                              case rel => exact ⟨i + 1, m + 1, S ++ [(j : Int)], by omega, by go_num, by go_num, by omega, HO7.out, NX.out, by simp; omega, HB7.out⟩
                              case measure => simp [intOf]; omega
                            · rw [hc] at IN
                              have NX := Lib.hid (show by1 (r == 0) (perP T r) (prevOf (ordF T n) (i + 1)) (restOf (ordF T n) n (i + 1)) (c - m) S = Fin by
                                rw [← HF.out, HREST.out, by1_in hm0 (by rw [HJ.out]; exact hc), prevOf_succ])
                              obtain ⟨av8, cv8, rfl⟩ := own_slice HO6.out
                              go_wp2_with fail
                              refine IN.mono ?_
                              rintro e w' ⟨rfl, rfl⟩
                              clear IN hc
                              try clear i1
                              try clear r1
                              go_wp2
                              go_roundw
                              case rel => exact ⟨i + 1, m, S, by omega, by go_num, rfl, hm, HO6.out, NX.out, hsl, HB6.out⟩
                              case measure => simp [intOf]; omega
                        · have f1 : (q.1 != p.1) = true := by simpa using q1
                          have HFR := Lib.hid (show fresh (r == 0) (perP T r) (prevOf (ordF T n) i) (ordF T n i) = true by
                            rw [HFE.out]
                            exact decide_eq_true fun h => q1 (by rw [h]))
                          clear q1
                          have IN := refIn_any w6 HO6.out (by omega) (j : Int)
                          cases hc : S.contains (j : Int)
                          · rw [hc] at IN
                            have NX := Lib.hid (show by1 (r == 0) (perP T r) (prevOf (ordF T n) (i + 1)) (restOf (ordF T n) n (i + 1)) (c - (m + 1)) (S ++ [(j : Int)]) = Fin by
                              rw [← HF.out, HREST.out, by1_take hm0 HFR.out (by rw [HJ.out]; exact hc), prevOf_succ, HJ.out, show c - (m + 1) = c - m - 1 by omega])
                            go_wp2_with fail
                            refine IN.mono ?_
                            rintro e w' ⟨rfl, rfl⟩
                            clear IN hc
                            try clear i1
                            try clear r1
                            obtain ⟨av7, cv7, rfl⟩ : ∃ av cv, v = .slice av S.length cv := own_slice HO6.out
                            have HA7 := Lib.hid (HO6.out.alloc (.cells #[.int .i64 (j : Int)] 3))
                            have g7 : (w6.alloc (.cells #[.int .i64 (j : Int)] 3)).cell? ⟨w6.heap.size, 0, none⟩ = some (.int .i64 (j : Int)) := by simp only [World.cell?, heap_alloc_new]; rfl
                            have hs7 := HB6.out.size
                            go_wp2_with (at_builtin; go_must (refine wpList_append_elem ints_elem rfl _ _ rfl W3.heap.size (.slice av7 S.length cv7) S.length (S.map fun x => Value.int .i64 x) rfl HA7.out ⟨w6.heap.size, 0, none⟩ 1 (.int .i64 (j : Int)) rfl g7 rfl (by omega) (by omega) (by simp; omega) ?_); intro v7 W7 ho7 hg7 _)
                            have HO7 := Lib.hid (own_snoc ho7)
                            have HB7 := Lib.hid (grown_below HB6.out (by first | exact Nat.le_refl _ | omega) _ HA7.out hg7)
                            clear ho7 hg7 g7 hs7
                            go_wp2
                            go_roundw
                            case rel => exact ⟨i + 1, m + 1, S ++ [(j : Int)], by omega, by go_num, by go_num, by omega, HO7.out, NX.out, by simp; omega, HB7.out⟩
                            case measure => simp [intOf]; omega
                          · rw [hc] at IN
                            have NX := Lib.hid (show by1 (r == 0) (perP T r) (prevOf (ordF T n) (i + 1)) (restOf (ordF T n) n (i + 1)) (c - m) S = Fin by
                              rw [← HF.out, HREST.out, by1_in hm0 (by rw [HJ.out]; exact hc), prevOf_succ])
                            obtain ⟨av8, cv8, rfl⟩ := own_slice HO6.out
                            go_wp2_with fail
                            refine IN.mono ?_
                            rintro e w' ⟨rfl, rfl⟩
                            clear IN hc
                            try clear i1
                            try clear r1
                            go_wp2
                            go_roundw
                            case rel => exact ⟨i + 1, m, S, by omega, by go_num, rfl, hm, HO6.out, NX.out, hsl, HB6.out⟩
                            case measure => simp [intOf]; omega
                  · have hmc2 : m = c := by omega
                    have HE := Lib.hid (show S = Fin by
                      have := HF.out
                      rw [show c - m = 0 by omega, by1_zero] at this
                      exact this)
                    clear hmc2
                    go_wp2
                    go_roundw
                    case rel => exact ⟨r + 1, by omega, by go_num, by rw [HFIN.out, ← HE.out]; exact HO.out, HBi.out⟩
                    case measure => simp [intOf]; omega
                · have hin : i = n := by omega
                  have HE := Lib.hid (show S = Fin by
                    have := HF.out
                    rw [hin, restOf_end] at this
                    exact this)
                  clear hin
                  go_wp2
                  go_roundw
                  case rel => exact ⟨r + 1, by omega, by go_num, by rw [HFIN.out, ← HE.out]; exact HO.out, HBi.out⟩
                  case measure => simp [intOf]; omega
            · have hr6 : r = 6 := by omega
              obtain ⟨S6, hS6⟩ : ∃ S, rules (perP T) (cntK k) (order T n) 6 = S := ⟨_, rfl⟩
              have HO4 := Lib.hid (show OwnI wr W3.heap.size v S6 by rw [← hS6, ← hr6]; exact HO.out)
              have HS6 := Lib.hid hS6
              have hl6 : S6.length ≤ 6000 := by
                have := rules_le T k n 6 HRT.out.1 (Nat.le_refl _)
                rw [hS6] at this
                omega
              obtain ⟨W4, rfl⟩ : ∃ W : World, W = wr := ⟨_, rfl⟩
              clear hr6 hS6 hr
              go_wp2
              go_loopw [19, 20] (fun v x wr => OutRel2 W4 n S6 v x wr) (fun _ x _ => n - (intOf x).toNat)
              case atStart => exact ⟨0, Nat.zero_le _, rfl, by simpa [chosen] using own_nil W4 W4.heap.size, Below.refl _ _⟩
              case round =>
                obtain ⟨out, rfl⟩ : ∃ v, v = u19 := ⟨_, rfl⟩
                obtain ⟨i, hi, rfl, ho, hb⟩ := hrel
                have HOut := Lib.hid ho
                have HBo := Lib.hid hb
                have hkeep : OwnI wr W3.heap.size v S6 := (Touch.of_below (F := fun _ => False) hb).row HO4.out fun _ _ => id
                clear ho hb
                by_cases hlt : i < n
                · have IN := refIn_any wr hkeep (by omega) (i : Int)
                  have hle := chosen_le i S6
                  have HCS := chosen_succ S6 i
                  cases hc : S6.contains (i : Int)
                  · rw [hc] at IN HCS
                    have HC2 := Lib.hid HCS
                    obtain ⟨av8, cv8, rfl⟩ := own_slice HOut.out
                    clear hkeep HCS hc
                    go_wp2_with fail
                    refine IN.mono ?_
                    rintro e w' ⟨rfl, rfl⟩
                    clear IN
                    go_wp2
                    go_roundw
                    case rel => exact ⟨i + 1, by omega, by go_num, by rw [HC2.out]; simpa using HOut.out, HBo.out⟩
                    case measure => simp [intOf]; omega
                  · rw [hc] at IN HCS
                    have HC2 := Lib.hid (show chosen (i + 1) S6 = chosen i S6 ++ [(i : Int)] by rw [HCS]; rfl)
                    obtain ⟨CI, hCI⟩ : ∃ L, chosen i S6 = L := ⟨_, rfl⟩
                    rw [hCI] at HOut hle HC2
                    clear hkeep HCS hc hCI
                    go_wp2_with fail
                    refine IN.mono ?_
                    rintro e w' ⟨rfl, rfl⟩
                    clear IN
                    obtain ⟨av7, cv7, rfl⟩ : ∃ av cv, out = .slice av CI.length cv := own_slice HOut.out
                    have HA7 := Lib.hid (HOut.out.alloc (.cells #[.int .i64 (i : Int)] 3))
                    have g7 : (wr.alloc (.cells #[.int .i64 (i : Int)] 3)).cell? ⟨wr.heap.size, 0, none⟩ = some (.int .i64 (i : Int)) := by simp only [World.cell?, heap_alloc_new]; rfl
                    have hs7 := HBo.out.size
                    go_wp2_with (at_builtin; go_must (refine wpList_append_elem ints_elem rfl _ _ rfl W4.heap.size (.slice av7 CI.length cv7) CI.length (CI.map fun x => Value.int .i64 x) rfl HA7.out ⟨wr.heap.size, 0, none⟩ 1 (.int .i64 (i : Int)) rfl g7 rfl (by omega) (by omega) (by simp; omega) ?_); intro v7 W7 ho7 hg7 _)
                    have HO7 := Lib.hid (own_snoc ho7)
                    have HB7 := Lib.hid (grown_below HBo.out (by first | exact Nat.le_refl _ | omega) _ HA7.out hg7)
                    clear ho7 hg7 g7 hs7
                    go_wp2
                    go_roundw
                    case rel => exact ⟨i + 1, by omega, by go_num, by rw [HC2.out]; exact HO7.out, HB7.out⟩
                    case measure => simp [intOf]; omega
                · have hin : i = n := by omega
                  have HO9 := Lib.hid (show OwnI wr W4.heap.size out (chosen n S6) by rw [← hin]; exact HOut.out)
                  have HB9 := Lib.hid (HB3.out.trans ((HB.out.mono HB3.out.size).trans (HBo.out.mono (Nat.le_trans HB3.out.size HB.out.size))))
                  clear hin hkeep
                  go_wp2
                  go_ret2
                  exact .inr ⟨HRT.out, out, chosen n S6, rfl, by rw [← HS6.out], row_mono HO9.out fun kk e => Nat.le_trans (Nat.le_trans HB3.out.size HB.out.size) (own_base HO9.out e), HB9.out⟩
end Go.Proofs.Ytogoiikgiohlhaa
