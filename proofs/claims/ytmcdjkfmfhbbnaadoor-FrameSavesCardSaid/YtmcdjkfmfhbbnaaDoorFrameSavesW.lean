/- The law's walk: FrameSaves. -/
import Derived.Test.YtmcdjkfmfhbbnaaDoorSalv
namespace Go.Proofs.YtmcdjkfmfhbbnaaDoor
open Go Go.RowKit

theorem salv_ge : ∀ (f : Nat) (l : List (BitVec 8)) (p : Nat) (x : Fd) (D : List Fd), salvM f l p = x :: D → p ≤ x.at_ ∧ x.at_ < l.length
  | 0, l, p, x, D, h => by cases h
  | f + 1, l, p, x, D, h => by
    by_cases hp : p < l.length
    · by_cases he : (rd (l.drop p)).err = 0
      · rw [salvM, if_pos hp, if_pos he] at h
        injection h with h1 _
        subst h1
        exact ⟨Nat.le_refl _, hp⟩
      · rw [salvM, if_pos hp, if_neg he] at h
        have := salv_ge f l (p + 1) x D h
        omega
    · rw [salvM, if_neg hp] at h; cases h
/-- Ahead of the next find nothing stands. -/
theorem salv_step {f : Nat} {l : List (BitVec 8)} {p END : Nat} {D : List Fd} (h1 : ∀ x D', D = x :: D' → END = x.at_) (hE : END ≤ l.length) (hp : p < END) (hf : l.length ≤ p + f) (h : salvM f l p = D) :
    ∃ f', f = f' + 1 ∧ (rd (l.drop p)).err ≠ 0 ∧ salvM f' l (p + 1) = D := by
  obtain ⟨f', rfl⟩ : ∃ f', f = f' + 1 := ⟨f - 1, by omega⟩
  refine ⟨f', rfl, ?_, ?_⟩
  · intro he
    rw [salvM, if_pos (by omega), if_pos he] at h
    have := h1 _ _ h.symm
    simp only at this
    omega
  · have he : (rd (l.drop p)).err ≠ 0 := by
      intro he
      rw [salvM, if_pos (by omega), if_pos he] at h
      have := h1 _ _ h.symm
      simp only at this
      omega
    rwa [salvM, if_pos (by omega), if_neg he] at h
theorem salv_head {f : Nat} {l : List (BitVec 8)} {p : Nat} {x : Fd} {D : List Fd} (h : salvM f l p = x :: D) (hx : x.at_ = p) :
    p < l.length ∧ rd (l.drop p) = ⟨x.ent, x.n, 0⟩ ∧ ∃ f', f = f' + 1 ∧ salvM f' l (p + x.n) = D := by
  cases f with
  | zero => cases h
  | succ f =>
    have hp : p < l.length := by have := (salv_ge _ _ _ _ _ h).2; omega
    by_cases he : (rd (l.drop p)).err = 0
    · rw [salvM, if_pos hp, if_pos he] at h
      injection h with h1 h2
      subst h1
      refine ⟨hp, ?_, f, rfl, h2⟩
      generalize rd (l.drop p) = R at *
      obtain ⟨E, n, er⟩ := R
      simp only at he
      subst he
      rfl
    · rw [salvM, if_pos hp, if_neg he] at h
      have := (salv_ge _ _ _ _ _ h).1
      omega
theorem salv_len : ∀ (f : Nat) (l : List (BitVec 8)) (p : Nat), (salvM f l p).length ≤ l.length - p
  | 0, l, p => by simp [salvM]
  | f + 1, l, p => by
    by_cases hp : p < l.length
    · by_cases he : (rd (l.drop p)).err = 0
      · rw [salvM, if_pos hp, if_pos he, List.length_cons]
        have h1 := (rd_n he).1
        have := salv_len f l (p + (rd (l.drop p)).n)
        omega
      · rw [salvM, if_pos hp, if_neg he]
        have := salv_len f l (p + 1)
        omega
    · rw [salvM, if_neg hp]; simp

/-- Nothing stands between. -/
def SkipRel (m : List (BitVec 8)) (D : List Fd) (END : Nat) (w1 : World) (i : Value) (wr : World) : Prop :=
  ∃ p f : Nat, i = .int .i64 p ∧ p ≤ END ∧ m.length ≤ p + f ∧ salvM f m p = D ∧ Below w1.heap.size w1 wr
def SavesRel (m : List (BitVec 8)) (T : List Fd) (w1 : World) (at_ i : Value) (wr : World) : Prop :=
  ∃ k f p : Nat, i = .int .i64 k ∧ k ≤ T.length + 1 ∧ at_ = .int .i64 p ∧ p ≤ m.length ∧ m.length ≤ p + f ∧ salvM f m p = T.drop k ∧ Below w1.heap.size w1 wr
set_option maxHeartbeats 1000000 in
set_option maxRecDepth 40000 in
theorem frameSaves_walk (a : Option Addr) (cap : Nat) (l : List (BitVec 8)) (w : World) (hh : Half w) (hr : Reads w a cap l) :
    Calls Tryd.prog 7 #[.slice a l.length cap] w fun e w' => e = .returned (.bool true) ∧ Below w.heap.size w w' := by
  have CU := cut_any a cap l 600 600 w rfl hr (by decide)
  have hm := hr.take 600
  have hml : (l.take 600).length ≤ 600 := by rw [List.length_take]; omega
  clear hr
  generalize l.take 600 = m at *
  have SV := salvage_any a cap m w hh hm (by omega)
  have hfit := hm.fits
  have hz := zero_c
  have hzl : zeroC.size = 34 := by
    show (entC zeroEnt (.slice none 0 0)).toArray.size = _
    rw [List.size_toArray]; exact length_entC rfl
  have HZL := Lib.hid hzl
  have HR := Lib.hid hm
  have HH := Lib.hid hh
  clear hzl hm hh
  generalize zeroC = Z at *
  go_enter Tryd.func7, Tryd.ntmps7
  go_wp2_with fail
  refine CU.mono ?_
  rintro e w' ⟨rfl, rfl⟩
  go_wp2_with fail
  refine SV.mono ?_
  rintro e w1 ⟨v1, its, rfl, ho1, hm1, hf1, hb1⟩
  obtain ⟨T, hT⟩ : ∃ T, salvM m.length m 0 = T := ⟨_, rfl⟩
  rw [hT] at hm1
  obtain ⟨a1, c1, rfl, hI, _⟩ := ho1.form
  have HTL := Lib.hid hm1.length
  have hTm : T.length ≤ 600 := by have := salv_len m.length m 0; rw [hT] at this; omega
  have HI := Lib.hid hI
  have HM := Lib.hid hm1
  have HB0 := Lib.hid hb1
  have HT := Lib.hid hT
  clear SV CU ho1 hm1 hf1 hb1 hI hT
  go_wp2_with fail
  go_loopw [4, 5] (fun at_ i wr => SavesRel m T w1 at_ i wr) (fun _ i _ => T.length + 1 - (intOf i).toNat)
  case atStart => exact ⟨0, m.length, 0, rfl, by omega, rfl, by omega, by omega, by rw [HT.out]; rfl, Below.refl _ _⟩
  case round =>
    obtain ⟨k, f, p, rfl, hk, rfl, hp, hpf, hsal, hbr⟩ := hrel
    by_cases hkT : k < T.length
    · have hD : T.drop k = T[k] :: T.drop (k + 1) := List.drop_eq_getElem_cons hkT
      obtain ⟨hen, hxx⟩ := HM.out.at k hkT
      obtain ⟨b, off, rfl, hrows⟩ := HI.out.rows.resolve_left (fun e => by have hTl := HTL.out; rw [e] at hTl; simp at hTl; omega)
      have hit := (hrows k (by have := HTL.out; omega)).keeps (Keeps.below hbr)
      have hge := salv_ge f m p _ _ (hsal.trans hD)
      generalize hx : T[k] = x at *
      have c34 : wr.cell? ⟨b, off + k * 36 + 34, none⟩ = some (.int .i64 x.at_) := by
        refine hit.cells 34 _ ?_
        unfold Item.cells
        rw [List.getElem?_append_right (by rw [length_entC hit.key]; decide), length_entC hit.key, hxx]
        rfl
      have hkl : k < its.length := by have := HTL.out; omega
      have hkli : (k : Int) < (its.length : Int) := by omega
      have hklj : (k : Int) ≤ (its.length : Int) := by omega
      obtain ⟨END, hEND⟩ : ∃ END, x.at_ = END := ⟨_, rfl⟩
      rw [hEND] at c34 hge
      obtain ⟨D, hDD⟩ : ∃ D, T.drop k = D := ⟨_, rfl⟩
      rw [hDD] at hD hsal
      have HD1 : Hid (∀ y D', D = y :: D' → END = y.at_) := Lib.hid (by
        intro y D' e
        rw [hD] at e
        injection e with e1 _
        rw [← e1, hEND])
      have hE : END ≤ m.length := by omega
      have hpE : p ≤ END := hge.1
      have HDX := Lib.hid hD
      have HEN := Lib.hid hen
      have HXX := Lib.hid hxx
      have HX := Lib.hid hEND
      have HROWS := Lib.hid hrows
      have HDD := Lib.hid hDD
      clear hD hen hxx hx hEND hrows hit hDD hge
      go_wp2_with fail
      obtain ⟨wo, rfl⟩ : ∃ wo : World, wo = wr := ⟨_, rfl⟩
      go_loopw [4] (fun i wr => SkipRel m D END w1 i wr) (fun i _ => m.length - (intOf i).toNat)
      case atStart => exact ⟨p, f, rfl, hpE, hpf, hsal, hbr⟩
      case round =>
        clear hpE hpf hsal hbr hp
        obtain ⟨p2, f2, rfl, hpE, hpf, hsal, hbr⟩ := hrel
        have HBR := Lib.hid hbr
        by_cases hlt : p2 < END
        · obtain ⟨f3, rfl, hne, hsal3⟩ := salv_step HD1.out hE hlt hpf hsal
          have hlt' : (p2 : Int) < (END : Int) := by omega
          have hsl := fun W => run_slice_from (P := Tryd.prog) byteSlice W a m.length cap .i64 p2 p2 rfl (by omega)
          have hb0r := HB0.out.trans (hbr.mono HB0.out.size)
          have RD := read_at2 (m.drop p2) wr List.length_drop (HH.out.keeps (Keeps.below hb0r)) ((HR.out.keeps (Keeps.below hb0r)).drop p2 (by omega))
          obtain ⟨E, n, er, hR⟩ : ∃ E n er, rd (m.drop p2) = ⟨E, n, er⟩ := ⟨_, _, _, rfl⟩
          have hkE : E.key.length = 32 := by have := rd_key (m.drop p2); rw [hR] at this; exact this
          rw [hR] at hne
          have he1 : (er != 0) = true := by simpa using hne
          have he2 : (er == 0) = false := by simpa using hne
          have HRD := Lib.hid hR
          have HKE := Lib.hid hkE
          have HSAL := Lib.hid hsal3
          clear hR hne hkE hsal3 hsal hb0r hbr
          go_wp2_with fail
          refine RD.mono ?_
          rintro en w4 hq
          obtain ⟨ax, cx, rfl, rx, fx, hb4⟩ := rd_mk HRD.out hq
          have hlX := length_entC (e := E) (dv := .slice ax E.data.length cx) HKE.out
          have HIX := Lib.hid (entry_size hlX)
          have HZX : Hid (Z.size = (entC E (.slice ax E.data.length cx)).toArray.size) := Lib.hid (by rw [HZL.out, List.size_toArray, hlX])
          have HOX := Lib.hid (all_oneCell_toArray (one_entC E ax E.data.length cx))
          have hnew := heap_alloc_new w4 (.cells Z 26)
          obtain ⟨m5, n5⟩ := made_row w4 26 Z (entC E (.slice ax E.data.length cx)).toArray
          have hb5 := hb4.trans (n5.mono hb4.size)
          have HB5 := Lib.hid (HBR.out.trans (hb5.mono HBR.out.size))
          clear hb4 n5 hb5 rx fx hq RD hlX HRD HBR m5
          obtain ⟨CX, hCX⟩ : ∃ CX, entC E (.slice ax E.data.length cx) = CX := ⟨_, rfl⟩
          rw [hCX] at HIX HZX HOX HB5 ⊢
          clear hCX
          go_wp2_with (with_reducible refine at_store 26 ?_; go_must (refine wpList_store_row rfl 26 _ _ rfl w4.heap.size CX.toArray rfl rfl _ Z hnew HIX.out HZX.out HOX.out ?_))
          go_roundw
          case rel => exact ⟨p2 + 1, f3, by go_num, by omega, by omega, HSAL.out, HB5.out⟩
          case measure => simp [intOf]; omega
        · have hlt' : ¬ (p2 : Int) < (END : Int) := by omega
          obtain rfl : p2 = END := by omega
          have HBR := Lib.hid hbr
          rw [HDX.out] at hsal
          obtain ⟨hpl, hR, f3, rfl, hsal3⟩ := salv_head hsal HX.out
          have hR9 := rd_n (l := m.drop p2) (by rw [hR])
          rw [hR, List.length_drop] at hR9
          have hsl := fun W => run_slice_from (P := Tryd.prog) byteSlice W a m.length cap .i64 p2 p2 rfl (by omega)
          have hb0r := HB0.out.trans (hbr.mono HB0.out.size)
          have RD := read_at2 (m.drop p2) wr List.length_drop (HH.out.keeps (Keeps.below hb0r)) ((HR.out.keeps (Keeps.below hb0r)).drop p2 (by omega))
          have hkE : x.ent.key.length = 32 := by have := rd_key (m.drop p2); rw [hR] at this; exact this
          have HRD := Lib.hid hR
          have HKE := Lib.hid hkE
          have HSAL := Lib.hid hsal3
          clear hR hkE hsal3 hsal hb0r hbr
          go_wp2_with fail
          refine RD.mono ?_
          rintro en w4 hq
          obtain ⟨ax, cx, rfl, rx, fx, hb4⟩ := rd_mk HRD.out hq
          have hlX := length_entC (e := x.ent) (dv := .slice ax x.ent.data.length cx) HKE.out
          have HIX := Lib.hid (entry_size hlX)
          have HZX : Hid (Z.size = (entC x.ent (.slice ax x.ent.data.length cx)).toArray.size) := Lib.hid (by rw [HZL.out, List.size_toArray, hlX])
          have HOX := Lib.hid (all_oneCell_toArray (one_entC x.ent ax x.ent.data.length cx))
          have hnew := heap_alloc_new w4 (.cells Z 26)
          obtain ⟨m5, n5⟩ := made_row w4 26 Z (entC x.ent (.slice ax x.ent.data.length cx)).toArray
          have hb5 := hb4.trans (n5.mono hb4.size)
          have HB5 := Lib.hid (HBR.out.trans (hb5.mono HBR.out.size))
          have HRX := Lib.hid (rx.keeps (Keeps.below n5))
          have HLX := Lib.hid hlX
          clear hb4 n5 hb5 rx fx hq RD hlX HRD HBR
          have hit := (HROWS.out k hkl).keeps (Keeps.below HB5.out)
          have hdat := hit.data
          have hent := hit.range
          have hlY := length_entC (e := x.ent) (dv := (itAt its k).dv) HKE.out
          have c35 : ((w4.alloc (.cells Z 26)).setRow w4.heap.size (entC x.ent (.slice ax x.ent.data.length cx)).toArray).cell? ⟨b, off + k * 36 + 35, none⟩ = some (.int .i64 x.n) := by
            refine hit.cells 35 _ ?_
            unfold Item.cells
            rw [List.getElem?_append_right (by rw [length_entC hit.key]; decide), length_entC hit.key, HXX.out]
            rfl
          have hdv : (itAt its k).dv = .slice (itAt its k).a x.ent.data.length (itAt its k).cap := by unfold Item.dv; rw [HEN.out]
          rw [HEN.out] at hdat hent
          rw [hdv] at hent hlY
          have SE := sameEntry_yes x.ent ax cx (itAt its k).a (itAt its k).cap HKE.out
          obtain ⟨CY, hCY⟩ : ∃ CY, entC x.ent (.slice (itAt its k).a x.ent.data.length (itAt its k).cap) = CY := ⟨_, rfl⟩
          rw [hCY] at hent SE hlY
          have HCY := Lib.hid hCY
          have HDAT := Lib.hid hdat
          have HLY := Lib.hid hlY
          clear hit hdv hCY hdat hlY
          obtain ⟨CX, hCX⟩ : ∃ CX, entC x.ent (.slice ax x.ent.data.length cx) = CX := ⟨_, rfl⟩
          rw [hCX] at HIX HZX HOX HB5 HRX HDAT SE c35 hent m5 HLX ⊢
          have HCX := Lib.hid hCX
          clear hCX
          go_wp2_with (with_reducible refine at_store 26 ?_; go_must (refine wpList_store_row rfl 26 _ _ rfl w4.heap.size CX.toArray rfl rfl _ Z hnew HIX.out HZX.out HOX.out ?_))
          clear hnew
          generalize (w4.alloc (.cells Z 26)).setRow w4.heap.size CX.toArray = w5 at *
          have s35 : ∀ y : Of (Keeps w5), y.to.cell? ⟨b, off + k * 36 + 35, none⟩ = some (.int .i64 x.n) := fun y => y.ok _ _ c35
          have rgX := rangeAt_row m5
          rw [List.toList_toArray] at rgX
          have rgX2 : ∀ W, Keeps w5 W → W.rangeAt w4.heap.size 0 CX := fun W hW j v hv => hW _ _ (rgX j v hv)
          have rgY2 : ∀ W, Keeps w5 W → W.rangeAt b (off + k * 36) CY := fun W hW j v hv => hW _ _ (hent j v hv)
          have hiX : (Tryd.prog.info? 26).map (·.size) = some CX.length := by rw [HLX.out]; kernel_rfl
          have hiY : (Tryd.prog.info? 26).map (·.size) = some CY.length := by rw [HLY.out]; kernel_rfl
          have kd : Keeps w5 w5.drew := Keeps.drewN w5 1
          have ne : Nonempty (Of (Keeps w5)) := of_ne kd
          have hnn : ((x.n : Int) != (x.n : Int)) = false := bne_self_eq_false _
          clear c35 rgX hent m5
          refine wp_region_plan [([0, 1, 2, 3, 4, 5, 6, 7, 8, 9, 10, 11, 12, 13, 14, 15, 16, 17], some 18), ([19, 20], none)] (fun w' => ∃ y : Of (Keeps w5), w' = y.to) (by kernel_rfl) (by kernel_rfl) (fun _ _ d _ _ h => by cases d <;> exact h) (of_mk kd) ?_
          refine plan_some (show wpQuiet _ _ _ _ (_ :: _ :: _ :: _ :: _ :: _ :: _ :: _ :: _ :: _ :: _ :: _ :: _ :: _ :: _ :: _ :: _ :: _ :: []) _ from ?_)
          repeat (first
            | (go_big_quiet_want; refine quiet_mid_of (fun w' e => (show w'.rangeAt w4.heap.size 0 CX from by obtain ⟨y, rfl⟩ := e; exact rgX2 _ y.ok)) Tryd.underlying26 rfl hiX rfl rfl ?_; simp only [Act.put, List.setIfInBounds_toArray, List.set_cons_succ, List.set_cons_zero]; go_big_quiet_on)
            | (go_big_quiet_want; refine quiet_mid_of (fun w' e => (show w'.rangeAt b (off + k * 36) CY from by obtain ⟨y, rfl⟩ := e; exact rgY2 _ y.ok)) Tryd.underlying26 rfl hiY rfl rfl ?_; simp only [Act.put, List.setIfInBounds_toArray, List.set_cons_succ, List.set_cons_zero]; go_big_quiet_on)
            | go_big_quiet_step (fail)
            | quiet_step (fail))
          refine wpQuiet_nil (show wpList _ _ _ (_ :: []) _ _ from ?_)
          go_wp2_with fail
          refine (SE _ (HRX.out.keeps kd) (HDAT.out.keeps kd)).mono ?_
          rintro en w6 ⟨rfl, hb6⟩
          have kd6 : Keeps w5 w6 := fun q v hq => Keeps.below hb6 _ _ (kd q v hq)
          go_wp2_with fail
          refine late_normal (fun _ h => h) (of_mk kd6) ?_
          refine plan_none (show wpQuiet _ _ _ _ (_ :: _ :: []) _ from ?_)
          repeat (go_big_quiet_step (fail))
          refine wpQuiet_nil ?_
          refine plan_nil ?_
          have HB6 := Lib.hid (HB5.out.trans ((show Below w5.heap.size w5 w6 from (Below.refl _ _).drew.trans hb6).mono HB5.out.size))
          clear s35 rgX2 rgY2 hiX hiY ne hnn kd6 kd hb6 SE
          go_wp2_with fail
          go_roundw
          case rel => exact ⟨k + 1, f3, p2 + x.n, by go_num, by omega, by go_num, by omega, by omega, HSAL.out, HB6.out⟩
          case measure => simp [intOf]; omega
    · by_cases hkk : k = T.length
      · have hkli : ¬ (k : Int) < (its.length : Int) := by have := HTL.out; omega
        have hklj : (k : Int) ≤ (its.length : Int) := by have := HTL.out; omega
        obtain ⟨D, hDD⟩ : ∃ D, T.drop k = D := ⟨_, rfl⟩
        have hD0 : D = [] := by rw [← hDD, hkk]; simp
        have HDN : Hid (D = T.drop (k + 1)) := Lib.hid (by rw [hD0]; simp; omega)
        rw [hDD] at hsal
        have HD1 : Hid (∀ y D', D = y :: D' → m.length = y.at_) := Lib.hid (by
          intro y D' e
          rw [hD0] at e
          cases e)
        have hE : m.length ≤ m.length := Nat.le_refl _
        have hpE : p ≤ m.length := by omega
        have HKK := Lib.hid hkk
        clear hDD hD0 hkk
        go_wp2_with fail
        obtain ⟨wo, rfl⟩ : ∃ wo : World, wo = wr := ⟨_, rfl⟩
        go_loopw [4] (fun i wr => SkipRel m D m.length w1 i wr) (fun i _ => m.length - (intOf i).toNat)
        case atStart => exact ⟨p, f, rfl, hpE, hpf, hsal, hbr⟩
        case round =>
          clear hpE hpf hsal hbr hp
          obtain ⟨p2, f2, rfl, hpE, hpf, hsal, hbr⟩ := hrel
          have HBR := Lib.hid hbr
          by_cases hlt : p2 < m.length
          · obtain ⟨f3, rfl, hne, hsal3⟩ := salv_step HD1.out hE hlt hpf hsal
            have hlt' : (p2 : Int) < (m.length : Int) := by omega
            have hsl := fun W => run_slice_from (P := Tryd.prog) byteSlice W a m.length cap .i64 p2 p2 rfl (by omega)
            have hb0r := HB0.out.trans (hbr.mono HB0.out.size)
            have RD := read_at2 (m.drop p2) wr List.length_drop (HH.out.keeps (Keeps.below hb0r)) ((HR.out.keeps (Keeps.below hb0r)).drop p2 (by omega))
            obtain ⟨E, n, er, hR⟩ : ∃ E n er, rd (m.drop p2) = ⟨E, n, er⟩ := ⟨_, _, _, rfl⟩
            have hkE : E.key.length = 32 := by have := rd_key (m.drop p2); rw [hR] at this; exact this
            rw [hR] at hne
            have he1 : (er != 0) = true := by simpa using hne
            have he2 : (er == 0) = false := by simpa using hne
            have HRD := Lib.hid hR
            have HKE := Lib.hid hkE
            have HSAL := Lib.hid hsal3
            clear hR hne hkE hsal3 hsal hb0r hbr
            go_wp2_with fail
            refine RD.mono ?_
            rintro en w4 hq
            obtain ⟨ax, cx, rfl, rx, fx, hb4⟩ := rd_mk HRD.out hq
            have hlX := length_entC (e := E) (dv := .slice ax E.data.length cx) HKE.out
            have HIX := Lib.hid (entry_size hlX)
            have HZX : Hid (Z.size = (entC E (.slice ax E.data.length cx)).toArray.size) := Lib.hid (by rw [HZL.out, List.size_toArray, hlX])
            have HOX := Lib.hid (all_oneCell_toArray (one_entC E ax E.data.length cx))
            have hnew := heap_alloc_new w4 (.cells Z 26)
            obtain ⟨m5, n5⟩ := made_row w4 26 Z (entC E (.slice ax E.data.length cx)).toArray
            have hb5 := hb4.trans (n5.mono hb4.size)
            have HB5 := Lib.hid (HBR.out.trans (hb5.mono HBR.out.size))
            clear hb4 n5 hb5 rx fx hq RD hlX HRD HBR m5
            obtain ⟨CX, hCX⟩ : ∃ CX, entC E (.slice ax E.data.length cx) = CX := ⟨_, rfl⟩
            rw [hCX] at HIX HZX HOX HB5 ⊢
            clear hCX
            go_wp2_with (with_reducible refine at_store 26 ?_; go_must (refine wpList_store_row rfl 26 _ _ rfl w4.heap.size CX.toArray rfl rfl _ Z hnew HIX.out HZX.out HOX.out ?_))
            go_roundw
            case rel => exact ⟨p2 + 1, f3, by go_num, by omega, by omega, HSAL.out, HB5.out⟩
            case measure => simp [intOf]; omega
          · have hlt' : ¬ (p2 : Int) < (m.length : Int) := by omega
            obtain rfl : p2 = m.length := by omega
            go_wp2_with fail
            go_roundw
            case rel => exact ⟨k + 1, f2, m.length, by go_num, by have := HKK.out; omega, rfl, Nat.le_refl _, hpf, by rw [hsal, HDN.out], hbr⟩
            case measure => have := HKK.out; simp [intOf]; omega
      · have hklj : ¬ (k : Int) ≤ (its.length : Int) := by have := HTL.out; omega
        have hb := HB0.out.trans (hbr.mono HB0.out.size)
        have LV := lives_any wr (HH.out.keeps (Keeps.below hb))
        go_wp2_with fail
        refine LV.mono ?_
        rintro en w13 ⟨rfl, hb13⟩
        go_wp2_with fail
        go_ret
        exact ⟨rfl, hb.trans (hb13.mono hb.size)⟩
end Go.Proofs.YtmcdjkfmfhbbnaaDoor
