/- The law's walk: FrameBack. -/
import Derived.Test.YtmcdjkfmfhbbnaaDoorFrameReadsW
import Derived.Test.YtmcdjkfmfhbbnaaDoorFLaws
namespace Go.Proofs.YtmcdjkfmfhbbnaaDoor
open Go Go.RowKit

theorem read_at {a : Option Addr} {cap n : Nat} (l : List (BitVec 8)) (w : World) (hn : l.length = n) (hh : Half w) (hr : Reads w a cap l) :
    Calls Tryd.prog 20 #[.slice a n cap] w (RdPost w l) := by
  subst hn; exact read_any a cap l w hh hr
theorem rd_mk {l : List (BitVec 8)} {E : Ent} {n : Nat} {er : Int} (h : rd l = ⟨E, n, er⟩) {w : World} {en : Ending} {w' : World} (q : RdPost w l en w') :
    ∃ a cap, en = .returned (.tuple #[.agg (entC E (.slice a E.data.length cap)).toArray, .int .i64 n, .int .i64 er]) ∧ Reads w' a cap E.data ∧ (∀ ad, a = some ad → w.heap.size ≤ ad.block ∧ ad.block < w'.heap.size) ∧ Below w.heap.size w w' := by
  have q' : ∃ a cap, en = .returned (.tuple #[.agg (entC (rd l).ent (.slice a (rd l).ent.data.length cap)).toArray, .int .i64 (rd l).n, .int .i64 (rd l).err]) ∧ Reads w' a cap (rd l).ent.data ∧ (∀ ad, a = some ad → w.heap.size ≤ ad.block ∧ ad.block < w'.heap.size) ∧ Below w.heap.size w w' := q
  rw [h] at q'; exact q'
/-- Worlds in which these cells stand so. -/
def RangeC (g : Nat) (C : List Value) (W : World) : Prop := W.rangeAt g 0 C
set_option maxHeartbeats 4000000 in
set_option maxRecDepth 40000 in
theorem frameBack_walk (e : Ent) (a : Option Addr) (cap : Nat) (a1 : Option Addr) (cap1 : Nat) (l1 : List (BitVec 8)) (w : World) (hh : Half w) (hk : e.key.length = 32) (hr : Reads w a cap e.data) (hr1 : Reads w a1 cap1 l1) :
    Calls Tryd.prog 5 #[.agg (entC e (.slice a e.data.length cap)).toArray, .slice a1 l1.length cap1] w fun en w' => en = .returned (.bool true) ∧ Below w.heap.size w w' := by
  have hlC := length_entC (e := e) (dv := .slice a e.data.length cap) hk
  have hiC := entry_size hlC
  have row := heap_alloc_new w (.cells (entC e (.slice a e.data.length cap)).toArray 26)
  have hb1 := (Below.refl w.heap.size w).alloc (Nat.le_refl _) (.cells (entC e (.slice a e.data.length cap)).toArray 26)
  have hrw := hr.keeps (Keeps.alloc w (.cells (entC e (.slice a e.data.length cap)).toArray 26))
  have LIT := fun (W : World) (h : Reads W a cap e.data) => itAt_lit W e a cap 26 hk h
  have FO := fun (g : Nat) (W : World) (h : ItAt W g 0 ⟨e, a, cap, []⟩) => few_one' e a cap g 16384 W (by decide) h
  have CU := fun (W : World) (h : Reads W a1 cap1 l1) => cut_any a1 cap1 l1 100 100 W rfl h (by decide)
  have HR1 := Lib.hid hr1
  have hlr : (l1.take 100).length ≤ 100 := by rw [List.length_take]; omega
  have hrt := Lib.hid (hr1.take 100)
  obtain ⟨E, hE⟩ : ∃ E, cutE 16384 e = E := ⟨_, rfl⟩
  have hEk : E.key.length = 32 := by rw [← hE]; exact hk
  have hEl : E.data.length ≤ 16384 := by rw [← hE]; show (e.data.take 16384).length ≤ 16384; rw [List.length_take]; omega
  rw [hE] at FO
  have HLIT := Lib.hid LIT
  have HFO := Lib.hid FO
  have HCU := Lib.hid CU
  have HC := Lib.hid hlC
  have HH := Lib.hid hh
  have HEK := Lib.hid hEk
  have HRW := Lib.hid hrw
  clear hE hr hk hh hlC hEk LIT FO CU hr1 hrw
  generalize l1.take 100 = rest at *
  generalize entC e (.slice a e.data.length cap) = C at *
  go_enter Tryd.func5, Tryd.ntmps5
  go_wp2_with fail
  have HB1 := Lib.hid hb1
  have hs1 : (w.alloc (.cells C.toArray 26)).heap.size = w.heap.size + 1 := by simp
  clear hb1
  refine wp_region_plan [([5], some 0), ([], some 1), ([], some 2), ([3, 4], some 6), ([], some 7), ([8], none)] (fun _ => True) (by kernel_rfl) (by kernel_rfl) (fun _ _ d _ _ h => by cases d <;> exact h) trivial ?_
  refine plan_some (show wpQuiet _ _ _ _ (_ :: []) _ from ?_)
  repeat (go_big_quiet_step (fail))
  refine wpQuiet_nil (show wpList _ _ _ (_ :: []) _ _ from ?_)
  have rowd : (w.alloc (.cells C.toArray 26)).drew.heap[w.heap.size]? = some (.cells C.toArray 26 (0, 0)) := row
  have HRWD := Lib.hid (HRW.out.keeps (Keeps.drewN _ 1))
  have HBD := Lib.hid (HB1.out.drew)
  have hsd : (w.alloc (.cells C.toArray 26)).drew.heap.size = w.heap.size + 1 := hs1
  have hd1 : World.drewN (w.alloc (.cells C.toArray 26)) 1 = (w.alloc (.cells C.toArray 26)).drew := rfl
  rw [hd1] at HRWD
  clear row HRW HB1 hs1 hd1
  generalize (w.alloc (.cells C.toArray 26)).drew = w1 at *
  refine wpList_load_row rfl 26 _ rfl w.heap.size rfl _ C.toArray _ _ rowd Tryd.underlying26 rfl hiC ?_
  go_wp2_with fail
  refine late_normal (S' := fun _ => True) (fun _ h => h) trivial ?_
  refine plan_some (show wpQuiet _ _ _ _ [] _ from ?_)
  refine wpQuiet_nil (show wpList _ _ _ (_ :: []) _ _ from ?_)
  refine wpList_item_lit Tryd.underlying27 entry_info ent_zsize rfl _ rfl C rfl HC.out (by decide) (by decide) ?_
  go_wp2_with fail
  have hb2 := HBD.out.alloc HBD.out.size (.cells C.toArray 26)
  have row2 := (Below.heap_alloc w1 (.cells C.toArray 26) w.heap.size (heap_lt rowd)).trans rowd
  have LT := HLIT.out w1 HRWD.out
  have F2 := HFO.out _ _ LT
  refine late_normal (S' := fun _ => True) (fun _ h => h) trivial ?_
  refine plan_some (show wpQuiet _ _ _ _ [] _ from ?_)
  refine wpQuiet_nil (show wpList _ _ _ (_ :: []) _ _ from ?_)
  rw [hsd] at F2
  go_wp2_with fail
  refine F2.mono ?_
  rintro en w3 ⟨g3, c3, a3, cap3, rfl, r3, d3, f3, hb3, hg3⟩
  have hlE := length_entC (e := E) (dv := .slice a3 E.data.length cap3) HEK.out
  have hiE := entry_size hlE
  have hiE2 : (Tryd.prog.info? 26).map (·.size) = some (entC E (.slice a3 E.data.length cap3)).length := by rw [hlE]; kernel_rfl
  have hone3 := all_oneCell_toArray (one_entC E a3 E.data.length cap3)
  have row3 := (hb3.block _ (heap_lt row2)).trans row2
  have hzC : C.toArray.size = (entC E (.slice a3 E.data.length cap3)).toArray.size := by rw [List.size_toArray, List.size_toArray, HC.out, hlE]
  have T4 : Touch (fun x => x = w.heap.size) w3 (w3.setRow w.heap.size (entC E (.slice a3 E.data.length cap3)).toArray) := Touch.setRow _ _ _ rfl
  have row4 := setRow_heap w3 w.heap.size C.toArray (entC E (.slice a3 E.data.length cap3)).toArray 26 (0, 0) row3
  have hsa : (w1.alloc (.cells C.toArray 26)).heap.size = w1.heap.size + 1 := by simp
  have d4 := T4.reads d3 fun ad e => by
    have := f3 ad e
    show ¬ (ad.block = w.heap.size)
    omega
  have hb23 := hb2.trans (hb3.mono hb2.size)
  have hb4 := hb23.trans (T4.below (fun x e => by have e : x = w.heap.size := e; omega) hb23.size)
  have hrest := hrt.out.keeps (Keeps.below hb4)
  have HR4 := Lib.hid (show RangeC g3 (entC E (.slice a3 E.data.length cap3)) (w3.setRow w.heap.size (entC E (.slice a3 E.data.length cap3)).toArray) from rangeAt_touch T4 r3 (by show ¬ (g3 = w.heap.size); omega))
  have CU3 := HCU.out w3 (HR1.out.keeps (Keeps.below hb23))
  have HIE := Lib.hid hiE
  have HO3 := Lib.hid hone3
  have HZC := Lib.hid hzC
  have HD4 := Lib.hid d4
  have HB4 := Lib.hid hb4
  have HROW4 := Lib.hid row4
  have HREST := Lib.hid hrest
  have HLE := Lib.hid hlE
  have HHIE2 := Lib.hid hiE2
  clear hlE hiE hone3 hzC T4 d4 hb23 hb4 hrest d3 f3 hb3 hsa LT F2 hb2 row2 rowd hiC hsd HRWD HLIT HFO HBD hrt
  obtain ⟨C3, hC3⟩ : ∃ C3, entC E (.slice a3 E.data.length cap3) = C3 := ⟨_, rfl⟩
  rw [hC3] at r3 HIE hiE2 HO3 HZC HD4 HB4 HROW4 HREST HLE HR4
  have HC3 := Lib.hid hC3
  clear hC3
  go_wp2_with fail
  refine late_normal (S' := fun w' => ∃ x : Of (RangeC g3 C3), w' = x.to) (fun _ _ => trivial) (of_mk r3) ?_
  have ne : Nonempty (Of (RangeC g3 C3)) := of_ne (w := w3) r3
  refine plan_some (show wpQuiet _ _ _ _ (_ :: _ :: []) _ from ?_)
  repeat (first
    | (go_big_quiet_want; refine quiet_mid_of (fun w' e => (show w'.rangeAt g3 0 C3 from by obtain ⟨x, rfl⟩ := e; exact x.ok)) Tryd.underlying26 rfl hiE2 rfl rfl ?_; simp only [Act.put, List.setIfInBounds_toArray, List.set_cons_succ, List.set_cons_zero]; go_big_quiet_on)
    | go_big_quiet_step (fail)
    | quiet_step (fail))
  refine wpQuiet_nil (show wpList _ _ _ (_ :: []) _ _ from ?_)
  go_wp2_with fail
  refine CU3.mono ?_
  rintro en w' ⟨rfl, rfl⟩
  go_wp2_with fail
  refine late_normal (fun _ h => h) (of_mk r3) ?_
  refine plan_some (show wpQuiet _ _ _ _ [] _ from ?_)
  refine wpQuiet_nil (show wpList _ _ _ (_ :: []) _ _ from ?_)
  refine wpList_store_row rfl 26 _ _ rfl w.heap.size C3.toArray rfl rfl _ C.toArray row3 HIE.out HZC.out HO3.out ?_
  go_wp2_with fail
  have r4 := HR4.out
  refine late_normal (fun _ h => h) (of_mk r4) ?_
  have ne4 : Nonempty (Of (RangeC g3 C3)) := of_ne r4
  refine plan_none (show wpQuiet _ _ _ _ (_ :: []) _ from ?_)
  repeat (go_big_quiet_step (fail))
  refine wpQuiet_nil ?_
  refine plan_nil ?_
  have row4 := HROW4.out
  clear r4 ne4 r3 row3 ne HR4 hiE2 HHIE2 CU3 HR1 HCU HZC HO3 HC
  generalize w3.setRow w.heap.size C3.toArray = w4 at *
  have EN := encode_any E a3 cap3 HEK.out (by omega) w4 (HH.out.keeps (Keeps.below HB4.out)) HD4.out
  rw [HC3.out] at EN
  unfold EncPost at EN
  by_cases hc : chk E = 0
  · have hlB : (enc E).length = size E := length_enc HEK.out
    have hB : enc E = encB E := by unfold enc; rw [if_pos hc]
    have RY := fun (r : List (BitVec 8)) => rd_enc E HEK.out hc r
    have RL := rd_less E HEK.out hc
    rw [← hB] at RL
    simp only [← hB] at RY
    rw [← hlB] at RL
    have hn9 : 9 ≤ (enc E).length := by rw [hlB]; exact (parts E HEK.out hc).size9
    have hnM : (enc E).length ≤ 16425 := by rw [hlB]; exact size_le E
    rw [hc] at EN
    have HRY := Lib.hid RY
    have HRL := Lib.hid RL
    have HLB := Lib.hid hlB
    clear RY RL hB hlB hc
    generalize enc E = B at *
    generalize size E = sz at *
    go_wp2_with (with_reducible refine at_load 26 ?_; go_must (refine wpList_load_row rfl 26 _ rfl w.heap.size rfl _ C3.toArray _ _ row4 Tryd.underlying26 rfl HIE.out ?_))
    refine EN.mono ?_
    rintro en w5 ⟨v5, rfl, o5, hb5⟩
    have row5 := (hb5.block _ (heap_lt row4)).trans row4
    obtain ⟨a5, c5, rfl, R5⟩ := o5.reads
    have HB5 := Lib.hid (HB4.out.trans (hb5.mono HB4.out.size))
    have HD5 := Lib.hid (HD4.out.keeps (Keeps.below hb5))
    have HREST5 := Lib.hid (HREST.out.keeps (Keeps.below hb5))
    clear o5 hb5 row4 EN HB4 HD4 HREST
    have CO := copy_any a5 c5 B w5 R5 (by omega)
    have hB0 : ¬ ((B.length : Int) = 0) := by omega
    have hB0' : ((B.length : Int) == 0) = false := by simpa using hB0
    go_wp2_with fail
    refine CO.mono ?_
    rintro en w6 ⟨v6, rfl, o6, hb6⟩
    have r6 := HREST5.out.keeps (Keeps.below hb6)
    have HR6 := Lib.hid (R5.keeps (Keeps.below hb6))
    have row6 := (hb6.block _ (heap_lt row5)).trans row5
    have HB6 := Lib.hid (HB5.out.trans (hb6.mono HB5.out.size))
    have HD6 := Lib.hid (HD5.out.keeps (Keeps.below hb6))
    have hs56 := hb6.size
    have hs45 := HB5.out.size
    have HA5 : Hid (∀ k, v6.ownBlock = some k → w5.heap.size ≤ k) := Lib.hid fun k e => (row_lt o6 e).1
    have H56 := Lib.hid hb6
    have HR5 := Lib.hid R5
    clear hb6 CO R5 HREST5 row6
    go_wp2_with (at_builtin; go_must (refine wpList_append_bytes byteSlice rfl _ _ rfl w5.heap.size v6 B rfl o6 a1 cap1 rest rfl r6 (by omega) hs56 ?_))
    intro v7 w7 o7 hg7
    have t67 : Touch (fun k => v6.ownBlock = some k) w6 w7 := .of_grown hg7 fun k e => e
    have h57 := H56.out.trans (t67.below (fun k e => HA5.out k e) hs56)
    have HB7 := Lib.hid (HB5.out.trans (h57.mono HB5.out.size))
    have HD7 := Lib.hid (HD5.out.keeps (Keeps.below h57))
    have HR7 := Lib.hid (HR5.out.keeps (Keeps.below h57))
    have row7 := (h57.block _ (heap_lt row5)).trans row5
    obtain ⟨BR, hBR⟩ : ∃ BR, B ++ rest = BR := ⟨_, rfl⟩
    have hrd := HRY.out rest
    rw [hBR] at o7 hrd
    obtain ⟨a7, c7, rfl, R7⟩ := o7.reads
    have RD := read_any a7 c7 BR w7 (HH.out.keeps (Keeps.below HB7.out)) R7
    have HRD := Lib.hid hrd
    have HS7 := Lib.hid h57.size
    clear hBR o6 r6 hg7 t67 h57 o7 R7 hrd row5 HB6 HD6 HR6 H56 HA5 hs56
    go_wp2_with fail
    have hz := zero_c
    have hzl : zeroC.size = 34 := by
      show (entC zeroEnt (.slice none 0 0)).toArray.size = _
      rw [List.size_toArray]; exact length_entC rfl
    have HZL := Lib.hid hzl
    clear hzl
    generalize zeroC = Z at *
    refine RD.mono ?_
    rintro en w8 hq
    obtain ⟨ax, cx, rfl, rx, fx, hb8⟩ := rd_mk HRD.out hq
    have hlX := length_entC (e := E) (dv := .slice ax E.data.length cx) HEK.out
    have HIX := Lib.hid (entry_size hlX)
    have HZX : Hid (Z.size = (entC E (.slice ax E.data.length cx)).toArray.size) := Lib.hid (by rw [HZL.out, List.size_toArray, hlX])
    have HOX := Lib.hid (all_oneCell_toArray (one_entC E ax E.data.length cx))
    have hnew := heap_alloc_new w8 (.cells Z 26)
    obtain ⟨m9, n9⟩ := made_row w8 26 Z (entC E (.slice ax E.data.length cx)).toArray
    have hb79 := hb8.trans (n9.mono hb8.size)
    have R9 := HR7.out.keeps (Keeps.below hb79)
    have RT := R9.take (B.length - 1)
    have hsl : ∀ W, (Instr.slice 24 (.slice a5 B.length c5) none (some (.int .i64 ((B.length : Int) - 1))) none).run Tryd.prog W = .ok (.slice a5 (B.take (B.length - 1)).length c5) W := fun W => by
      have hf := R9.fits
      rw [run_slice_to byteSlice W a5 B.length c5 .i64 (B.length - 1) ((B.length : Int) - 1) (by omega) (by omega), List.length_take, Nat.min_eq_left (by omega)]
    have HS9 : Hid (w.heap.size ≤ w8.heap.size) := Lib.hid (Nat.le_trans (Nat.le_trans HB7.out.size (Nat.le_refl _)) hb8.size)
    have row9 := (hb79.block _ (heap_lt row7)).trans row7
    have HB9 := Lib.hid (HB7.out.trans (hb79.mono HB7.out.size))
    have HD9 := Lib.hid (HD7.out.keeps (Keeps.below hb79))
    have HRX9 := Lib.hid (rx.keeps (Keeps.below n9))
    have HRD2 := Lib.hid HRL.out
    have hlt9 : w.heap.size < w8.heap.size := Nat.lt_of_lt_of_le (heap_lt row7) hb8.size
    clear R9 hb79 n9 rx fx RD hq row7 HR7 HD7 HRL hb8 hlX
    obtain ⟨CX, hCX⟩ : ∃ CX, entC E (.slice ax E.data.length cx) = CX := ⟨_, rfl⟩
    rw [hCX] at m9 HIX HZX HOX HB9 HRX9 HD9 RT row9 ⊢
    have HCX := Lib.hid hCX
    clear hCX
    generalize hS : B.take (B.length - 1) = S at *
    have HW9 := HH.out.keeps (Keeps.below HB9.out)
    have RD2 := read_any a5 c5 S _ HW9 RT
    clear RT hS HW9
    go_wp2_with (with_reducible refine at_store 26 ?_; go_must (refine wpList_store_row rfl 26 _ _ rfl w8.heap.size CX.toArray rfl rfl _ Z hnew HIX.out HZX.out HOX.out ?_))
    generalize (w8.alloc (.cells Z 26)).setRow w8.heap.size CX.toArray = w9 at *
    clear hnew
    refine RD2.mono ?_
    rintro en w10 hq
    obtain ⟨az, cz, rfl, rz, fz, hb10⟩ := rd_mk HRD2.out hq
    have hlY := length_entC (e := zeroEnt) (dv := .slice az zeroEnt.data.length cz) rfl
    have HIY := Lib.hid (entry_size hlY)
    have HZY : Hid (Z.size = (entC zeroEnt (.slice az zeroEnt.data.length cz)).toArray.size) := Lib.hid (by rw [HZL.out, List.size_toArray, hlY])
    have HOY := Lib.hid (all_oneCell_toArray (one_entC zeroEnt az zeroEnt.data.length cz))
    have hnew := heap_alloc_new w10 (.cells Z 26)
    obtain ⟨m11, n11⟩ := made_row w10 26 Z (entC zeroEnt (.slice az zeroEnt.data.length cz)).toArray
    have hb911 := hb10.trans (n11.mono hb10.size)
    have rowE := (hb911.block _ (heap_lt row9)).trans row9
    have rowX := (hb911.block _ (heap_lt m9)).trans m9
    have HB11 := Lib.hid (HB9.out.trans (hb911.mono HB9.out.size))
    have hd11 := HD9.out.keeps (Keeps.below hb911)
    have hx11 := HRX9.out.keeps (Keeps.below hb911)
    clear hlY hb911 n11 m11 row9 m9 rz fz hb10 hq RD2
    generalize (entC zeroEnt (.slice az zeroEnt.data.length cz)) = CY at *
    have SE := sameEntry_yes E a3 cap3 ax cx HEK.out _ hd11 hx11
    rw [HC3.out, HCX.out] at SE
    have hnB : ((sz : Int) == (B.length : Int)) = true := by rw [HLB.out]; exact beq_self_eq_true _
    clear hd11 hx11
    go_wp2_with (first
      | (with_reducible refine at_store 26 ?_; go_must (refine wpList_store_row rfl 26 _ _ rfl w10.heap.size CY.toArray rfl rfl _ Z hnew HIY.out HZY.out HOY.out ?_))
      | (with_reducible refine at_load 26 ?_; go_must (first
        | refine wpList_load_row rfl 26 _ rfl w.heap.size rfl _ C3.toArray _ _ rowE Tryd.underlying26 rfl HIE.out ?_
        | refine wpList_load_row rfl 26 _ rfl w8.heap.size rfl _ CX.toArray _ _ rowX Tryd.underlying26 rfl HIX.out ?_)))
    generalize (w10.alloc (.cells Z 26)).setRow w10.heap.size CY.toArray = w11 at *
    clear hnew rowE rowX
    refine SE.mono ?_
    rintro en w12 ⟨rfl, hb12⟩
    have hb := HB11.out.trans (hb12.mono HB11.out.size)
    have LV := lives_any w12 (HH.out.keeps (Keeps.below hb))
    go_wp2_with fail
    refine LV.mono ?_
    rintro en w13 ⟨rfl, hb13⟩
    go_wp2_with fail
    go_ret
    exact ⟨rfl, hb.trans (hb13.mono hb.size)⟩
  · have hB : enc E = [] := by unfold enc; rw [if_neg hc]
    rw [hB] at EN
    have hc0 : (chk E != 0) = true := by simpa using hc
    generalize chk E = ck at *
    go_wp2_with (with_reducible refine at_load 26 ?_; go_must (refine wpList_load_row rfl 26 _ rfl w.heap.size rfl _ C3.toArray _ _ row4 Tryd.underlying26 rfl HIE.out ?_))
    refine EN.mono ?_
    rintro en w5 ⟨v5, rfl, o5, hb5⟩
    obtain ⟨a5, c5, rfl, R5⟩ := o5.reads
    have hb := HB4.out.trans (hb5.mono HB4.out.size)
    have LV := lives_any w5 (HH.out.keeps (Keeps.below hb))
    clear EN row4 o5 hb5 R5
    go_wp2_with fail
    refine LV.mono ?_
    rintro en w13 ⟨rfl, hb13⟩
    go_wp2_with fail
    go_ret
    exact ⟨rfl, hb.trans (hb13.mono hb.size)⟩
end Go.Proofs.YtmcdjkfmfhbbnaaDoor
