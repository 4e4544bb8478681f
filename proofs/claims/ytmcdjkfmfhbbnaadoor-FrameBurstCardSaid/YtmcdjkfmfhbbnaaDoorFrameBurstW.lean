/- The law's walk: FrameBurst. -/
import Derived.Test.YtmcdjkfmfhbbnaaDoorFrameReadsW
import Derived.Test.YtmcdjkfmfhbbnaaDoorFrameBackW
import Derived.Test.YtmcdjkfmfhbbnaaDoorBurst
namespace Go.Proofs.YtmcdjkfmfhbbnaaDoor
open Go Go.RowKit

theorem encode_at {E : Ent} {B : List (BitVec 8)} (hB : enc E = B) (a : Option Addr) (cap : Nat) (hk : E.key.length = 32) (hl : E.data.length ≤ 1048576) (w : World) (hh : Half w) (hr : Reads w a cap E.data) :
    Calls Tryd.prog 12 #[.agg (entC E (.slice a E.data.length cap)).toArray] w fun en w' =>
      ∃ v, en = .returned (.tuple #[v, .int .i64 (chk E)]) ∧ Owns w' w.heap.size 5 v B ∧ Below w.heap.size w w' := by
  subst hB
  exact encode_any E a cap hk hl w hh hr
set_option maxHeartbeats 4000000 in
set_option maxRecDepth 40000 in
theorem frameBurst_walk (e : Ent) (a : Option Addr) (cap : Nat) (at_ span : Int) (pat : BitVec 32) (w : World) (hh : Half w) (hk : e.key.length = 32) (hr : Reads w a cap e.data)
    (_h1 : -9223372036854775808 ≤ at_ ∧ at_ ≤ 9223372036854775807) (_h2 : -9223372036854775808 ≤ span ∧ span ≤ 9223372036854775807) :
    Calls Tryd.prog 6 #[.agg (entC e (.slice a e.data.length cap)).toArray, .int .i64 at_, .int .i64 span, U32 pat] w fun en w' => en = .returned (.bool true) ∧ Below w.heap.size w w' := by
  have hlC := length_entC (e := e) (dv := .slice a e.data.length cap) hk
  have hiC := entry_size hlC
  have row := heap_alloc_new w (.cells (entC e (.slice a e.data.length cap)).toArray 26)
  have hb1 := (Below.refl w.heap.size w).alloc (Nat.le_refl _) (.cells (entC e (.slice a e.data.length cap)).toArray 26)
  have hr1 := hr.keeps (Keeps.alloc w (.cells (entC e (.slice a e.data.length cap)).toArray 26))
  have LIT := fun (W : World) (h : Reads W a cap e.data) => itAt_lit W e a cap 26 hk h
  have FO := fun (g : Nat) (W : World) (h : ItAt W g 0 ⟨e, a, cap, []⟩) => few_one e a cap g 300 W (by decide) h
  have F1 := FO _ _ (LIT _ hr1)
  rw [show (w.alloc (.cells (entC e (.slice a e.data.length cap)).toArray 26)).heap.size = w.heap.size + 1 by simp] at F1
  have hb2 := hb1.alloc hb1.size (.cells (entC e (.slice a e.data.length cap)).toArray 26)
  have row2 := (Below.heap_alloc (w.alloc (.cells (entC e (.slice a e.data.length cap)).toArray 26)) (.cells (entC e (.slice a e.data.length cap)).toArray 26) w.heap.size (by simp)).trans row
  clear FO LIT hr1
  generalize entC e (.slice a e.data.length cap) = C at *
  obtain ⟨E, hE⟩ : ∃ E, cutE 300 e = E := ⟨_, rfl⟩
  have hEk : E.key.length = 32 := by rw [← hE]; exact hk
  have hEl : E.data.length ≤ 300 := by rw [← hE]; show (e.data.take 300).length ≤ 300; rw [List.length_take]; omega
  rw [hE] at F1
  have HC := Lib.hid hlC
  have HH := Lib.hid hh
  have HEK := Lib.hid hEk
  clear hE hr hk hh hlC hEk
  go_enter Tryd.func6, Tryd.ntmps6
  go_wp2_with (first
    | (with_reducible refine at_load 26 ?_; go_must (refine wpList_load_row rfl 26 _ rfl w.heap.size rfl _ C.toArray _ _ row Tryd.underlying26 rfl hiC ?_))
    | (with_reducible refine at_lit 27 ?_; go_must (refine wpList_item_lit Tryd.underlying27 entry_info ent_zsize rfl _ rfl C rfl HC.out (by decide) (by decide) ?_)))
  refine F1.mono ?_
  rintro en w3 ⟨g3, c3, a3, cap3, rfl, r3, d3, f3, hb3⟩
  have hlE := length_entC (e := E) (dv := .slice a3 E.data.length cap3) HEK.out
  have hiE := entry_size hlE
  have hiE2 : (Tryd.prog.info? 26).map (·.size) = some (entC E (.slice a3 E.data.length cap3)).length := by rw [hlE]; kernel_rfl
  have hone3 := one_entC E a3 E.data.length cap3
  have row3 := (hb3.block _ (heap_lt row2)).trans row2
  have hzC : C.toArray.size = (entC E (.slice a3 E.data.length cap3)).toArray.size := by rw [List.size_toArray, List.size_toArray, HC.out, hlE]
  have T4 : Touch (fun x => x = w.heap.size) w3 (w3.setRow w.heap.size (entC E (.slice a3 E.data.length cap3)).toArray) := Touch.setRow _ _ _ rfl
  have row4 := setRow_heap w3 w.heap.size C.toArray (entC E (.slice a3 E.data.length cap3)).toArray 26 (0, 0) row3
  have d4 := T4.reads d3 fun ad e => by
    have := f3 ad e
    have h2 : w.heap.size < ((w.alloc (.cells C.toArray 26)).alloc (.cells C.toArray 26)).heap.size := by simp; omega
    show ¬ (ad.block = w.heap.size)
    omega
  have hb23 := hb2.trans (hb3.mono hb2.size)
  have hb4 := hb23.trans (T4.below (fun x e => by have e : x = w.heap.size := e; omega) hb23.size)
  have HD4 := Lib.hid d4
  have HB4 := Lib.hid hb4
  have HROW4 := Lib.hid row4
  clear hb23 hb3 T4 d4 hb4 f3 d3 F1 hb1 hb2 hlE row2 row hiC
  generalize hC3e : entC E (.slice a3 E.data.length cap3) = C3 at *
  have HC3 := Lib.hid hC3e
  clear hC3e
  have HZC := Lib.hid hzC
  have HIE := Lib.hid hiE
  have HO3 := Lib.hid (all_oneCell_toArray hone3)
  have HIE2 := Lib.hid hiE2
  clear hzC hone3 hiE
  obtain ⟨B, hB⟩ : ∃ B, enc E = B := ⟨_, rfl⟩
  have EN := encode_at hB a3 cap3 HEK.out (by omega) _ (HH.out.keeps (Keeps.below HB4.out)) HD4.out
  rw [HC3.out] at EN
  have HBE := Lib.hid hB
  clear hB
  by_cases hc : chk E = 0
  · have hlB : B.length = size E := by rw [← HBE.out]; exact length_enc HEK.out
    have hBB : B = encB E := by rw [← HBE.out]; unfold enc; rw [if_pos hc]
    have hn9 : 9 ≤ B.length := by rw [hlB]; exact (parts E HEK.out hc).size9
    have hnM : B.length ≤ 16425 := by rw [hlB]; exact size_le E
    have RB := rd_burst E HEK.out hc
    rw [← hBB] at RB
    have HRB := Lib.hid RB
    have hc0 : (chk E != 0) = false := by simpa using hc
    clear RB hBB hlB hc HBE hEl
    generalize chk E = ck at *
    have hhB := fun (W : World) (hb : Below w.heap.size w W) => HH.out.keeps (Keeps.below hb)
    go_wp2_with (first
      | (with_reducible refine at_load 26 ?_; go_must (first
        | refine wpList_load_mid rfl 26 _ rfl g3 0 rfl C3 _ r3 Tryd.underlying26 rfl hiE2 ?_
        | refine wpList_load_row rfl 26 _ rfl w.heap.size rfl _ C3.toArray _ _ row4 Tryd.underlying26 rfl HIE.out ?_))
      | (with_reducible refine at_store 26 ?_; go_must (refine wpList_store_row rfl 26 _ _ rfl w.heap.size C3.toArray rfl rfl _ C.toArray row3 HIE.out HZC.out HO3.out ?_)))
    have HHB := Lib.hid hhB
    clear hhB
    refine EN.mono ?_
    rintro en w5 ⟨v5, rfl, o5, hb5⟩
    have hb := HB4.out.trans (hb5.mono HB4.out.size)
    have LV := lives_any w5 (HHB.out _ hb)
    have hs4 := HB4.out.size
    obtain ⟨g, c5, rfl, hrow, hg1, hg2⟩ := o5.row (by omega)
    have HG := Lib.hid (Nat.le_trans hs4 hg1)
    clear EN row4 o5 hb5 row3 r3 hiE2 hs4
    generalize (w3.setRow w.heap.size C3.toArray).heap.size = G at *
    go_wp2_with fail
    refine (within_any _ _ _ _).mono ?_
    rintro e w' ⟨rfl, rfl⟩
    obtain ⟨n, en, hn1, hn2⟩ := within_span span
    rw [en]; clear en
    have hn9' : ¬ ((B.length : Int) < 9) := by omega
    by_cases h9 : (B.length : Int) = 9
    · have h9' : ((B.length : Int) == 9) = true := by simpa using h9
      clear hrow
      go_wp2_with fail
      refine (within_any _ _ _ _).mono ?_
      rintro e w' ⟨rfl, rfl⟩
      generalize within at_ 72 (8 * (B.length : Int) - 1) = q
      go_wp2_with fail
      refine LV.mono ?_
      rintro en w13 ⟨rfl, hb13⟩
      go_wp2_with fail
      go_ret
      exact ⟨rfl, hb.trans (hb13.mono hb.size)⟩
    · have h9' : ((B.length : Int) == 9) = false := by simpa using h9
      obtain ⟨p, ep, hp72, hp⟩ := within_at72 at_ (8 * (B.length : Int) - 1) (by omega)
      have hp8 : p < 8 * B.length := by omega
      have hq : (pat ||| 1#32).getLsbD 0 = true := by simp
      have HEP := Lib.hid ep
      clear LV ep hp
      go_wp2_with fail
      refine (within_any _ _ _ _).mono ?_
      rintro e w' ⟨rfl, rfl⟩
      rw [HEP.out]
      generalize pat ||| 1#32 = q at *
      have HQ := Lib.hid hq
      have HB5 := Lib.hid hb
      clear hq hb HEP HIE HZC HO3 HROW4 HB4 HD4 HIE2
      go_wp2_with fail
      go_loopw [11] (fun i wr => ∃ k : Nat, k ≤ min n (8 * B.length - p) ∧ i = .int .i64 k ∧ RowAt wr G 5 g c5 B.length (burstTo B p q k) ∧ Below w.heap.size w wr) (fun i _ => 32 - (intOf i).toNat)
      case atStart => exact ⟨0, Nat.zero_le _, rfl, hrow, HB5.out⟩
      case round =>
        clear hrow
        obtain ⟨k, hk, rfl, hrk, hbk⟩ := hrel
        have hg1w : w.heap.size ≤ g := HG.out
        by_cases hkn : k < n
        · by_cases hkp : k < 8 * B.length - p
          · have hkp' : (k : Int) < 8 * (B.length : Int) - (p : Int) := by omega
            cases ht : (q >>> k &&& 1#32 == 1#32)
            · have hs := burst_off (m := B) (p := p) ht
              have HS := Lib.hid hs; clear hs
              go_wp2
              go_roundw
              case rel => exact ⟨k + 1, by omega, by go_num, by rw [HS.out]; exact hrk, hbk⟩
              case measure => simp [intOf]; omega
            · have hs := burst_on (m := B) (p := p) ht
              have HS := Lib.hid hs; clear hs
              have hj : (p + k) / 8 < B.length := by omega
              have hc := hrk.cell ((p + k) / 8) hj
              have hf := hrk.thawed ((p + k) / 8)
              go_wp2
              go_roundw
              case rel => exact ⟨k + 1, by omega, by go_num, by rw [HS.out]; exact hrk.set _ _, hbk.setCell hg1w _⟩
              case measure => simp [intOf]; omega
          · have hkp' : ¬ (k : Int) < 8 * (B.length : Int) - (p : Int) := by omega
            have RB := HRB.out p n k q HQ.out hp72 hp8 hn1 hn2 (by omega)
            have RD := read_at (burstTo B p q k) wr (burstTo_length _ _ _ _) (HHB.out _ hbk) hrk.reads
            have hz := zero_c
            have hbZ : Program.built Tryd.prog 26 [] = some zeroC := by kernel_rfl
            have hzl : zeroC.size = 34 := by
              show (entC zeroEnt (.slice none 0 0)).toArray.size = _
              rw [List.size_toArray]; exact length_entC rfl
            have SE0 : ∀ az cz W, Reads W az cz zeroEnt.data → Calls Tryd.prog 16 #[.agg (entC zeroEnt (.slice az zeroEnt.data.length cz)).toArray, .agg zeroC] W fun en w' => en = .returned (.bool true) ∧ Below W.heap.size W w' := fun az cz W h => sameEntry_yes zeroEnt az cz none 0 rfl W h (reads_nil W)
            have HZL := Lib.hid hzl
            have HRD := Lib.hid RB
            have HBK := Lib.hid hbk
            have HSE := Lib.hid SE0
            clear hzl RB hbk SE0 hrk
            generalize zeroC = Z at *
            generalize burstTo B p q k = S at *
            go_wp2_with fail
            refine RD.mono ?_
            rintro en w10 hq
            obtain ⟨az, cz, rfl, rz, fz, hb10⟩ := rd_mk HRD.out hq
            have hlY := length_entC (e := zeroEnt) (dv := .slice az zeroEnt.data.length cz) rfl
            have HIY := Lib.hid (entry_size hlY)
            have HZY : Hid (Z.size = (entC zeroEnt (.slice az zeroEnt.data.length cz)).toArray.size) := Lib.hid (by rw [HZL.out, List.size_toArray, hlY])
            have HOY := Lib.hid (all_oneCell_toArray (one_entC zeroEnt az zeroEnt.data.length cz))
            have hnew := heap_alloc_new w10 (.cells Z 26)
            obtain ⟨m11, n11⟩ := made_row w10 26 Z (entC zeroEnt (.slice az zeroEnt.data.length cz)).toArray
            have hb911 := hb10.trans (n11.mono hb10.size)
            have HB11 := Lib.hid (HBK.out.trans (hb911.mono HBK.out.size))
            have SE := HSE.out az cz _ (rz.keeps (Keeps.below n11))
            clear hlY hb911 n11 rz fz hb10 hq RD
            generalize (entC zeroEnt (.slice az zeroEnt.data.length cz)) = CY at *
            go_wp2_with (first
              | (with_reducible refine at_build 26 ?_; go_must (refine wpList_built_g rfl 26 _ rfl Z (by simpa using hbZ) ?_))
              | (with_reducible refine at_store 26 ?_; go_must (refine wpList_store_row rfl 26 _ _ rfl w10.heap.size CY.toArray rfl rfl _ Z hnew HIY.out HZY.out HOY.out ?_))
              | (with_reducible refine at_load 26 ?_; go_must (refine wpList_load_row_g rfl 26 _ rfl w10.heap.size rfl _ CY.toArray _ _ m11 Tryd.underlying26 rfl HIY.out ?_)))
            generalize (w10.alloc (.cells Z 26)).setRow w10.heap.size CY.toArray = w11 at *
            clear hnew m11 hz
            refine SE.mono ?_
            rintro en w12 ⟨rfl, hb12⟩
            have hb := HB11.out.trans (hb12.mono HB11.out.size)
            have LV := lives_any w12 (HHB.out _ hb)
            go_wp2_with fail
            refine LV.mono ?_
            rintro en w13 ⟨rfl, hb13⟩
            go_wp2_with fail
            go_ret
            exact ⟨rfl, hb.trans (hb13.mono hb.size)⟩
        · have hkn' : ¬ (k : Int) < (n : Int) := by omega
          have RB := HRB.out p n k q HQ.out hp72 hp8 hn1 hn2 (by omega)
          have RD := read_at (burstTo B p q k) wr (burstTo_length _ _ _ _) (HHB.out _ hbk) hrk.reads
          have hz := zero_c
          have hbZ : Program.built Tryd.prog 26 [] = some zeroC := by kernel_rfl
          have hzl : zeroC.size = 34 := by
            show (entC zeroEnt (.slice none 0 0)).toArray.size = _
            rw [List.size_toArray]; exact length_entC rfl
          have SE0 : ∀ az cz W, Reads W az cz zeroEnt.data → Calls Tryd.prog 16 #[.agg (entC zeroEnt (.slice az zeroEnt.data.length cz)).toArray, .agg zeroC] W fun en w' => en = .returned (.bool true) ∧ Below W.heap.size W w' := fun az cz W h => sameEntry_yes zeroEnt az cz none 0 rfl W h (reads_nil W)
          have HZL := Lib.hid hzl
          have HRD := Lib.hid RB
          have HBK := Lib.hid hbk
          have HSE := Lib.hid SE0
          clear hzl RB hbk SE0 hrk
          generalize zeroC = Z at *
          generalize burstTo B p q k = S at *
          go_wp2_with fail
          refine RD.mono ?_
          rintro en w10 hq
          obtain ⟨az, cz, rfl, rz, fz, hb10⟩ := rd_mk HRD.out hq
          have hlY := length_entC (e := zeroEnt) (dv := .slice az zeroEnt.data.length cz) rfl
          have HIY := Lib.hid (entry_size hlY)
          have HZY : Hid (Z.size = (entC zeroEnt (.slice az zeroEnt.data.length cz)).toArray.size) := Lib.hid (by rw [HZL.out, List.size_toArray, hlY])
          have HOY := Lib.hid (all_oneCell_toArray (one_entC zeroEnt az zeroEnt.data.length cz))
          have hnew := heap_alloc_new w10 (.cells Z 26)
          obtain ⟨m11, n11⟩ := made_row w10 26 Z (entC zeroEnt (.slice az zeroEnt.data.length cz)).toArray
          have hb911 := hb10.trans (n11.mono hb10.size)
          have HB11 := Lib.hid (HBK.out.trans (hb911.mono HBK.out.size))
          have SE := HSE.out az cz _ (rz.keeps (Keeps.below n11))
          clear hlY hb911 n11 rz fz hb10 hq RD
          generalize (entC zeroEnt (.slice az zeroEnt.data.length cz)) = CY at *
          go_wp2_with (first
            | (with_reducible refine at_build 26 ?_; go_must (refine wpList_built_g rfl 26 _ rfl Z (by simpa using hbZ) ?_))
            | (with_reducible refine at_store 26 ?_; go_must (refine wpList_store_row rfl 26 _ _ rfl w10.heap.size CY.toArray rfl rfl _ Z hnew HIY.out HZY.out HOY.out ?_))
            | (with_reducible refine at_load 26 ?_; go_must (refine wpList_load_row_g rfl 26 _ rfl w10.heap.size rfl _ CY.toArray _ _ m11 Tryd.underlying26 rfl HIY.out ?_)))
          generalize (w10.alloc (.cells Z 26)).setRow w10.heap.size CY.toArray = w11 at *
          clear hnew m11 hz
          refine SE.mono ?_
          rintro en w12 ⟨rfl, hb12⟩
          have hb := HB11.out.trans (hb12.mono HB11.out.size)
          have LV := lives_any w12 (HHB.out _ hb)
          go_wp2_with fail
          refine LV.mono ?_
          rintro en w13 ⟨rfl, hb13⟩
          go_wp2_with fail
          go_ret
          exact ⟨rfl, hb.trans (hb13.mono hb.size)⟩
  · have hc0 : (chk E != 0) = true := by simpa using hc
    generalize chk E = ck at *
    go_wp2_with (first
      | (with_reducible refine at_load 26 ?_; go_must (first
        | refine wpList_load_mid rfl 26 _ rfl g3 0 rfl C3 _ r3 Tryd.underlying26 rfl hiE2 ?_
        | refine wpList_load_row rfl 26 _ rfl w.heap.size rfl _ C3.toArray _ _ row4 Tryd.underlying26 rfl HIE.out ?_))
      | (with_reducible refine at_store 26 ?_; go_must (refine wpList_store_row rfl 26 _ _ rfl w.heap.size C3.toArray rfl rfl _ C.toArray row3 HIE.out HZC.out HO3.out ?_)))
    refine EN.mono ?_
    rintro en w5 ⟨v5, rfl, o5, hb5⟩
    have hb := HB4.out.trans (hb5.mono HB4.out.size)
    have LV := lives_any w5 (HH.out.keeps (Keeps.below hb))
    clear EN row4 o5 hb5
    go_wp2_with fail
    refine LV.mono ?_
    rintro en w13 ⟨rfl, hb13⟩
    go_wp2_with fail
    go_ret
    exact ⟨rfl, hb.trans (hb13.mono hb.size)⟩
end Go.Proofs.YtmcdjkfmfhbbnaaDoor
