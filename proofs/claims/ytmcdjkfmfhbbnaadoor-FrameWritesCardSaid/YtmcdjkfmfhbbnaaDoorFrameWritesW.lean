/- The law's walk: FrameWrites. -/
import Derived.Test.YtmcdjkfmfhbbnaaDoorFewOne
namespace Go.Proofs.YtmcdjkfmfhbbnaaDoor
open Go Go.RowKit

set_option maxHeartbeats 2000000 in
set_option maxRecDepth 40000 in
theorem frameWrites_walk (e : Ent) (a : Option Addr) (cap : Nat) (w : World) (hh : Half w) (hk : e.key.length = 32) (hr : Reads w a cap e.data) :
    Calls Tryd.prog 3 #[.agg (entC e (.slice a e.data.length cap)).toArray] w fun en w' => en = .returned (.bool true) ∧ Below w.heap.size w w' := by
  have hlC := length_entC (e := e) (dv := .slice a e.data.length cap) hk
  have hiC := entry_size hlC
  have row := heap_alloc_new w (.cells (entC e (.slice a e.data.length cap)).toArray 26)
  have hb1 := (Below.refl w.heap.size w).alloc (Nat.le_refl _) (.cells (entC e (.slice a e.data.length cap)).toArray 26)
  have hr1 := hr.keeps (Keeps.alloc w (.cells (entC e (.slice a e.data.length cap)).toArray 26))
  have LIT := fun (W : World) (h : Reads W a cap e.data) => itAt_lit W e a cap 26 hk h
  have FO := fun (g : Nat) (W : World) (h : ItAt W g 0 ⟨e, a, cap, []⟩) => few_one e a cap g 17000 W (by decide) h
  have F1 := FO _ _ (LIT _ hr1)
  rw [show (w.alloc (.cells (entC e (.slice a e.data.length cap)).toArray 26)).heap.size = w.heap.size + 1 by simp] at F1
  have hb2 := hb1.alloc hb1.size (.cells (entC e (.slice a e.data.length cap)).toArray 26)
  have row2 := (Below.heap_alloc (w.alloc (.cells (entC e (.slice a e.data.length cap)).toArray 26)) (.cells (entC e (.slice a e.data.length cap)).toArray 26) w.heap.size (by simp)).trans row
  clear FO LIT hr1
  have hone1 := one_entC e a e.data.length cap
  generalize entC e (.slice a e.data.length cap) = C at *
  obtain ⟨E, hE⟩ : ∃ E, cutE 17000 e = E := ⟨_, rfl⟩
  have hEE : cutE 17000 E = E := by rw [← hE]; exact cutE_cutE _ _
  have hEk : E.key.length = 32 := by rw [← hE]; exact hk
  have hEl : E.data.length ≤ 17000 := by rw [← hE]; show (e.data.take 17000).length ≤ 17000; rw [List.length_take]; omega
  rw [hE] at F1
  have HC := Lib.hid hlC
  have HH := Lib.hid hh
  have HEE := Lib.hid hEE
  have HEK := Lib.hid hEk
  clear hE hEE hr hk hh hlC hEk
  go_enter Tryd.func3, Tryd.ntmps3
  go_wp2_with (first
    | (with_reducible refine at_load 26 ?_; go_must (refine wpList_load_row rfl 26 _ rfl w.heap.size rfl _ C.toArray _ _ row Tryd.underlying26 rfl hiC ?_))
    | (with_reducible refine at_lit 27 ?_; go_must (refine wpList_item_lit Tryd.underlying27 entry_info ent_zsize rfl _ rfl C rfl HC.out (by decide) (by decide) ?_)))
  refine F1.mono ?_
  rintro en w3 ⟨g3, c3, a3, cap3, rfl, r3, d3, f3, hb3⟩
  have hlE := length_entC (e := E) (dv := .slice a3 E.data.length cap3) HEK.out
  have hiE := entry_size hlE
  have hiE2 : (Tryd.prog.info? 26).map (·.size) = some (entC E (.slice a3 E.data.length cap3)).length := by rw [hlE]; kernel_rfl
  have hone3 := one_entC E a3 E.data.length cap3
  have row3 := (hb3.block _ (heap_lt row2)).trans row2
  have hzC : C.toArray.size = (entC E (.slice a3 E.data.length cap3)).toArray.size := by rw [List.size_toArray, List.size_toArray, HC.out, hlE]
  have T4 : Touch (fun x => x = w.heap.size) w3 (w3.setRow w.heap.size (entC E (.slice a3 E.data.length cap3)).toArray) := Touch.setRow _ _ _ rfl
  have row4 := setRow_heap w3 w.heap.size C.toArray (entC E (.slice a3 E.data.length cap3)).toArray 26 (0, 0) row3
  have d4 := T4.reads d3 fun ad e => by
    have := f3 ad e
    have h2 : w.heap.size < ((w.alloc (.cells C.toArray 26)).alloc (.cells C.toArray 26)).heap.size := by simp; omega
    show ¬ (ad.block = w.heap.size)
    omega
  have hb23 := hb2.trans (hb3.mono hb2.size)
  have hb4 := hb23.trans (T4.below (fun x e => by have e : x = w.heap.size := e; omega) hb23.size)
  have LIT := itAt_lit _ E a3 cap3 26 HEK.out d4
  have F2 := few_one E a3 cap3 _ 17000 _ (by decide) LIT
  rw [HEE.out, show (w3.setRow w.heap.size (entC E (.slice a3 E.data.length cap3)).toArray).heap.size = w3.heap.size by simp [World.setRow]] at F2
  have hb5 := hb4.alloc hb4.size (.cells (entC E (.slice a3 E.data.length cap3)).toArray 26)
  have row5 := (Below.heap_alloc (w3.setRow w.heap.size (entC E (.slice a3 E.data.length cap3)).toArray) (.cells (entC E (.slice a3 E.data.length cap3)).toArray 26) w.heap.size (heap_lt row4)).trans row4
  have d5 := d4.keeps (Keeps.alloc _ (.cells (entC E (.slice a3 E.data.length cap3)).toArray 26))
  have HLE := Lib.hid hlE
  clear LIT hb23 hb3 T4 d4 f3 d3 F1 hb1 hb2 hlE
  generalize hC3e : entC E (.slice a3 E.data.length cap3) = C3 at *
  have HC3 := Lib.hid hC3e
  clear hC3e
  have HZC := Lib.hid hzC
  have HIE := Lib.hid hiE
  have D5 := Lib.hid d5
  have HB5 := Lib.hid hb5
  have ROW5 := Lib.hid row5
  have F6 := Lib.hid F2
  have HO3 := Lib.hid hone3
  clear hzC d5 hb5 row5 F2 hone3 hiC hone1 hb4
  go_wp2_with (first
    | (with_reducible refine at_load 26 ?_; go_must (first
        | refine wpList_load_mid rfl 26 _ rfl g3 0 rfl C3 _ r3 Tryd.underlying26 rfl hiE2 ?_
        | refine wpList_load_row rfl 26 _ rfl w.heap.size rfl _ C3.toArray _ _ row4 Tryd.underlying26 rfl HIE.out ?_))
    | (with_reducible refine at_store 26 ?_; go_must (refine wpList_store_row rfl 26 _ _ rfl w.heap.size C3.toArray rfl rfl _ C.toArray row3 HIE.out HZC.out (all_oneCell_toArray HO3.out) ?_))
    | (with_reducible refine at_lit 27 ?_; go_must (refine wpList_item_lit Tryd.underlying27 entry_info ent_zsize rfl _ rfl C3 rfl HLE.out (by decide) (by decide) ?_)))
  refine F6.out.mono ?_
  rintro en w6 ⟨g6, c6, a6, cap6, rfl, r6, d6, f6, hb6⟩
  have hlE6 := length_entC (e := E) (dv := .slice a6 E.data.length cap6) HEK.out
  have hiE6 := entry_size hlE6
  have hiE6b : (Tryd.prog.info? 26).map (·.size) = some (entC E (.slice a6 E.data.length cap6)).length := by rw [hlE6]; kernel_rfl
  have ho6 := all_oneCell_toArray (one_entC E a6 E.data.length cap6)
  have hz := zero_ent
  have hzs : (entC zeroEnt (.slice none 0 0)).toArray.size = (entC E (.slice a6 E.data.length cap6)).toArray.size := by rw [List.size_toArray, List.size_toArray, hlE6]; exact length_entC rfl
  have hnew := heap_alloc_new w6 (.cells (entC zeroEnt (.slice none 0 0)).toArray 26)
  obtain ⟨m7, n7⟩ := made_row w6 26 (entC zeroEnt (.slice none 0 0)).toArray (entC E (.slice a6 E.data.length cap6)).toArray
  have hb56 := HB5.out.trans (hb6.mono HB5.out.size)
  have hb7 := hb56.trans (n7.mono hb56.size)
  have h67 := hb6.trans (n7.mono hb6.size)
  have row7 := (h67.block _ (heap_lt ROW5.out)).trans ROW5.out
  have d7 := d6.keeps (Keeps.below n7)
  have d37 := D5.out.keeps (Keeps.below h67)
  have EN1 := encode_any E a6 cap6 HEK.out (by omega) _ (HH.out.keeps (Keeps.below hb7)) d7
  have EN2 := fun (W : World) (h : Reads W a3 cap3 E.data) => rencode_any E a3 cap3 HEK.out (by omega) W h
  have SZ := fun (W : World) => size_any E a6 cap6 HEK.out (by omega) W
  have SE := fun (W : World) (h1 : Reads W a6 cap6 E.data) (h2 : Reads W a3 cap3 E.data) => sameEntry_yes E a6 cap6 a3 cap3 HEK.out W h1 h2
  rw [HC3.out] at EN2 SE
  have HLL := Lib.hid (length_enc (e := E) HEK.out)
  have HB7 := Lib.hid hb7
  have HIE6 := Lib.hid hiE6
  have HO6 := Lib.hid ho6
  have HZS := Lib.hid hzs
  have HSE := Lib.hid SE
  have HSZ := Lib.hid SZ
  have HEN2 := Lib.hid EN2
  have HD7 := Lib.hid d7
  have HD37 := Lib.hid d37
  clear hiE6 ho6 hzs hb56 hb7 h67 d7 d37 n7 d6 f6 hb6 SE SZ EN2 hlE6 row row2 row3 row4 r3 hiE2 F6 HZC HO3 HC3 D5 HB5 ROW5 HC
  generalize entC E (.slice a6 E.data.length cap6) = C6 at *
  generalize (entC zeroEnt (.slice none 0 0)).toArray = Z at *
  go_wp2_with (first
    | (with_reducible refine at_load 26 ?_; go_must (first
        | refine wpList_load_mid rfl 26 _ rfl g6 0 rfl C6 _ r6 Tryd.underlying26 rfl hiE6b ?_
        | refine wpList_load_row rfl 26 _ rfl w6.heap.size rfl _ C6.toArray _ _ m7 Tryd.underlying26 rfl HIE6.out ?_))
    | (with_reducible refine at_store 26 ?_; go_must (refine wpList_store_row rfl 26 _ _ rfl w6.heap.size C6.toArray rfl rfl _ Z hnew HIE6.out HZS.out HO6.out ?_)))
  generalize (w6.alloc (.cells Z 26)).setRow w6.heap.size C6.toArray = w7 at *
  refine EN1.mono ?_
  rintro en w8 ⟨v8, rfl, o8, hb8⟩
  have row8 := (hb8.block _ (heap_lt row7)).trans row7
  have m8 := (hb8.block _ (heap_lt m7)).trans m7
  have HB8 := Lib.hid (HB7.out.trans (hb8.mono HB7.out.size))
  have HD8 := Lib.hid (HD7.out.keeps (Keeps.below hb8))
  have HD38 := Lib.hid (HD37.out.keeps (Keeps.below hb8))
  clear EN1 hb8 row7 m7 hnew r6 hiE6b HB7 HD7 HD37 hz
  obtain ⟨a8, c8, rfl, R8⟩ := o8.reads
  have HR8 := Lib.hid R8
  clear o8 R8
  generalize hc : chk E = ce at *
  go_wp2_with (with_reducible refine at_load 26 ?_; go_must (refine wpList_load_row rfl 26 _ rfl w.heap.size rfl _ C3.toArray _ _ row8 Tryd.underlying26 rfl HIE.out ?_))
  refine (HEN2.out w8 HD38.out).mono ?_
  rintro en w9 ⟨v9, rfl, o9, hb9⟩
  have row9 := (hb9.block _ (heap_lt row8)).trans row8
  have m9 := (hb9.block _ (heap_lt m8)).trans m8
  have HB9 := Lib.hid (HB8.out.trans (hb9.mono HB8.out.size))
  have HD9 := Lib.hid (HD8.out.keeps (Keeps.below hb9))
  have HD39 := Lib.hid (HD38.out.keeps (Keeps.below hb9))
  have HR9 := HR8.out.keeps (Keeps.below hb9)
  clear hb9 row8 m8 HB8 HD8 HD38 HR8
  obtain ⟨a9, c9, rfl, R9⟩ := o9.reads
  have SA := same_any a8 a9 c8 c9 (enc E) (enc E) w9 HR9 R9
  rw [beq_self_eq_true] at SA
  rw [HLL.out] at SA ⊢
  rw [hc]
  clear o9 R9 HR9 hc
  go_wp2_with fail
  refine SA.mono ?_
  rintro en w' ⟨n9, rfl, rfl⟩
  have td : Touch (fun _ => False) w9 (w9.drewN n9) := (Touch.refl _ _).drewN n9
  have row10 := (td.block _ (heap_lt row9) id).trans row9
  have m10 := (td.block _ (heap_lt m9) id).trans m9
  have hb10 := below_drewN HB9.out n9
  have hd10 := Lib.hid (HD9.out.keeps (Keeps.drewN w9 n9))
  have hd310 := Lib.hid (HD39.out.keeps (Keeps.drewN w9 n9))
  have hcc : (ce == ce) = true := beq_self_eq_true _
  clear td row9 m9 HB9 HD9 HD39 SA
  generalize w9.drewN n9 = w10 at *
  have HB10 := Lib.hid hb10
  clear hb10
  go_wp2_with (with_reducible refine at_load 26 ?_; go_must (refine wpList_load_row_g rfl 26 _ rfl w6.heap.size rfl _ C6.toArray _ _ m10 Tryd.underlying26 rfl HIE6.out ?_))
  refine (HSZ.out w10).mono ?_
  rintro en w11 ⟨rfl, hb11⟩
  have row11 := (hb11.block _ (heap_lt row10)).trans row10
  have m11 := (hb11.block _ (heap_lt m10)).trans m10
  have hss : ((size E : Int) == (size E : Int)) = true := beq_self_eq_true _
  have SE11 := HSE.out w11 (hd10.out.keeps (Keeps.below hb11)) (hd310.out.keeps (Keeps.below hb11))
  have HB11 := Lib.hid (HB10.out.trans (hb11.mono HB10.out.size))
  have LV := fun (W : World) (h : Below w11.heap.size w11 W) => lives_any W (HH.out.keeps (Keeps.below (HB11.out.trans (h.mono HB11.out.size))))
  clear row10 m10 hb11 hd10 hd310 HSE HSZ
  generalize size E = sz at *
  go_wp2_with (with_reducible refine at_load 26 ?_; go_must (first
    | refine wpList_load_row_g rfl 26 _ rfl w6.heap.size rfl _ C6.toArray _ _ m11 Tryd.underlying26 rfl HIE6.out ?_
    | refine wpList_load_row_g rfl 26 _ rfl w.heap.size rfl _ C3.toArray _ _ row11 Tryd.underlying26 rfl HIE.out ?_))
  refine SE11.mono ?_
  rintro en w12 ⟨rfl, hb12⟩
  go_wp2_with fail
  refine (LV w12 hb12).mono ?_
  rintro en w13 ⟨rfl, hb13⟩
  go_wp2_with fail
  go_ret
  have q12 := HB11.out.trans (hb12.mono HB11.out.size)
  exact ⟨rfl, q12.trans (hb13.mono q12.size)⟩
end Go.Proofs.YtmcdjkfmfhbbnaaDoor
