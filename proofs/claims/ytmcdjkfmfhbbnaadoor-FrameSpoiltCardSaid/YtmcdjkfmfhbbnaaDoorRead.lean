/- Read. -/
import Derived.Test.YtmcdjkfmfhbbnaaDoorRdParts
import Derived.Test.YtmcdjkfmfhbbnaaDoorFewOne
namespace Go.Proofs.YtmcdjkfmfhbbnaaDoor
open Go Go.RowKit

/-- What stands behind a Read. -/
def RdPost (w : World) (l : List (BitVec 8)) (en : Ending) (w' : World) : Prop :=
  ∃ a cap, en = .returned (.tuple #[.agg (entC (rd l).ent (.slice a (rd l).ent.data.length cap)).toArray, .int .i64 (rd l).n, .int .i64 (rd l).err]) ∧ Reads w' a cap (rd l).ent.data ∧ (∀ ad, a = some ad → w.heap.size ≤ ad.block ∧ ad.block < w'.heap.size) ∧ Below w.heap.size w w'
def zeroC : Array Value := (entC zeroEnt (.slice none 0 0)).toArray
theorem rd_err {w w' : World} {l : List (BitVec 8)} {e : Int} (h : rd l = rdErr e) (hb : Below w.heap.size w w') : RdPost w l (.returned (.tuple #[.agg zeroC, .int .i64 0, .int .i64 e])) w' := by
  unfold RdPost
  rw [h]
  exact ⟨none, 0, rfl, reads_nil _, (by intro ad e; cases e), hb⟩
theorem built_zero : Program.built Tryd.prog 26 [] = some zeroC := by kernel_rfl
theorem built_tag (x : Int) : Program.built Tryd.prog 26 [(0, .int .i64 x)] = some (entC ⟨x, zeroKey, []⟩ (.slice none 0 0)).toArray := by kernel_rfl
theorem zero_c (w : World) : Sem.run Tryd.prog (zeroValue 26) w = .ok (.agg zeroC) w := zero_ent w
theorem dropAddr_some {b off cap n : Nat} (h : cap ≠ n) : dropAddr (some ⟨b, off, none⟩) cap n = some ⟨b, off + n, none⟩ := by
  unfold dropAddr
  rw [if_neg h, Option.map_some, Addr.add_lit]
/-- What Read's tests find. -/
theorem rd_short {l : List (BitVec 8)} (h : l.length < 9) : rd l = rdErr 3 := by unfold rd; rw [if_pos h]
theorem rd_form {l : List (BitVec 8)} (h : ¬ l.length < 9) (hf : fits (byteAt l 8).toNat (numAt l 4) = false) : rd l = rdErr 4 := by unfold rd; rw [if_neg h, if_pos hf]
theorem rd_cut {l : List (BitVec 8)} (h : ¬ l.length < 9) (hf : fits (byteAt l 8).toNat (numAt l 4) = true) (hn : l.length < numAt l 4) : rd l = rdErr 3 := by
  unfold rd; rw [if_neg h, if_neg (by rw [hf]; decide), if_pos hn]
theorem rd_sum {l : List (BitVec 8)} (h : ¬ l.length < 9) (hf : fits (byteAt l 8).toNat (numAt l 4) = true) (hn : ¬ l.length < numAt l 4) (hs : ¬ (CrcMath.sum ((l.take (numAt l 4)).drop 4)).toNat = numAt l 0) : rd l = rdErr 13 := by
  unfold rd; rw [if_neg h, if_neg (by rw [hf]; decide), if_neg hn, if_neg hs]
theorem rd_yes {l : List (BitVec 8)} (h : ¬ l.length < 9) (hf : fits (byteAt l 8).toNat (numAt l 4) = true) (hn : ¬ l.length < numAt l 4) (hs : (CrcMath.sum ((l.take (numAt l 4)).drop 4)).toNat = numAt l 0) : rd l = ⟨entOf l (numAt l 4), numAt l 4, 0⟩ := by
  unfold rd; rw [if_neg h, if_neg (by rw [hf]; decide), if_neg hn, if_pos hs]
set_option maxHeartbeats 4000000 in
set_option maxRecDepth 40000 in
theorem read_any (a : Option Addr) (cap : Nat) (l : List (BitVec 8)) (w : World) (hh : Half w) (hr : Reads w a cap l) :
    Calls Tryd.prog 20 #[.slice a l.length cap] w (RdPost w l) := by
  have hz := zero_c
  have hbz := built_zero
  have hlz : (entC zeroEnt (.slice none 0 0)).length = 34 := length_entC rfl
  have hiZ : (Tryd.prog.info? 26).map (·.size) = some zeroC.size := entry_size hlz
  have hoZ : zeroC.all (·.oneCell') = true := all_oneCell_toArray (one_entC zeroEnt none 0 0)
  have row1 := heap_alloc_new w (.cells zeroC 26)
  have hb1 := (Below.refl w.heap.size w).alloc (Nat.le_refl _) (.cells zeroC 26)
  have T2 : Touch (fun x => x = w.heap.size) (w.alloc (.cells zeroC 26)) ((w.alloc (.cells zeroC 26)).setRow w.heap.size zeroC) := Touch.setRow _ _ _ rfl
  have row2 := setRow_heap (w.alloc (.cells zeroC 26)) w.heap.size zeroC zeroC 26 (0, 0) row1
  have hb2 := hb1.trans (T2.below (fun x e => by have e : x = w.heap.size := e; omega) hb1.size)
  have hfit := hr.fits
  have hroom := hr.room
  have ERR := Lib.hid (fun (e : Int) (h : rd l = rdErr e) => rd_err h hb2)
  have hsz1 : (w.alloc (.cells zeroC 26)).heap.size = w.heap.size + 1 := by simp
  by_cases h9 : l.length < 9
  · have HE := Lib.hid (ERR.out 3 (rd_short h9))
    have h9' : (l.length : Int) < 9 := by omega
    clear hr hh h9 T2 hb1 hb2 ERR
    generalize zeroC = Z at *
    go_enter Tryd.func20, Tryd.ntmps20
    go_wp2_with (first
      | (with_reducible refine at_build 26 ?_; go_must (refine wpList_built' rfl 26 _ rfl Z (by go_simp) ?_))
      | (with_reducible refine at_store 26 ?_; go_must (refine wpList_store_row rfl 26 _ _ rfl w.heap.size Z rfl rfl _ Z row1 hiZ rfl hoZ ?_)))
    refine bodyPost_ret (results_cell3 rfl _ _ w.heap.size _ Z _ _ rfl row2 Tryd.underlying26 rfl hiZ) rfl ?_
    exact HE.out
  · obtain ⟨b, off, rfl, hby⟩ := hr.bytes.resolve_left (fun e => h9 (by rw [e]; decide))
    have h9' : ¬ (l.length : Int) < 9 := by omega
    have by1 := hby.mono (w' := w.alloc (.cells zeroC 26)) fun o v hv => Keeps.below hb1 _ _ hv
    have c8 := by1 8 (by omega)
    have hX : (num32 (l.drop 4)).toNat = numAt l 4 := num32_toNat _
    have hn32 := numAt_lt l 4
    have NU := number_any b (off + 4) (cap - 4) (l.length - 4) (l.drop 4) (w.alloc (.cells zeroC 26)) (by rw [List.length_drop]) (by rw [List.length_drop]; omega) (by omega) (by1.drop 4)
    have NU0 := number_any b off cap l.length l (w.alloc (.cells zeroC 26)) rfl (by omega) hfit by1
    have sl4 := run_slice_from byteSlice (w.alloc (.cells zeroC 26)) (some ⟨b, off, none⟩) l.length cap .i64 4 4 rfl (by omega)
    rw [dropAddr_some (by omega)] at sl4
    have FI := fits_any (byteAt l 8) (numAt l 4) hn32 (w.alloc (.cells zeroC 26))
    have hh1 := hh.keeps (Keeps.below hb1)
    have r1 := hr.keeps (Keeps.below hb1)
    by_cases hf : fits (byteAt l 8).toNat (numAt l 4) = false
    · have HE := Lib.hid (ERR.out 4 (rd_form h9 hf))
      rw [hf] at FI
      clear hr hh h9 T2 hb1 hb2 ERR NU0 hby by1 hh1 r1 hf
      generalize byteAt l 8 = t at *
      generalize numAt l 4 = n at *
      generalize num32 (l.drop 4) = X at *
      generalize zeroC = Z at *
      go_enter Tryd.func20, Tryd.ntmps20
      go_wp2_with (first
        | (go_at_call 34; refine NU.mono ?_; rintro e w' ⟨rfl, rfl⟩)
        | (go_at_call 35; refine FI.mono ?_; rintro e w' ⟨rfl, rfl⟩)
        | (with_reducible refine at_build 26 ?_; go_must (refine wpList_built' rfl 26 _ rfl Z (by go_simp) ?_))
        | (with_reducible refine at_store 26 ?_; go_must (refine wpList_store_row rfl 26 _ _ rfl w.heap.size Z rfl rfl _ Z row1 hiZ rfl hoZ ?_)))
      refine bodyPost_ret (results_cell3 rfl _ _ w.heap.size _ Z _ _ rfl row2 Tryd.underlying26 rfl hiZ) rfl ?_
      exact HE.out
    · have hf : fits (byteAt l 8).toNat (numAt l 4) = true := by simpa using hf
      obtain ⟨hn9, hnM, ht2, h41, hdel⟩ := fits_le hf
      rw [hf] at FI
      by_cases hnl : l.length < numAt l 4
      · have HE := Lib.hid (ERR.out 3 (rd_cut h9 hf hnl))
        have hnl' : (l.length : Int) < (numAt l 4 : Int) := by omega
        clear hr hh h9 T2 hb1 hb2 ERR NU0 hby by1 hh1 r1 hf h41 hdel
        generalize byteAt l 8 = t at *
        generalize numAt l 4 = n at *
        generalize num32 (l.drop 4) = X at *
        generalize zeroC = Z at *
        go_enter Tryd.func20, Tryd.ntmps20
        go_wp2_with (first
          | (go_at_call 34; refine NU.mono ?_; rintro e w' ⟨rfl, rfl⟩)
          | (go_at_call 35; refine FI.mono ?_; rintro e w' ⟨rfl, rfl⟩)
          | (with_reducible refine at_build 26 ?_; go_must (refine wpList_built' rfl 26 _ rfl Z (by go_simp) ?_))
          | (with_reducible refine at_store 26 ?_; go_must (refine wpList_store_row rfl 26 _ _ rfl w.heap.size Z rfl rfl _ Z row1 hiZ rfl hoZ ?_)))
        refine bodyPost_ret (results_cell3 rfl _ _ w.heap.size _ Z _ _ rfl row2 Tryd.underlying26 rfl hiZ) rfl ?_
        exact HE.out
      · have sl4n := run_slice_both byteSlice (w.alloc (.cells zeroC 26)) (some ⟨b, off, none⟩) l.length cap .i64 .i64 4 (numAt l 4) 4 (numAt l 4) rfl rfl (by omega) (by omega)
        rw [dropAddr_some (by omega)] at sl4n
        have hlt4 : ((l.take (numAt l 4)).drop 4).length = numAt l 4 - 4 := by rw [List.length_drop, List.length_take]; omega
        have rs := (r1.take (numAt l 4)).drop 4 (by rw [List.length_take]; omega)
        rw [dropAddr_some (by omega)] at rs
        have SU := sum_at ((l.take (numAt l 4)).drop 4) (w.alloc (.cells zeroC 26)) hlt4 hh1 rs
        have hY : (num32 l).toNat = numAt l 0 := by rw [num32_toNat]; rfl
        have hnl' : ¬ (l.length : Int) < (numAt l 4 : Int) := by omega
        have HX := Lib.hid hX
        by_cases hs : (CrcMath.sum ((l.take (numAt l 4)).drop 4)).toNat = numAt l 0
        · have HYES := rd_yes h9 hf hnl hs
          have hseq : (CrcMath.sum ((l.take (numAt l 4)).drop 4) != num32 l) = false := by
            rw [bne_eq_false_iff_eq]
            exact BitVec.eq_of_toNat_eq (by rw [hs, hY])
          have hEE : entOf l (numAt l 4) = ⟨(byteAt l 8).toNat, if 41 ≤ numAt l 4 then (l.drop 9).take 32 else zeroKey, if 41 ≤ numAt l 4 then (l.take (numAt l 4)).drop 41 else []⟩ := rfl
          have hKl : 41 ≤ numAt l 4 → ((l.drop 9).take 32).length = 32 := fun h => by rw [List.length_take, List.length_drop]; omega
          have hDl : ((l.take (numAt l 4)).drop 41).length = numAt l 4 - 41 := by rw [List.length_drop, List.length_take]; omega
          have hkey : 41 ≤ numAt l 4 → ∀ W, Below w.heap.size w W → W.rangeAt b (off + 9) (((l.drop 9).take 32).map U8) := fun h W hW j v hv => by
            rw [List.getElem?_map] at hv
            obtain ⟨x, hx, rfl⟩ := Option.map_eq_some_iff.1 hv
            obtain ⟨hj, hx'⟩ := List.getElem?_eq_some_iff.1 hx
            rw [hKl h] at hj
            have q := Keeps.below hW _ _ (hby (9 + j) (by omega))
            rw [show off + (9 + j) = off + 9 + j by omega] at q
            rw [q, ← byteAt_drop, ← byteAt_take (n := 32) hj, byteAt_lt (by rw [hKl h]; exact hj), hx']
          have hdat : 41 ≤ numAt l 4 → ∀ W, Below w.heap.size w W → Reads W (dropAddr (some ⟨b, off, none⟩) cap 41) (cap - 41) ((l.take (numAt l 4)).drop 41) := fun h W hW => ((hr.keeps (Keeps.below hW)).take (numAt l 4)).drop 41 (by rw [List.length_take]; omega)
          have hsl : 41 ≤ numAt l 4 → ∀ W, (Instr.slice 24 (.slice (some ⟨b, off, none⟩) l.length cap) (some (.int .i64 41)) (some (.int .i64 (numAt l 4 : Int))) none).run Tryd.prog W = .ok (.slice (dropAddr (some ⟨b, off, none⟩) cap 41) (numAt l 4 - 41) (cap - 41)) W := fun h W => run_slice_both byteSlice W (some ⟨b, off, none⟩) l.length cap .i64 .i64 41 (numAt l 4) 41 (numAt l 4) rfl rfl h (by omega)
          have hsk : 41 ≤ numAt l 4 → ∀ W, (Instr.slice 24 (.slice (some ⟨b, off, none⟩) l.length cap) (some (.int .i64 9)) (some (.int .i64 41)) none).run Tryd.prog W = .ok (.slice (some ⟨b, off + 9, none⟩) 32 (cap - 9)) W := fun h W => by
            rw [run_slice_both byteSlice W (some ⟨b, off, none⟩) l.length cap .i64 .i64 9 41 9 41 rfl rfl (by omega) (by omega), dropAddr_some (by omega)]
          have hap := fun W => run_arrayAt (P := Tryd.prog) W 23 5 32 32 (cap - 9) ⟨b, off + 9, none⟩ (by kernel_rfl) (Nat.le_refl _)
          obtain ⟨ad, had⟩ : ∃ ad, dropAddr (some ⟨b, off, none⟩) cap 41 = some ad := by
            unfold dropAddr; split <;> exact ⟨_, rfl⟩
          rw [had] at hdat hsl
          have hbt := built_tag (byteAt l 8).toNat
          have hlC : (entC ⟨(byteAt l 8).toNat, zeroKey, []⟩ (.slice none 0 0)).length = 34 := length_entC rfl
          have hiC := entry_size hlC
          have hoC : (entC ⟨(byteAt l 8).toNat, zeroKey, []⟩ (.slice none 0 0)).toArray.all (·.oneCell') = true := all_oneCell_toArray (one_entC ⟨(byteAt l 8).toNat, zeroKey, []⟩ none 0 0)
          have hzC : zeroC.size = (entC ⟨(byteAt l 8).toNat, zeroKey, []⟩ (.slice none 0 0)).toArray.size := by
            show (entC zeroEnt (.slice none 0 0)).toArray.size = _
            rw [List.size_toArray, List.size_toArray, hlz, hlC]
          have row6 : ((w.alloc (.cells zeroC 26)).alloc (.cells zeroC 26)).heap[w.heap.size + 1]? = some (.cells zeroC 26 (0, 0)) := by rw [heap_alloc2_new]
          have row16 : ((w.alloc (.cells zeroC 26)).alloc (.cells zeroC 26)).heap[w.heap.size]? = some (.cells zeroC 26 (0, 0)) := by rw [Below.heap_alloc _ _ _ (by simp), heap_alloc_new]
          have hb6 := hb1.alloc hb1.size (.cells zeroC 26)
          have hS6 : ((w.alloc (.cells zeroC 26)).alloc (.cells zeroC 26)).heap.size = w.heap.size + 2 := by simp
          have GOALOF : ∀ (w' : World) (E : Ent) (a : Option Addr) (c : Nat), entOf l (numAt l 4) = E → Reads w' a c E.data → (∀ ad, a = some ad → w.heap.size ≤ ad.block ∧ ad.block < w'.heap.size) → Below w.heap.size w w' → RdPost w l (.returned (.tuple #[.agg (entC E (.slice a E.data.length c)).toArray, .int .i64 (numAt l 4 : Nat), .int .i64 0])) w' := fun w' E a c hE h1 h2 h3 => by
            unfold RdPost
            rw [HYES, hE]
            exact ⟨a, c, rfl, h1, h2, h3⟩
          have HGOAL := Lib.hid GOALOF
          have HEE := Lib.hid hEE
          have HKL := Lib.hid hKl
          have HDL := Lib.hid hDl
          have HKEY := Lib.hid hkey
          have HDAT := Lib.hid hdat
          have HSL := Lib.hid hsl
          have HSK := Lib.hid hsk
          have HIZ := Lib.hid hiZ
          have HOC := Lib.hid hoC
          have HZC := Lib.hid hzC
          have HB6 := Lib.hid hb6
          have HS6 := Lib.hid hS6
          have HLC := Lib.hid hlC
          clear hr hh T2 hb1 hb2 ERR by1 hh1 r1 hf hdel rs hlt4 hY hs GOALOF hEE hKl hDl hkey hdat hsl hsk hiZ hoZ row2 hoC hzC hb6 hS6 hby had HYES hlC hlz hbz hsz1 h9
          generalize CrcMath.sum ((l.take (numAt l 4)).drop 4) = S at *
          generalize num32 l = Y at *
          generalize (l.drop 9).take 32 = Kp at *
          generalize (l.take (numAt l 4)).drop 41 = Dp at *
          generalize (byteAt l 8) = t at *
          generalize hnn : numAt l 4 = n at *
          clear hnn
          generalize num32 (l.drop 4) = X at *
          have CTE := Lib.hid (show entC ⟨t.toNat, zeroKey, []⟩ (.slice none 0 0) = entC ⟨t.toNat, zeroKey, []⟩ (.slice none 0 0) from rfl)
          generalize hCT : entC ⟨t.toNat, zeroKey, []⟩ (.slice none 0 0) = CT at *
          have HCT := Lib.hid hCT
          clear hCT CTE
          generalize zeroC = Z at *
          go_enter Tryd.func20, Tryd.ntmps20
          go_wp2_with fail
          refine NU.mono ?_
          rintro e w' ⟨rfl, rfl⟩
          go_wp2_with (first
            | (go_at_call 35; refine FI.mono ?_; rintro e w' ⟨rfl, rfl⟩)
            | (go_at_call 31; refine SU.mono ?_; rintro e w' ⟨rfl, rfl⟩))
          refine NU0.mono ?_
          rintro e w' ⟨rfl, rfl⟩
          clear NU NU0 FI SU
          by_cases h41n : 41 ≤ n
          · have h41' : (41 : Int) ≤ (n : Int) := by omega
            have row7 := setRow_heap ((w.alloc (.cells Z 26)).alloc (.cells Z 26)) (w.heap.size + 1) Z CT.toArray 26 (0, 0) row6
            have T7 : Touch (fun x => x = w.heap.size + 1) ((w.alloc (.cells Z 26)).alloc (.cells Z 26)) (((w.alloc (.cells Z 26)).alloc (.cells Z 26)).setRow (w.heap.size + 1) CT.toArray) := Touch.setRow _ _ _ rfl
            have row17 := (T7.block _ (heap_lt row16) (by omega)).trans row16
            have hb7 := HB6.out.trans (T7.below (fun x e => by have e : x = w.heap.size + 1 := e; omega) HB6.out.size)
            have hk7 := HKEY.out h41n _ hb7
            have hsk := HSK.out h41n
            have hsl := HSL.out h41n
            have hkl := HKL.out h41n
            have hik : (Tryd.prog.info? 23).map (·.size) = some (Kp.map U8).length := by rw [List.length_map, hkl]; kernel_rfl
            have hika : (Tryd.prog.info? 23).map (·.size) = some (Kp.map U8).toArray.size := by rw [List.size_toArray]; exact hik
            have hok : (Kp.map U8).toArray.all (·.oneCell') = true := all_oneCell_toArray (fun v hv => by obtain ⟨x, _, rfl⟩ := List.mem_map.1 hv; rfl)
            have r7 := rangeAt_row row7
            rw [List.toList_toArray] at r7
            have f7 := fun o => frozen_of_row _ (w.heap.size + 1) o _ _ row7
            obtain ⟨th8, r8⟩ := ent_key' HCT.out r7 f7 rfl hkl
            have hlk : (Kp.map U8).toArray.size = (Kp.map U8).length := by rw [List.size_toArray]
            rw [← hlk] at th8
            have T8 : Touch (fun x => x = w.heap.size + 1) (((w.alloc (.cells Z 26)).alloc (.cells Z 26)).setRow (w.heap.size + 1) CT.toArray) ((((w.alloc (.cells Z 26)).alloc (.cells Z 26)).setRow (w.heap.size + 1) CT.toArray).setCells (w.heap.size + 1) 1 (Kp.map U8)) := Touch.setCells (F := fun x => x = w.heap.size + 1) _ rfl _ _ _
            have row18 := (T8.block _ (heap_lt row17) (by omega)).trans row17
            have hb8 := hb7.trans (T8.below (fun x e => by have e : x = w.heap.size + 1 := e; omega) hb7.size)
            have f8 : ∀ o, ((((w.alloc (.cells Z 26)).alloc (.cells Z 26)).setRow (w.heap.size + 1) CT.toArray).setCells (w.heap.size + 1) 1 (Kp.map U8)).frozen? ⟨w.heap.size + 1, o, none⟩ = false := fun o => by rw [World.frozen?_setCells]; exact f7 o
            have s8 : w.heap.size + 1 < ((((w.alloc (.cells Z 26)).alloc (.cells Z 26)).setRow (w.heap.size + 1) CT.toArray).setCells (w.heap.size + 1) 1 (Kp.map U8)).heap.size := Nat.lt_of_lt_of_le (heap_lt row7) T8.size
            have CL := fun (W : World) (hW : Below w.heap.size w W) => clone_any ad (n - 41) (cap - 41) Dp W HDL.out.symm (by rw [HDL.out]; omega) (HDAT.out h41n W hW)
            have HB8 := Lib.hid hb8
            have HR8 := Lib.hid r8
            have HROW8 := Lib.hid row18
            have HF8 := Lib.hid f8
            have HS8 := Lib.hid s8
            have HHOK := Lib.hid hok
            have HHIKA := Lib.hid hika
            have HHKL := Lib.hid hkl
            clear hb8 r8 row18 f8 s8 T7 T8 hb7 r7 f7 hok hika hkl hlk row17
            generalize Kp.map U8 = KM at *
            go_wp2_with (first
              | (with_reducible refine at_build 26 ?_; go_must (refine wpList_built' rfl 26 _ rfl CT.toArray (by go_simp) ?_))
              | (with_reducible refine at_store 26 ?_; go_must (refine wpList_store_row rfl 26 _ _ rfl (w.heap.size + 1) CT.toArray rfl rfl _ Z row6 hiC HZC.out HOC.out ?_))
              | (with_reducible refine at_load 23 ?_; go_must (refine wpList_load_mid rfl 23 _ rfl b (off + 9) rfl KM _ hk7 Tryd.underlying23 rfl hik ?_))
              | (with_reducible refine at_store 23 ?_; go_must (refine wpList_store_mid rfl 23 _ _ rfl (w.heap.size + 1) 1 KM.toArray rfl rfl th8 HHIKA.out HHOK.out ?_)))
            have CL8 := CL _ HB8.out
            clear CL hk7 th8 row7 row6 row16 c8 row1
            generalize (((w.alloc (.cells Z 26)).alloc (.cells Z 26)).setRow (w.heap.size + 1) CT.toArray).setCells (w.heap.size + 1) 1 KM = w8 at *
            refine CL8.mono ?_
            rintro e w9 ⟨v9, rfl, o9, hb9⟩
            obtain ⟨a9, c9, rfl, rd9⟩ := o9.reads
            have hb9w := HB8.out.trans (hb9.mono HB8.out.size)
            have T9 : Touch (fun _ => False) w8 w9 := .of_below hb9
            have r9 : w9.rangeAt (w.heap.size + 1) 0 (entC ⟨t.toNat, Kp, []⟩ (.slice none 0 0)) := fun j v hv => Keeps.below hb9 _ _ (HR8.out j v hv)
            have row9 := (hb9.block _ (heap_lt HROW8.out)).trans HROW8.out
            have f9 : ∀ o, w9.frozen? ⟨w.heap.size + 1, o, none⟩ = false := fun o => (T9.frozen (a := ⟨w.heap.size + 1, o, none⟩) HS8.out id).trans (HF8.out o)
            have c933 : w9.cell? ⟨w.heap.size + 1, 33, none⟩ = some (.slice none 0 0) := by
              have q := rangeAt_cell r9 (entC_data (e := ⟨t.toNat, Kp, []⟩) HHKL.out)
              rwa [Nat.zero_add] at q
            have r10 := ent_data (d' := Dp) (dv' := .slice a9 Dp.length c9) r9 HHKL.out
            have T10 : Touch (fun x => x = w.heap.size + 1) w9 (w9.setCell ⟨w.heap.size + 1, 33, none⟩ (.slice a9 Dp.length c9)) := Touch.set (F := fun x => x = w.heap.size + 1) w9 _ _ _ rfl
            have row10 := (T10.block _ (heap_lt row9) (by omega)).trans row9
            have s8 := HS8.out
            have hb10 := hb9w.trans (T10.below (fun x e => by have e : x = w.heap.size + 1 := e; omega) hb9w.size)
            have ha9 : ∀ ad, a9 = some ad → w8.heap.size ≤ ad.block := fun ad e => (row_lt o9 (by rw [e]; rfl)).1
            have ha9b : ∀ ad, a9 = some ad → ad.block < w9.heap.size := fun ad e => (row_lt o9 (by rw [e]; rfl)).2
            have d10 := T10.reads rd9 fun ad e => by have := ha9 ad e; show ¬ (ad.block = w.heap.size + 1); omega
            have hlE := length_entC (e := ⟨t.toNat, Kp, Dp⟩) (dv := .slice a9 Dp.length c9) HHKL.out
            have hiE := entry_size hlE
            have hiEl : (Tryd.prog.info? 26).map (·.size) = some (entC ⟨t.toNat, Kp, Dp⟩ (.slice a9 Dp.length c9)).length := by rw [hlE]; kernel_rfl
            have hoE : (entC ⟨t.toNat, Kp, Dp⟩ (.slice a9 Dp.length c9)).toArray.all (·.oneCell') = true := all_oneCell_toArray (one_entC ⟨t.toNat, Kp, Dp⟩ a9 Dp.length c9)
            have hzE : Z.size = (entC ⟨t.toNat, Kp, Dp⟩ (.slice a9 Dp.length c9)).toArray.size := by rw [HZC.out, List.size_toArray, List.size_toArray, hlE, HLC.out]
            have row11 := setRow_heap _ w.heap.size Z (entC ⟨t.toNat, Kp, Dp⟩ (.slice a9 Dp.length c9)).toArray 26 (0, 0) row10
            have T11 : Touch (fun x => x = w.heap.size) (w9.setCell ⟨w.heap.size + 1, 33, none⟩ (.slice a9 Dp.length c9)) ((w9.setCell ⟨w.heap.size + 1, 33, none⟩ (.slice a9 Dp.length c9)).setRow w.heap.size (entC ⟨t.toNat, Kp, Dp⟩ (.slice a9 Dp.length c9)).toArray) := Touch.setRow _ _ _ rfl
            have hb11 := hb10.trans (T11.below (fun x e => by have e : x = w.heap.size := e; omega) hb10.size)
            have d11 := T11.reads d10 fun ad e => by have := ha9 ad e; show ¬ (ad.block = w.heap.size); omega
            have FIN := Lib.hid (HGOAL.out _ ⟨t.toNat, Kp, Dp⟩ a9 c9 (by rw [HEE.out, if_pos h41n, if_pos h41n]) d11 (fun ad e => ⟨by have := ha9 ad e; omega, Nat.lt_of_lt_of_le (ha9b ad e) (Nat.le_trans T10.size T11.size)⟩) hb11)
            have HOE := Lib.hid hoE
            have HZE := Lib.hid hzE
            clear hoE hzE d11 hb11 T11 d10 ha9 ha9b hb10 T10 r9 T9 hb9w rd9 o9 hb9 HR8 HROW8 HF8 HS8 HB8 CL8
            generalize entC ⟨t.toNat, Kp, Dp⟩ (.slice a9 Dp.length c9) = CE at *
            go_wp2_with (first
              | (with_reducible refine at_load 26 ?_; go_must (refine wpList_load_mid rfl 26 _ rfl (w.heap.size + 1) 0 rfl CE _ r10 Tryd.underlying26 rfl hiEl ?_))
              | (with_reducible refine at_store 26 ?_; go_must (refine wpList_store_row rfl 26 _ _ rfl w.heap.size CE.toArray rfl rfl _ Z row10 hiE HZE.out HOE.out ?_)))
            refine bodyPost_ret (results_cell3 rfl _ _ w.heap.size _ CE.toArray _ _ rfl row11 Tryd.underlying26 rfl hiE) rfl ?_
            exact FIN.out
          · have h41' : ¬ (41 : Int) ≤ (n : Int) := by omega
            have row7 := setRow_heap ((w.alloc (.cells Z 26)).alloc (.cells Z 26)) (w.heap.size + 1) Z CT.toArray 26 (0, 0) row6
            have T7 : Touch (fun x => x = w.heap.size + 1) ((w.alloc (.cells Z 26)).alloc (.cells Z 26)) (((w.alloc (.cells Z 26)).alloc (.cells Z 26)).setRow (w.heap.size + 1) CT.toArray) := Touch.setRow _ _ _ rfl
            have row17 := (T7.block _ (heap_lt row16) (by omega)).trans row16
            have row8 := setRow_heap _ w.heap.size Z CT.toArray 26 (0, 0) row17
            have T8 : Touch (fun x => x = w.heap.size) (((w.alloc (.cells Z 26)).alloc (.cells Z 26)).setRow (w.heap.size + 1) CT.toArray) ((((w.alloc (.cells Z 26)).alloc (.cells Z 26)).setRow (w.heap.size + 1) CT.toArray).setRow w.heap.size CT.toArray) := Touch.setRow _ _ _ rfl
            have hb7 := HB6.out.trans (T7.below (fun x e => by have e : x = w.heap.size + 1 := e; omega) HB6.out.size)
            have HB8 := Lib.hid (hb7.trans (T8.below (fun x e => by have e : x = w.heap.size := e; omega) hb7.size))
            clear T7 T8 hb7
            go_wp2_with (first
              | (with_reducible refine at_build 26 ?_; go_must (refine wpList_built' rfl 26 _ rfl CT.toArray (by go_simp) ?_))
              | (with_reducible refine at_load 26 ?_; go_must (refine wpList_load_row rfl 26 _ rfl (w.heap.size + 1) rfl _ CT.toArray _ _ row7 Tryd.underlying26 rfl hiC ?_))
              | (with_reducible refine at_store 26 ?_; go_must (first
                  | refine wpList_store_row rfl 26 _ _ rfl (w.heap.size + 1) CT.toArray rfl rfl _ Z row6 hiC HZC.out HOC.out ?_
                  | refine wpList_store_row rfl 26 _ _ rfl w.heap.size CT.toArray rfl rfl _ Z row17 hiC HZC.out HOC.out ?_)))
            refine bodyPost_ret (results_cell3 rfl _ _ w.heap.size _ CT.toArray _ _ rfl row8 Tryd.underlying26 rfl hiC) rfl ?_
            have q := HGOAL.out _ ⟨t.toNat, zeroKey, []⟩ none 0 (by rw [HEE.out, if_neg h41n, if_neg h41n]) (reads_nil _) (by intro ad e; cases e) HB8.out
            rw [show entC ⟨t.toNat, zeroKey, []⟩ (.slice none ([] : List (BitVec 8)).length 0) = CT from HCT.out] at q
            exact q
        · have HE := Lib.hid (ERR.out 13 (rd_sum h9 hf hnl hs))
          have hsne : (CrcMath.sum ((l.take (numAt l 4)).drop 4) != num32 l) = true := by
            rw [bne_iff_ne]
            intro e
            exact hs (by rw [e, hY])
          clear hr hh h9 T2 hb1 hb2 ERR hby by1 hh1 r1 hf h41 hdel rs hlt4 hY hs
          generalize CrcMath.sum ((l.take (numAt l 4)).drop 4) = S at *
          generalize num32 l = Y at *
          generalize byteAt l 8 = t at *
          generalize numAt l 4 = n at *
          generalize num32 (l.drop 4) = X at *
          generalize zeroC = Z at *
          go_enter Tryd.func20, Tryd.ntmps20
          go_wp2_with fail
          refine NU.mono ?_
          rintro e w' ⟨rfl, rfl⟩
          go_wp2_with (first
            | (go_at_call 35; refine FI.mono ?_; rintro e w' ⟨rfl, rfl⟩)
            | (go_at_call 31; refine SU.mono ?_; rintro e w' ⟨rfl, rfl⟩))
          refine NU0.mono ?_
          rintro e w' ⟨rfl, rfl⟩
          go_wp2_with (first
            | (go_at_call 35; refine FI.mono ?_; rintro e w' ⟨rfl, rfl⟩)
            | (go_at_call 31; refine SU.mono ?_; rintro e w' ⟨rfl, rfl⟩)
            | (with_reducible refine at_build 26 ?_; go_must (refine wpList_built' rfl 26 _ rfl Z (by go_simp) ?_))
            | (with_reducible refine at_store 26 ?_; go_must (refine wpList_store_row rfl 26 _ _ rfl w.heap.size Z rfl rfl _ Z row1 hiZ rfl hoZ ?_)))
          refine bodyPost_ret (results_cell3 rfl _ _ w.heap.size _ Z _ _ rfl row2 Tryd.underlying26 rfl hiZ) rfl ?_
          exact HE.out
end Go.Proofs.YtmcdjkfmfhbbnaaDoor
