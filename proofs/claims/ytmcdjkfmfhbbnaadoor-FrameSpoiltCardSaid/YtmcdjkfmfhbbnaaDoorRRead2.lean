/- The reference's Read, where it finds an entry. -/
import Derived.Test.YtmcdjkfmfhbbnaaDoorRRead
namespace Go.Proofs.YtmcdjkfmfhbbnaaDoor
open Go Go.RowKit

theorem rd_ok {l : List (BitVec 8)} (h : (rd l).err = 0) : ¬ l.length < 9 ∧ fits (byteAt l 8).toNat (numAt l 4) = true ∧ ¬ l.length < numAt l 4 ∧ (CrcMath.sum ((l.take (numAt l 4)).drop 4)).toNat = numAt l 0 := by
  by_cases h9 : l.length < 9
  · rw [rd_short h9] at h; cases h
  · by_cases hf : fits (byteAt l 8).toNat (numAt l 4) = false
    · rw [rd_form h9 hf] at h; cases h
    · have hf : fits (byteAt l 8).toNat (numAt l 4) = true := by simpa using hf
      by_cases hn : l.length < numAt l 4
      · rw [rd_cut h9 hf hn] at h; cases h
      · by_cases hs : (CrcMath.sum ((l.take (numAt l 4)).drop 4)).toNat = numAt l 0
        · exact ⟨h9, hf, hn, hs⟩
        · rw [rd_sum h9 hf hn hs] at h; cases h
def keyTo (K : List (BitVec 8)) (k : Nat) : List (BitVec 8) := K.take k ++ List.replicate (32 - k) 0#8
theorem length_keyTo {K : List (BitVec 8)} {k : Nat} (h : K.length = 32) (hk : k ≤ 32) : (keyTo K k).length = 32 := by
  unfold keyTo; rw [List.length_append, List.length_take, List.length_replicate]; omega
theorem key_step {K : List (BitVec 8)} {k : Nat} (h : K.length = 32) (hk : k < 32) : (keyTo K k).set k (byteAt K k) = keyTo K (k + 1) := by
  unfold keyTo
  rw [List.set_append_right _ _ (by rw [List.length_take]; omega), List.length_take, show k - min k K.length = 0 by omega, take_snoc K k (by omega)]
  obtain ⟨m, hm⟩ : ∃ m, 32 - k = m + 1 := ⟨31 - k, by omega⟩
  rw [hm, show 32 - (k + 1) = m by omega, List.replicate_succ, List.set_cons_zero, List.append_assoc]
  rfl
theorem ent_step {T : Int} {K : List (BitVec 8)} {k : Nat} {dv : Value} (h : K.length = 32) (hk : k < 32) : (entC ⟨T, keyTo K k, []⟩ dv).set (1 + k) (U8 (byteAt K k)) = entC ⟨T, keyTo K (k + 1), []⟩ dv := by
  unfold entC
  rw [show 1 + k = k + 1 by omega, List.set_cons_succ, List.set_append_left _ _ (by rw [List.length_map, length_keyTo h (by omega)]; exact hk), ← List.map_set, key_step h hk]
/-- While the key goes over. -/
structure KeyAt (w : World) (T : Int) (K : List (BitVec 8)) (Z : Array Value) (W : World) : Prop where
  range : W.rangeAt (w.heap.size + 1) 0 (entC ⟨T, K, []⟩ (.slice none 0 0))
  free : ∀ o, W.frozen? ⟨w.heap.size + 1, o, none⟩ = false
  row : W.heap[w.heap.size]? = some (.cells Z 26 (0, 0))
  size : w.heap.size + 1 < W.heap.size
  below : Below w.heap.size w W
def KeyRel (w : World) (T : Int) (K : List (BitVec 8)) (Z : Array Value) (i : Value) (wr : World) : Prop := ∃ k : Nat, k ≤ 32 ∧ i = .int .i64 k ∧ KeyAt w T (keyTo K k) Z wr
theorem KeyAt.step {w W : World} {T : Int} {K : List (BitVec 8)} {Z : Array Value} {k : Nat} (h : KeyAt w T (keyTo K k) Z W) (hK : K.length = 32) (hk : k < 32) : KeyAt w T (keyTo K (k + 1)) Z (W.setCell ⟨w.heap.size + 1, 1 + k, none⟩ (U8 (byteAt K k))) := by
  have t : Touch (fun x => x = w.heap.size + 1) W (W.setCell ⟨w.heap.size + 1, 1 + k, none⟩ (U8 (byteAt K k))) := Touch.set (F := fun x => x = w.heap.size + 1) W _ _ _ rfl
  have r := rangeAt_set h.range (1 + k) (U8 (byteAt K k)) (by rw [length_entC (length_keyTo hK (by omega))]; omega)
  rw [ent_step hK hk, Nat.zero_add] at r
  exact ⟨r, fun o => by rw [World.frozen?_setCell]; exact h.free o, (t.block _ (heap_lt h.row) (by omega)).trans h.row, Nat.lt_of_lt_of_le h.size t.size, h.below.trans (t.below (fun x e => by have e : x = w.heap.size + 1 := e; omega) h.below.size)⟩
theorem keyTo_zero (K : List (BitVec 8)) : keyTo K 0 = zeroKey := rfl
theorem copy_at {a : Option Addr} {n cap : Nat} (l : List (BitVec 8)) (w : World) (hn : l.length = n) (hr : Reads w a cap l) (hl : l.length ≤ 140737488355328) :
    Calls Tryd.prog 19 #[.slice a n cap] w (Copies w l) := by
  subst hn; exact copy_any a cap l w hr hl
set_option maxHeartbeats 4000000 in
set_option maxRecDepth 40000 in
theorem rread_yes (a : Option Addr) (cap : Nat) (l : List (BitVec 8)) (w : World) (hr : Reads w a cap l) (hok : (rd l).err = 0) :
    Calls Tryd.prog 21 #[.slice a l.length cap] w (RdPost w l) := by
  obtain ⟨h9, hf, hnl, hs⟩ := rd_ok hok
  have HYES := rd_yes h9 hf hnl hs
  have hz := zero_c
  have hlz : (entC zeroEnt (.slice none 0 0)).length = 34 := length_entC rfl
  have row1 := heap_alloc_new w (.cells zeroC 26)
  have hb1 := (Below.refl w.heap.size w).alloc (Nat.le_refl _) (.cells zeroC 26)
  have hfit := hr.fits
  have hroom := hr.room
  obtain ⟨b, off, rfl, hby⟩ := hr.bytes.resolve_left (fun e => h9 (by rw [e]; decide))
  have h9' : ¬ (l.length : Int) < 9 := by omega
  have by1 := hby.mono (w' := w.alloc (.cells zeroC 26)) fun o v hv => Keeps.below hb1 _ _ hv
  have c8 := by1 8 (by omega)
  have hn32 := numAt_lt l 4
  have NU := rnum b off cap l (w.alloc (.cells zeroC 26)) (by omega) hfit by1
  have NU0 := rnum0 b off cap l (w.alloc (.cells zeroC 26)) (by omega) by1
  have hX := num64 l
  have hY := num64' l
  have sl48 : ∀ W, (Instr.slice 24 (.slice (some ⟨b, off, none⟩) l.length cap) (some (.int .i64 4)) (some (.int .i64 8)) none).run Tryd.prog W = .ok (.slice (some ⟨b, off + 4, none⟩) 4 (cap - 4)) W := fun W => by
    rw [run_slice_both byteSlice W (some ⟨b, off, none⟩) l.length cap .i64 .i64 4 8 4 8 rfl rfl (by omega) (by omega), dropAddr_some (by omega)]
  have sl04 : ∀ W, (Instr.slice 24 (.slice (some ⟨b, off, none⟩) l.length cap) (some (.int .i64 0)) (some (.int .i64 4)) none).run Tryd.prog W = .ok (.slice (some ⟨b, off, none⟩) 4 cap) W := fun W => by
    rw [run_slice_both byteSlice W (some ⟨b, off, none⟩) l.length cap .i64 .i64 0 4 0 4 rfl rfl (by omega) (by omega), dropAddr_some (by omega)]
    rfl
  have hcv : ∀ W, (convert 66 3 (U64 (leOf ((l.drop 4).take 4)))).run Tryd.prog W = .ok (.int .i64 (numAt l 4)) W := fun W => by
    rw [conv_64_i64 _ (by rw [hX]; omega) (by kernel_rfl) Tryd.underlying3, hX]
  have r1 := hr.keeps (Keeps.below hb1)
  obtain ⟨hn9, hnM, ht2, _, _⟩ := fits_le hf
  have hu := fit hf
  have sl4n := run_slice_both byteSlice (w.alloc (.cells zeroC 26)) (some ⟨b, off, none⟩) l.length cap .i64 .i64 4 (numAt l 4) 4 (numAt l 4) rfl rfl (by omega) (by omega)
  rw [dropAddr_some (by omega)] at sl4n
  have hlt4 : ((l.take (numAt l 4)).drop 4).length = numAt l 4 - 4 := by rw [List.length_drop, List.length_take]; omega
  have rs := (r1.take (numAt l 4)).drop 4 (by rw [List.length_take]; omega)
  rw [dropAddr_some (by omega)] at rs
  have SU := rsum_at ((l.take (numAt l 4)).drop 4) (w.alloc (.cells zeroC 26)) hlt4 rs
  have hnl' : ¬ (l.length : Int) < (numAt l 4 : Int) := by omega
  have hseq : ((CrcMath.sum ((l.take (numAt l 4)).drop 4)).setWidth 64 != leOf (l.take 4)) = false := by
    rw [bne_eq_false_iff_eq]
    refine BitVec.eq_of_toNat_eq ?_
    rw [hY, ← hs, BitVec.toNat_setWidth]
    have := (CrcMath.sum ((l.take (numAt l 4)).drop 4)).isLt
    omega
  have hEE : entOf l (numAt l 4) = ⟨(byteAt l 8).toNat, if 41 ≤ numAt l 4 then (l.drop 9).take 32 else zeroKey, if 41 ≤ numAt l 4 then (l.take (numAt l 4)).drop 41 else []⟩ := rfl
  have hKl : 41 ≤ numAt l 4 → ((l.drop 9).take 32).length = 32 := fun h => by rw [List.length_take, List.length_drop]; omega
  have hDl : ((l.take (numAt l 4)).drop 41).length = numAt l 4 - 41 := by rw [List.length_drop, List.length_take]; omega
  have hkey : 41 ≤ numAt l 4 → ∀ W, Below w.heap.size w W → ∀ k, k < 32 → W.cell? ⟨b, off + (9 + k), none⟩ = some (U8 (byteAt ((l.drop 9).take 32) k)) := fun h W hW k hk => by
    rw [byteAt_take hk, byteAt_drop]
    exact Keeps.below hW _ _ (hby (9 + k) (by omega))
  have hdat : 41 ≤ numAt l 4 → ∀ W, Below w.heap.size w W → Reads W (dropAddr (some ⟨b, off, none⟩) cap 41) (cap - 41) ((l.take (numAt l 4)).drop 41) := fun h W hW => ((hr.keeps (Keeps.below hW)).take (numAt l 4)).drop 41 (by rw [List.length_take]; omega)
  have hsl : 41 ≤ numAt l 4 → ∀ W, (Instr.slice 24 (.slice (some ⟨b, off, none⟩) l.length cap) (some (.int .i64 41)) (some (.int .i64 (numAt l 4 : Int))) none).run Tryd.prog W = .ok (.slice (dropAddr (some ⟨b, off, none⟩) cap 41) (numAt l 4 - 41) (cap - 41)) W := fun h W => run_slice_both byteSlice W (some ⟨b, off, none⟩) l.length cap .i64 .i64 41 (numAt l 4) 41 (numAt l 4) rfl rfl h (by omega)
  have row6 : ((w.alloc (.cells zeroC 26)).alloc (.cells zeroC 26)).heap[w.heap.size + 1]? = some (.cells zeroC 26 (0, 0)) := by rw [heap_alloc2_new]
  have row16 : ((w.alloc (.cells zeroC 26)).alloc (.cells zeroC 26)).heap[w.heap.size]? = some (.cells zeroC 26 (0, 0)) := by rw [Below.heap_alloc _ _ _ (by simp), heap_alloc_new]
  have hb6 := hb1.alloc hb1.size (.cells zeroC 26)
  have hS6 : ((w.alloc (.cells zeroC 26)).alloc (.cells zeroC 26)).heap.size = w.heap.size + 2 := by simp
  have GOALOF : ∀ (w' : World) (E : Ent) (a : Option Addr) (c : Nat), entOf l (numAt l 4) = E → Reads w' a c E.data → (∀ ad, a = some ad → w.heap.size ≤ ad.block ∧ ad.block < w'.heap.size) → Below w.heap.size w w' → RdPost w l (.returned (.tuple #[.agg (entC E (.slice a E.data.length c)).toArray, .int .i64 (numAt l 4 : Nat), .int .i64 0])) w' := fun w' E a c hE h1 h2 h3 => by
    unfold RdPost
    rw [HYES, hE]
    exact ⟨a, c, rfl, h1, h2, h3⟩
  have hzl : zeroC.size = 34 := by
    show (entC zeroEnt (.slice none 0 0)).toArray.size = _
    rw [List.size_toArray, hlz]
  have HGOAL := Lib.hid GOALOF
  have HEE := Lib.hid hEE
  have HKL := Lib.hid hKl
  have HDL := Lib.hid hDl
  have HKEY := Lib.hid hkey
  have HDAT := Lib.hid hdat
  have HSL := Lib.hid hsl
  have HB6 := Lib.hid hb6
  have HS6 := Lib.hid hS6
  have HZL := Lib.hid hzl
  clear hr hb1 by1 r1 hf rs hlt4 hX hY hs GOALOF hEE hKl hDl hkey hdat hsl hb6 hS6 hby HYES hlz h9 hok hzl
  generalize CrcMath.sum ((l.take (numAt l 4)).drop 4) = S at *
  generalize leOf (l.take 4) = Y at *
  generalize (l.drop 9).take 32 = Kp at *
  generalize (l.take (numAt l 4)).drop 41 = Dp at *
  generalize (byteAt l 8) = t at *
  generalize hnn : numAt l 4 = n at *
  clear hnn
  generalize leOf ((l.drop 4).take 4) = X at *
  generalize zeroC = Z at *
  rcases hu with ⟨h, h2⟩ | ⟨h, h2⟩ | ⟨h, h2, h3⟩
  · have hT : (t.toNat : Int) = 2 := by omega
    have g1 : ((n : Int) != 9) = false := by simp; omega
    have h41n : ¬ 41 ≤ n := by omega
    have hnle : n ≤ 9 := by omega
    clear h2
    have hbt := built_tag 2
    have hlC : (entC ⟨2, zeroKey, []⟩ (.slice none 0 0)).length = 34 := length_entC rfl
    have hiC := entry_size hlC
    have hoC : (entC ⟨2, zeroKey, []⟩ (.slice none 0 0)).toArray.all (·.oneCell') = true := all_oneCell_toArray (one_entC ⟨2, zeroKey, []⟩ none 0 0)
    have hzC : Z.size = (entC ⟨2, zeroKey, []⟩ (.slice none 0 0)).toArray.size := by rw [HZL.out, List.size_toArray, hlC]
    have row7 := setRow_heap _ (w.heap.size + 1) Z (entC ⟨2, zeroKey, []⟩ (.slice none 0 0)).toArray 26 (0, 0) row6
    have T7 : Touch (fun x => x = w.heap.size + 1) _ (((w.alloc (.cells Z 26)).alloc (.cells Z 26)).setRow (w.heap.size + 1) (entC ⟨2, zeroKey, []⟩ (.slice none 0 0)).toArray) := Touch.setRow _ _ _ rfl
    have KA : KeyAt w 2 zeroKey Z (((w.alloc (.cells Z 26)).alloc (.cells Z 26)).setRow (w.heap.size + 1) (entC ⟨2, zeroKey, []⟩ (.slice none 0 0)).toArray) := by
      refine ⟨?_, fun o => frozen_of_row _ (w.heap.size + 1) o _ _ row7, (T7.block _ (heap_lt row16) (by omega)).trans row16, heap_lt row7, HB6.out.trans (T7.below (fun x e => by have e : x = w.heap.size + 1 := e; omega) HB6.out.size)⟩
      have q := rangeAt_row row7
      rwa [List.toList_toArray] at q
    have HKA := Lib.hid KA
    have HHT := Lib.hid h
    clear h
    have HIC := Lib.hid hiC
    have HOC := Lib.hid hoC
    have HZC := Lib.hid hzC
    clear KA T7 row7 hlC hiC hoC hzC
    generalize (entC ⟨2, zeroKey, []⟩ (.slice none 0 0)).toArray = CT at *
    go_enter Tryd.func21, Tryd.ntmps21
    go_wp2_with fail
    refine NU.mono ?_
    rintro e w' ⟨rfl, rfl⟩
    go_wp2_with fail
    refine NU0.mono ?_
    rintro e w' ⟨rfl, rfl⟩
    go_wp2_with (first
      | (go_at_call 33; refine SU.mono ?_; rintro e w' ⟨rfl, rfl⟩)
      | (with_reducible refine at_build 26 ?_; go_must (refine wpList_built' rfl 26 _ rfl CT (by go_simp) ?_))
      | (with_reducible refine at_store 26 ?_; go_must (refine wpList_store_row rfl 26 _ _ rfl (w.heap.size + 1) CT rfl rfl _ Z row6 HIC.out HZC.out HOC.out ?_)))
    clear NU NU0 SU c8 row6 row16 hbt row1
    generalize ((w.alloc (.cells Z 26)).alloc (.cells Z 26)).setRow (w.heap.size + 1) CT = w8 at *
    have HT := Lib.hid hT
    refine wp_loop_once ?_
    have r10 := HKA.out.range
    have row10 := HKA.out.row
    have hb10 := HKA.out.below
    have hlE := length_entC (e := ⟨2, zeroKey, []⟩) (dv := .slice none ([] : List (BitVec 8)).length 0) rfl
    have hiE := entry_size hlE
    have hiEl : (Tryd.prog.info? 26).map (·.size) = some (entC ⟨2, zeroKey, []⟩ (.slice none ([] : List (BitVec 8)).length 0)).length := by rw [hlE]; kernel_rfl
    have hoE : (entC ⟨2, zeroKey, []⟩ (.slice none ([] : List (BitVec 8)).length 0)).toArray.all (·.oneCell') = true := all_oneCell_toArray (one_entC ⟨2, zeroKey, []⟩ none ([] : List (BitVec 8)).length 0)
    have hzE : Z.size = (entC ⟨2, zeroKey, []⟩ (.slice none ([] : List (BitVec 8)).length 0)).toArray.size := by rw [HZL.out, List.size_toArray, hlE]
    have row11 := setRow_heap _ w.heap.size Z (entC ⟨2, zeroKey, []⟩ (.slice none ([] : List (BitVec 8)).length 0)).toArray 26 (0, 0) row10
    have T11 : Touch (fun x => x = w.heap.size) w8 ((w8).setRow w.heap.size (entC ⟨2, zeroKey, []⟩ (.slice none ([] : List (BitVec 8)).length 0)).toArray) := Touch.setRow _ _ _ rfl
    have hb11 := hb10.trans (T11.below (fun x e => by have e : x = w.heap.size := e; omega) hb10.size)
    have d11 : Reads ((w8).setRow w.heap.size (entC ⟨2, zeroKey, []⟩ (.slice none ([] : List (BitVec 8)).length 0)).toArray) none 0 [] := reads_nil _
    have FIN := Lib.hid (HGOAL.out _ ⟨2, zeroKey, []⟩ none 0 (by rw [HEE.out, if_neg h41n, if_neg h41n, HT.out]) d11 (by intro ad e; cases e) hb11)
    have HOE := Lib.hid hoE
    have HZE := Lib.hid hzE
    clear hoE hzE d11 hb11 T11 hb10
    generalize entC ⟨2, zeroKey, []⟩ (.slice none ([] : List (BitVec 8)).length 0) = CE at *
    go_wp2_with (first
      | (with_reducible refine at_load 26 ?_; go_must (refine wpList_load_mid rfl 26 _ rfl (w.heap.size + 1) 0 rfl CE _ r10 Tryd.underlying26 rfl hiEl ?_))
      | (with_reducible refine at_store 26 ?_; go_must (refine wpList_store_row rfl 26 _ _ rfl w.heap.size CE.toArray rfl rfl _ Z row10 hiE HZE.out HOE.out ?_)))
    refine bodyPost_ret (results_cell3 rfl _ _ w.heap.size _ CE.toArray _ _ rfl row11 Tryd.underlying26 rfl hiE) rfl ?_
    exact FIN.out
  · have hT : (t.toNat : Int) = 1 := by omega
    have g1 : ((n : Int) != 41) = false := by simp; omega
    have h41n : 41 ≤ n := by omega
    have hnle : n ≤ 41 := by omega
    clear h2
    have hbt := built_tag 1
    have hlC : (entC ⟨1, zeroKey, []⟩ (.slice none 0 0)).length = 34 := length_entC rfl
    have hiC := entry_size hlC
    have hoC : (entC ⟨1, zeroKey, []⟩ (.slice none 0 0)).toArray.all (·.oneCell') = true := all_oneCell_toArray (one_entC ⟨1, zeroKey, []⟩ none 0 0)
    have hzC : Z.size = (entC ⟨1, zeroKey, []⟩ (.slice none 0 0)).toArray.size := by rw [HZL.out, List.size_toArray, hlC]
    have row7 := setRow_heap _ (w.heap.size + 1) Z (entC ⟨1, zeroKey, []⟩ (.slice none 0 0)).toArray 26 (0, 0) row6
    have T7 : Touch (fun x => x = w.heap.size + 1) _ (((w.alloc (.cells Z 26)).alloc (.cells Z 26)).setRow (w.heap.size + 1) (entC ⟨1, zeroKey, []⟩ (.slice none 0 0)).toArray) := Touch.setRow _ _ _ rfl
    have KA : KeyAt w 1 zeroKey Z (((w.alloc (.cells Z 26)).alloc (.cells Z 26)).setRow (w.heap.size + 1) (entC ⟨1, zeroKey, []⟩ (.slice none 0 0)).toArray) := by
      refine ⟨?_, fun o => frozen_of_row _ (w.heap.size + 1) o _ _ row7, (T7.block _ (heap_lt row16) (by omega)).trans row16, heap_lt row7, HB6.out.trans (T7.below (fun x e => by have e : x = w.heap.size + 1 := e; omega) HB6.out.size)⟩
      have q := rangeAt_row row7
      rwa [List.toList_toArray] at q
    have HKA := Lib.hid KA
    have HHT := Lib.hid h
    clear h
    have HIC := Lib.hid hiC
    have HOC := Lib.hid hoC
    have HZC := Lib.hid hzC
    clear KA T7 row7 hlC hiC hoC hzC
    generalize (entC ⟨1, zeroKey, []⟩ (.slice none 0 0)).toArray = CT at *
    go_enter Tryd.func21, Tryd.ntmps21
    go_wp2_with fail
    refine NU.mono ?_
    rintro e w' ⟨rfl, rfl⟩
    go_wp2_with fail
    refine NU0.mono ?_
    rintro e w' ⟨rfl, rfl⟩
    go_wp2_with (first
      | (go_at_call 33; refine SU.mono ?_; rintro e w' ⟨rfl, rfl⟩)
      | (with_reducible refine at_build 26 ?_; go_must (refine wpList_built' rfl 26 _ rfl CT (by go_simp) ?_))
      | (with_reducible refine at_store 26 ?_; go_must (refine wpList_store_row rfl 26 _ _ rfl (w.heap.size + 1) CT rfl rfl _ Z row6 HIC.out HZC.out HOC.out ?_)))
    clear NU NU0 SU c8 row6 row16 hbt row1
    generalize ((w.alloc (.cells Z 26)).alloc (.cells Z 26)).setRow (w.heap.size + 1) CT = w8 at *
    have HT := Lib.hid hT
    have hkl := HKL.out h41n
    go_loopw [12] (fun i wr => KeyRel w 1 Kp Z i wr) (fun i _ => 32 - (intOf i).toNat)
    case atStart => exact ⟨0, by omega, rfl, HKA.out⟩
    case round =>
      obtain ⟨k, hk, rfl, hka⟩ := hrel
      by_cases hlt : k < 32
      · have ck := HKEY.out h41n _ hka.below k hlt
        have cold := rangeAt_cell hka.range (k := 1 + k) (v := U8 (byteAt (keyTo Kp k) k)) (by
          unfold entC
          rw [show 1 + k = k + 1 by omega, List.getElem?_cons_succ, List.getElem?_append_left (by rw [List.length_map, length_keyTo hkl hk]; exact hlt), List.getElem?_map, List.getElem?_eq_getElem (by rw [length_keyTo hkl hk]; exact hlt), byteAt_lt (by rw [length_keyTo hkl hk]; exact hlt)]
          rfl)
        rw [Nat.zero_add] at cold
        have fk := hka.free (1 + k)
        have KS := Lib.hid (hka.step hkl hlt)
        have e1 : (9 + (k : Int)).toNat = 9 + k := by omega
        have e2 : IntKind.i64.wrap (9 + (k : Int)) = 9 + (k : Int) := IntWalk.i64_in _ (by omega)
        have e3 : (0 : Int) ≤ 9 + (k : Int) := by omega
        have e4 : 9 + (k : Int) < (l.length : Int) := by omega
        clear hka
        generalize byteAt Kp k = c at *
        generalize byteAt (keyTo Kp k) k = c0 at *
        go_wp2_with fail
        go_roundw
        case rel => exact ⟨k + 1, by omega, by go_num, KS.out⟩
        case measure => simp [intOf]; omega
      · obtain rfl : k = 32 := by omega
        have hkt : keyTo Kp 32 = Kp := by
          unfold keyTo
          rw [List.take_of_length_le (by omega)]
          simp
        rw [hkt] at hka
        clear hkt
        have r10 := hka.range
        have row10 := hka.row
        have hb10 := hka.below
        have HDN : Dp = [] := List.eq_nil_of_length_eq_zero (by rw [HDL.out]; omega)
        have HDN := Lib.hid HDN
        clear hka
        have hlE := length_entC (e := ⟨1, Kp, []⟩) (dv := .slice none ([] : List (BitVec 8)).length 0) hkl
        have hiE := entry_size hlE
        have hiEl : (Tryd.prog.info? 26).map (·.size) = some (entC ⟨1, Kp, []⟩ (.slice none ([] : List (BitVec 8)).length 0)).length := by rw [hlE]; kernel_rfl
        have hoE : (entC ⟨1, Kp, []⟩ (.slice none ([] : List (BitVec 8)).length 0)).toArray.all (·.oneCell') = true := all_oneCell_toArray (one_entC ⟨1, Kp, []⟩ none ([] : List (BitVec 8)).length 0)
        have hzE : Z.size = (entC ⟨1, Kp, []⟩ (.slice none ([] : List (BitVec 8)).length 0)).toArray.size := by rw [HZL.out, List.size_toArray, hlE]
        have row11 := setRow_heap _ w.heap.size Z (entC ⟨1, Kp, []⟩ (.slice none ([] : List (BitVec 8)).length 0)).toArray 26 (0, 0) row10
        have T11 : Touch (fun x => x = w.heap.size) wr ((wr).setRow w.heap.size (entC ⟨1, Kp, []⟩ (.slice none ([] : List (BitVec 8)).length 0)).toArray) := Touch.setRow _ _ _ rfl
        have hb11 := hb10.trans (T11.below (fun x e => by have e : x = w.heap.size := e; omega) hb10.size)
        have d11 : Reads ((wr).setRow w.heap.size (entC ⟨1, Kp, []⟩ (.slice none ([] : List (BitVec 8)).length 0)).toArray) none 0 [] := reads_nil _
        have FIN := Lib.hid (HGOAL.out _ ⟨1, Kp, []⟩ none 0 (by rw [HEE.out, if_pos h41n, if_pos h41n, HT.out, HDN.out]) d11 (by intro ad e; cases e) hb11)
        have HOE := Lib.hid hoE
        have HZE := Lib.hid hzE
        clear hoE hzE d11 hb11 T11 hb10
        generalize entC ⟨1, Kp, []⟩ (.slice none ([] : List (BitVec 8)).length 0) = CE at *
        go_wp2_with (first
          | (with_reducible refine at_load 26 ?_; go_must (refine wpList_load_mid rfl 26 _ rfl (w.heap.size + 1) 0 rfl CE _ r10 Tryd.underlying26 rfl hiEl ?_))
          | (with_reducible refine at_store 26 ?_; go_must (refine wpList_store_row rfl 26 _ _ rfl w.heap.size CE.toArray rfl rfl _ Z row10 hiE HZE.out HOE.out ?_)))
        refine bodyPost_ret (results_cell3 rfl _ _ w.heap.size _ CE.toArray _ _ rfl row11 Tryd.underlying26 rfl hiE) rfl ?_
        exact FIN.out
  · have hT : (t.toNat : Int) = 0 := by omega
    have g1 : decide ((n : Int) < 41) = false := decide_eq_false (by omega)
    have g2 : decide ((16425 : Int) < (n : Int)) = false := decide_eq_false (by omega)
    have h41n : 41 ≤ n := by omega
    have hbt := built_tag 0
    have hlC : (entC ⟨0, zeroKey, []⟩ (.slice none 0 0)).length = 34 := length_entC rfl
    have hiC := entry_size hlC
    have hoC : (entC ⟨0, zeroKey, []⟩ (.slice none 0 0)).toArray.all (·.oneCell') = true := all_oneCell_toArray (one_entC ⟨0, zeroKey, []⟩ none 0 0)
    have hzC : Z.size = (entC ⟨0, zeroKey, []⟩ (.slice none 0 0)).toArray.size := by rw [HZL.out, List.size_toArray, hlC]
    have row7 := setRow_heap _ (w.heap.size + 1) Z (entC ⟨0, zeroKey, []⟩ (.slice none 0 0)).toArray 26 (0, 0) row6
    have T7 : Touch (fun x => x = w.heap.size + 1) _ (((w.alloc (.cells Z 26)).alloc (.cells Z 26)).setRow (w.heap.size + 1) (entC ⟨0, zeroKey, []⟩ (.slice none 0 0)).toArray) := Touch.setRow _ _ _ rfl
    have KA : KeyAt w 0 zeroKey Z (((w.alloc (.cells Z 26)).alloc (.cells Z 26)).setRow (w.heap.size + 1) (entC ⟨0, zeroKey, []⟩ (.slice none 0 0)).toArray) := by
      refine ⟨?_, fun o => frozen_of_row _ (w.heap.size + 1) o _ _ row7, (T7.block _ (heap_lt row16) (by omega)).trans row16, heap_lt row7, HB6.out.trans (T7.below (fun x e => by have e : x = w.heap.size + 1 := e; omega) HB6.out.size)⟩
      have q := rangeAt_row row7
      rwa [List.toList_toArray] at q
    have HKA := Lib.hid KA
    have HHT := Lib.hid h
    clear h
    have HIC := Lib.hid hiC
    have HOC := Lib.hid hoC
    have HZC := Lib.hid hzC
    clear KA T7 row7 hlC hiC hoC hzC
    generalize (entC ⟨0, zeroKey, []⟩ (.slice none 0 0)).toArray = CT at *
    go_enter Tryd.func21, Tryd.ntmps21
    go_wp2_with fail
    refine NU.mono ?_
    rintro e w' ⟨rfl, rfl⟩
    go_wp2_with fail
    refine NU0.mono ?_
    rintro e w' ⟨rfl, rfl⟩
    go_wp2_with (first
      | (go_at_call 33; refine SU.mono ?_; rintro e w' ⟨rfl, rfl⟩)
      | (with_reducible refine at_build 26 ?_; go_must (refine wpList_built' rfl 26 _ rfl CT (by go_simp) ?_))
      | (with_reducible refine at_store 26 ?_; go_must (refine wpList_store_row rfl 26 _ _ rfl (w.heap.size + 1) CT rfl rfl _ Z row6 HIC.out HZC.out HOC.out ?_)))
    clear NU NU0 SU c8 row6 row16 hbt row1
    generalize ((w.alloc (.cells Z 26)).alloc (.cells Z 26)).setRow (w.heap.size + 1) CT = w8 at *
    have HT := Lib.hid hT
    have hkl := HKL.out h41n
    go_loopw [12] (fun i wr => KeyRel w 0 Kp Z i wr) (fun i _ => 32 - (intOf i).toNat)
    case atStart => exact ⟨0, by omega, rfl, HKA.out⟩
    case round =>
      obtain ⟨k, hk, rfl, hka⟩ := hrel
      by_cases hlt : k < 32
      · have ck := HKEY.out h41n _ hka.below k hlt
        have cold := rangeAt_cell hka.range (k := 1 + k) (v := U8 (byteAt (keyTo Kp k) k)) (by
          unfold entC
          rw [show 1 + k = k + 1 by omega, List.getElem?_cons_succ, List.getElem?_append_left (by rw [List.length_map, length_keyTo hkl hk]; exact hlt), List.getElem?_map, List.getElem?_eq_getElem (by rw [length_keyTo hkl hk]; exact hlt), byteAt_lt (by rw [length_keyTo hkl hk]; exact hlt)]
          rfl)
        rw [Nat.zero_add] at cold
        have fk := hka.free (1 + k)
        have KS := Lib.hid (hka.step hkl hlt)
        have e1 : (9 + (k : Int)).toNat = 9 + k := by omega
        have e2 : IntKind.i64.wrap (9 + (k : Int)) = 9 + (k : Int) := IntWalk.i64_in _ (by omega)
        have e3 : (0 : Int) ≤ 9 + (k : Int) := by omega
        have e4 : 9 + (k : Int) < (l.length : Int) := by omega
        clear hka
        generalize byteAt Kp k = c at *
        generalize byteAt (keyTo Kp k) k = c0 at *
        go_wp2_with fail
        go_roundw
        case rel => exact ⟨k + 1, by omega, by go_num, KS.out⟩
        case measure => simp [intOf]; omega
      · obtain rfl : k = 32 := by omega
        have hkt : keyTo Kp 32 = Kp := by
          unfold keyTo
          rw [List.take_of_length_le (by omega)]
          simp
        rw [hkt] at hka
        clear hkt
        obtain ⟨ad, had⟩ : ∃ ad, dropAddr (some ⟨b, off, none⟩) cap 41 = some ad := by
          unfold dropAddr; split <;> exact ⟨_, rfl⟩
        have hsl := HSL.out h41n
        have hd := HDAT.out h41n _ hka.below
        rw [had] at hsl hd
        have CL := copy_at Dp wr HDL.out hd (by rw [HDL.out]; omega)
        have HKA2 := Lib.hid hka
        clear hka hd had
        go_wp2_with fail
        refine CL.mono ?_
        rintro e w9 ⟨v9, rfl, o9, hb9⟩
        obtain ⟨a9, c9, rfl, rd9⟩ := o9.reads
        have hka := HKA2.out
        have hb9w := hka.below.trans (hb9.mono hka.below.size)
        have T9 : Touch (fun _ => False) wr w9 := .of_below hb9
        have r9 : w9.rangeAt (w.heap.size + 1) 0 (entC ⟨0, Kp, []⟩ (.slice none 0 0)) := fun j v hv => Keeps.below hb9 _ _ (hka.range j v hv)
        have row9 := (hb9.block _ (heap_lt hka.row)).trans hka.row
        have f9 : ∀ o, w9.frozen? ⟨w.heap.size + 1, o, none⟩ = false := fun o => (T9.frozen (a := ⟨w.heap.size + 1, o, none⟩) hka.size id).trans (hka.free o)
        have c933 : w9.cell? ⟨w.heap.size + 1, 33, none⟩ = some (.slice none 0 0) := by
          have q := rangeAt_cell r9 (entC_data (e := ⟨0, Kp, []⟩) hkl)
          rwa [Nat.zero_add] at q
        have r10 := ent_data (d' := Dp) (dv' := .slice a9 Dp.length c9) r9 hkl
        have T10 : Touch (fun x => x = w.heap.size + 1) w9 (w9.setCell ⟨w.heap.size + 1, 33, none⟩ (.slice a9 Dp.length c9)) := Touch.set (F := fun x => x = w.heap.size + 1) w9 _ _ _ rfl
        have row10 := (T10.block _ (heap_lt row9) (by omega)).trans row9
        have s8 := hka.size
        have hb10 := hb9w.trans (T10.below (fun x e => by have e : x = w.heap.size + 1 := e; omega) hb9w.size)
        have ha9 : ∀ ad, a9 = some ad → wr.heap.size ≤ ad.block := fun ad e => (row_lt o9 (by rw [e]; rfl)).1
        have ha9b : ∀ ad, a9 = some ad → ad.block < w9.heap.size := fun ad e => (row_lt o9 (by rw [e]; rfl)).2
        have d10 := T10.reads rd9 fun ad e => by have := ha9 ad e; show ¬ (ad.block = w.heap.size + 1); omega
        clear hka T9 r9 hb9w rd9 o9 hb9 HKA2 CL
        have hlE := length_entC (e := ⟨0, Kp, Dp⟩) (dv := .slice a9 (Dp : List (BitVec 8)).length c9) hkl
        have hiE := entry_size hlE
        have hiEl : (Tryd.prog.info? 26).map (·.size) = some (entC ⟨0, Kp, Dp⟩ (.slice a9 (Dp : List (BitVec 8)).length c9)).length := by rw [hlE]; kernel_rfl
        have hoE : (entC ⟨0, Kp, Dp⟩ (.slice a9 (Dp : List (BitVec 8)).length c9)).toArray.all (·.oneCell') = true := all_oneCell_toArray (one_entC ⟨0, Kp, Dp⟩ a9 (Dp : List (BitVec 8)).length c9)
        have hzE : Z.size = (entC ⟨0, Kp, Dp⟩ (.slice a9 (Dp : List (BitVec 8)).length c9)).toArray.size := by rw [HZL.out, List.size_toArray, hlE]
        have row11 := setRow_heap _ w.heap.size Z (entC ⟨0, Kp, Dp⟩ (.slice a9 (Dp : List (BitVec 8)).length c9)).toArray 26 (0, 0) row10
        have T11 : Touch (fun x => x = w.heap.size) (w9.setCell ⟨w.heap.size + 1, 33, none⟩ (.slice a9 Dp.length c9)) (((w9.setCell ⟨w.heap.size + 1, 33, none⟩ (.slice a9 Dp.length c9))).setRow w.heap.size (entC ⟨0, Kp, Dp⟩ (.slice a9 (Dp : List (BitVec 8)).length c9)).toArray) := Touch.setRow _ _ _ rfl
        have hb11 := hb10.trans (T11.below (fun x e => by have e : x = w.heap.size := e; omega) hb10.size)
        have d11 : Reads (((w9.setCell ⟨w.heap.size + 1, 33, none⟩ (.slice a9 Dp.length c9))).setRow w.heap.size (entC ⟨0, Kp, Dp⟩ (.slice a9 (Dp : List (BitVec 8)).length c9)).toArray) a9 c9 Dp := T11.reads d10 fun ad e => by have := ha9 ad e; show ¬ (ad.block = w.heap.size); omega
        have FIN := Lib.hid (HGOAL.out _ ⟨0, Kp, Dp⟩ a9 c9 (by rw [HEE.out, if_pos h41n, if_pos h41n, HT.out]) d11 (fun ad e => ⟨by have := ha9 ad e; omega, Nat.lt_of_lt_of_le (ha9b ad e) (Nat.le_trans T10.size T11.size)⟩) hb11)
        have HOE := Lib.hid hoE
        have HZE := Lib.hid hzE
        clear hoE hzE d11 hb11 T11 hb10 d10 ha9 ha9b T10
        generalize entC ⟨0, Kp, Dp⟩ (.slice a9 (Dp : List (BitVec 8)).length c9) = CE at *
        go_wp2_with (first
          | (with_reducible refine at_load 26 ?_; go_must (refine wpList_load_mid rfl 26 _ rfl (w.heap.size + 1) 0 rfl CE _ r10 Tryd.underlying26 rfl hiEl ?_))
          | (with_reducible refine at_store 26 ?_; go_must (refine wpList_store_row rfl 26 _ _ rfl w.heap.size CE.toArray rfl rfl _ Z row10 hiE HZE.out HOE.out ?_)))
        refine bodyPost_ret (results_cell3 rfl _ _ w.heap.size _ CE.toArray _ _ rfl row11 Tryd.underlying26 rfl hiE) rfl ?_
        exact FIN.out
theorem rread_any (a : Option Addr) (cap : Nat) (l : List (BitVec 8)) (w : World) (hr : Reads w a cap l) :
    Calls Tryd.prog 21 #[.slice a l.length cap] w (RdPost w l) := by
  by_cases h : (rd l).err = 0
  · exact rread_yes a cap l w hr h
  · exact rread_no a cap l w hr h
end Go.Proofs.YtmcdjkfmfhbbnaaDoor
