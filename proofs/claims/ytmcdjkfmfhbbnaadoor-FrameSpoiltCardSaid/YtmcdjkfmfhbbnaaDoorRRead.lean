/- The reference's Read: what it leans on; where it finds none. -/
import Derived.Test.YtmcdjkfmfhbbnaaDoorRead
import Derived.Test.YtmcdjkfmfhbbnaaDoorREnc
namespace Go.Proofs.YtmcdjkfmfhbbnaaDoor
open Go Go.RowKit

theorem conv_64_i64 {P : Program} {w : World} {src dst : TypeId} (x : BitVec 64) (hx : x.toNat < 9223372036854775808) (hs : (P.underlying src).isSome = true) (hd : P.underlying dst = some (.int .i64)) : (convert src dst (U64 x)).run P w = .ok (.int .i64 x.toNat) w := by
  have hk : P.intKind dst = .i64 := by simp [Program.intKind, hd]
  have h := run_convert_int (P := P) w src dst .u64 x.toNat hs (by rw [hk]; exact hd)
  rw [hk, IntWalk.i64_in _ (by omega)] at h
  exact h
theorem rnum (b off cap : Nat) (l : List (BitVec 8)) (w : World) (h : 9 ≤ l.length) (hc : l.length ≤ cap) (hb : BytesAt w b off l) :
    Calls Tryd.prog 37 #[.slice (some ⟨b, off + 4, none⟩) 4 (cap - 4)] w fun e w' => e = .returned (.tuple #[U64 (leOf ((l.drop 4).take 4)), .bool true]) ∧ w = w' :=
  rget_at b (off + 4) (cap - 4) 4 ((l.drop 4).take 4) w (by rw [List.length_take, List.length_drop]; omega) (by rw [List.length_take, List.length_drop]; omega) (by rw [List.length_take]; omega) ((hb.drop 4).take 4)
theorem rnum0 (b off cap : Nat) (l : List (BitVec 8)) (w : World) (h : 9 ≤ l.length) (hb : BytesAt w b off l) :
    Calls Tryd.prog 37 #[.slice (some ⟨b, off, none⟩) 4 cap] w fun e w' => e = .returned (.tuple #[U64 (leOf (l.take 4)), .bool true]) ∧ w = w' :=
  rget_at b off cap 4 (l.take 4) w (by rw [List.length_take]; omega) (by rw [List.length_take]; omega) (by rw [List.length_take]; omega) (hb.take 4)
theorem num64 (l : List (BitVec 8)) : (leOf ((l.drop 4).take 4)).toNat = numAt l 4 := leOf_toNat _ (by rw [List.length_take]; omega)
theorem num64' (l : List (BitVec 8)) : (leOf (l.take 4)).toNat = numAt l 0 := leOf_toNat _ (by rw [List.length_take]; omega)
/-- Tags and sizes that do not fit, one after the other. -/
theorem unfit {t n : Nat} (h : fits t n = false) : 2 < t ∨ (t = 2 ∧ n ≠ 9) ∨ (t = 1 ∧ n ≠ 41) ∨ (t = 0 ∧ n < 41) ∨ (t = 0 ∧ ¬ n < 41 ∧ 16425 < n) := by
  unfold fits at h
  split at h
  · simp at h; omega
  · split at h
    · simp at h; omega
    · split at h
      · simp at h; omega
      · omega
theorem fit {t n : Nat} (h : fits t n = true) : (t = 2 ∧ n = 9) ∨ (t = 1 ∧ n = 41) ∨ (t = 0 ∧ 41 ≤ n ∧ n ≤ 16425) := by
  unfold fits at h
  split at h
  · simp at h; omega
  · split at h
    · simp at h; omega
    · split at h
      · simp at h; omega
      · cases h
set_option maxHeartbeats 4000000 in
set_option maxRecDepth 40000 in
theorem rread_no (a : Option Addr) (cap : Nat) (l : List (BitVec 8)) (w : World) (hr : Reads w a cap l) (hno : (rd l).err ≠ 0) :
    Calls Tryd.prog 21 #[.slice a l.length cap] w (RdPost w l) := by
  have hz := zero_c
  have hbz := built_zero
  have hlz : (entC zeroEnt (.slice none 0 0)).length = 34 := length_entC rfl
  have hiZ : (Tryd.prog.info? 26).map (·.size) = some zeroC.size := entry_size hlz
  have hoZ : zeroC.all (·.oneCell') = true := all_oneCell_toArray (one_entC zeroEnt none 0 0)
  have row1 := heap_alloc_new w (.cells zeroC 26)
  have hb1 := (Below.refl w.heap.size w).alloc (Nat.le_refl _) (.cells zeroC 26)
  have T2 : Touch (fun x => x = w.heap.size) (w.alloc (.cells zeroC 26)) ((w.alloc (.cells zeroC 26)).setRow w.heap.size zeroC) := Touch.setRow _ _ _ rfl
  have row2 := setRow_heap (w.alloc (.cells zeroC 26)) w.heap.size zeroC zeroC 26 (0, 0) row1
  have hb2 := hb1.trans (T2.below (fun x e => by have e : x = w.heap.size := e; omega) hb1.size)
  have hfit := hr.fits
  have hroom := hr.room
  have ERR := Lib.hid (fun (e : Int) (h : rd l = rdErr e) => rd_err h hb2)
  by_cases h9 : l.length < 9
  · have HE := Lib.hid (ERR.out 3 (rd_short h9))
    have h9' : (l.length : Int) < 9 := by omega
    clear hr h9 T2 hb1 hb2 ERR hno
    generalize zeroC = Z at *
    go_enter Tryd.func21, Tryd.ntmps21
    go_wp2_with (first
      | (with_reducible refine at_build 26 ?_; go_must (refine wpList_built' rfl 26 _ rfl Z (by go_simp) ?_))
      | (with_reducible refine at_store 26 ?_; go_must (refine wpList_store_row rfl 26 _ _ rfl w.heap.size Z rfl rfl _ Z row1 hiZ rfl hoZ ?_)))
    refine bodyPost_ret (results_cell3 rfl _ _ w.heap.size _ Z _ _ rfl row2 Tryd.underlying26 rfl hiZ) rfl ?_
    exact HE.out
  · obtain ⟨b, off, rfl, hby⟩ := hr.bytes.resolve_left (fun e => h9 (by rw [e]; decide))
    have h9' : ¬ (l.length : Int) < 9 := by omega
    have by1 := hby.mono (w' := w.alloc (.cells zeroC 26)) fun o v hv => Keeps.below hb1 _ _ hv
    have c8 := by1 8 (by omega)
    have hn32 := numAt_lt l 4
    have NU := rnum b off cap l (w.alloc (.cells zeroC 26)) (by omega) hfit by1
    have NU0 := rnum0 b off cap l (w.alloc (.cells zeroC 26)) (by omega) by1
    have hX := num64 l
    have hY := num64' l
    have sl48 : ∀ W, (Instr.slice 24 (.slice (some ⟨b, off, none⟩) l.length cap) (some (.int .i64 4)) (some (.int .i64 8)) none).run Tryd.prog W = .ok (.slice (some ⟨b, off + 4, none⟩) 4 (cap - 4)) W := fun W => by
      rw [run_slice_both byteSlice W (some ⟨b, off, none⟩) l.length cap .i64 .i64 4 8 4 8 rfl rfl (by omega) (by omega), dropAddr_some (by omega)]
    have sl04 : ∀ W, (Instr.slice 24 (.slice (some ⟨b, off, none⟩) l.length cap) (some (.int .i64 0)) (some (.int .i64 4)) none).run Tryd.prog W = .ok (.slice (some ⟨b, off, none⟩) 4 cap) W := fun W => by
      rw [run_slice_both byteSlice W (some ⟨b, off, none⟩) l.length cap .i64 .i64 0 4 0 4 rfl rfl (by omega) (by omega), dropAddr_some (by omega)]
      rfl
    have hcv : ∀ W, (convert 66 3 (U64 (leOf ((l.drop 4).take 4)))).run Tryd.prog W = .ok (.int .i64 (numAt l 4)) W := fun W => by
      rw [conv_64_i64 _ (by rw [hX]; omega) (by kernel_rfl) Tryd.underlying3, hX]
    have r1 := hr.keeps (Keeps.below hb1)
    have ht : (byteAt l 8).toNat < 256 := (byteAt l 8).isLt
    by_cases hf : fits (byteAt l 8).toNat (numAt l 4) = false
    · have HE := Lib.hid (ERR.out 4 (rd_form h9 hf))
      have hu := unfit hf
      clear hr h9 T2 hb1 hb2 ERR NU0 hby by1 r1 hf hno hX hY sl04
      generalize byteAt l 8 = t at *
      generalize numAt l 4 = n at *
      generalize leOf ((l.drop 4).take 4) = X at *
      generalize zeroC = Z at *
      have hcase : decide ((2 : Int) < (t.toNat : Int)) = true ∨ ((t.toNat : Int) = 2 ∧ ((n : Int) != 9) = true) ∨ ((t.toNat : Int) = 1 ∧ ((n : Int) != 41) = true) ∨ ((t.toNat : Int) = 0 ∧ decide ((n : Int) < 41) = true) ∨ ((t.toNat : Int) = 0 ∧ decide ((n : Int) < 41) = false ∧ decide ((16425 : Int) < (n : Int)) = true) := by
        rcases hu with h | ⟨h, h2⟩ | ⟨h, h2⟩ | ⟨h, h2⟩ | ⟨h, h2, h3⟩
        · exact .inl (decide_eq_true (by omega))
        · exact .inr (.inl ⟨by omega, by simp; omega⟩)
        · exact .inr (.inr (.inl ⟨by omega, by simp; omega⟩))
        · exact .inr (.inr (.inr (.inl ⟨by omega, decide_eq_true (by omega)⟩)))
        · exact .inr (.inr (.inr (.inr ⟨by omega, decide_eq_false (by omega), decide_eq_true (by omega)⟩)))
      clear hu
      rcases hcase with h | ⟨h, h2⟩ | ⟨h, h2⟩ | ⟨h, h2⟩ | ⟨h, h2, h3⟩
      all_goals
        go_enter Tryd.func21, Tryd.ntmps21
        go_wp2_with (first
          | (go_at_call 37; refine NU.mono ?_; rintro e w' ⟨rfl, rfl⟩)
          | (with_reducible refine at_build 26 ?_; go_must (refine wpList_built' rfl 26 _ rfl Z (by go_simp) ?_))
          | (with_reducible refine at_store 26 ?_; go_must (refine wpList_store_row rfl 26 _ _ rfl w.heap.size Z rfl rfl _ Z row1 hiZ rfl hoZ ?_)))
        refine bodyPost_ret (results_cell3 rfl _ _ w.heap.size _ Z _ _ rfl row2 Tryd.underlying26 rfl hiZ) rfl ?_
        exact HE.out
    · have hf : fits (byteAt l 8).toNat (numAt l 4) = true := by simpa using hf
      obtain ⟨hn9, hnM, ht2, _, _⟩ := fits_le hf
      have hu := fit hf
      have hcase : ((byteAt l 8).toNat : Int) = 2 ∧ ((numAt l 4 : Int) != 9) = false ∨ ((byteAt l 8).toNat : Int) = 1 ∧ ((numAt l 4 : Int) != 41) = false ∨ ((byteAt l 8).toNat : Int) = 0 ∧ decide ((numAt l 4 : Int) < 41) = false ∧ decide ((16425 : Int) < (numAt l 4 : Int)) = false := by
        rcases hu with ⟨h, h2⟩ | ⟨h, h2⟩ | ⟨h, h2, h3⟩
        · exact .inl ⟨by omega, by simp; omega⟩
        · exact .inr (.inl ⟨by omega, by simp; omega⟩)
        · exact .inr (.inr ⟨by omega, decide_eq_false (by omega), decide_eq_false (by omega)⟩)
      clear hu
      by_cases hnl : l.length < numAt l 4
      · have HE := Lib.hid (ERR.out 3 (rd_cut h9 hf hnl))
        have hnl' : (l.length : Int) < (numAt l 4 : Int) := by omega
        clear hr h9 T2 hb1 hb2 ERR NU0 hby by1 r1 hf hno hX hY sl04
        generalize byteAt l 8 = t at *
        generalize numAt l 4 = n at *
        generalize leOf ((l.drop 4).take 4) = X at *
        generalize zeroC = Z at *
        rcases hcase with ⟨h, h2⟩ | ⟨h, h2⟩ | ⟨h, h2, h3⟩
        all_goals
          go_enter Tryd.func21, Tryd.ntmps21
          go_wp2_with (first
            | (go_at_call 37; refine NU.mono ?_; rintro e w' ⟨rfl, rfl⟩)
            | (with_reducible refine at_build 26 ?_; go_must (refine wpList_built' rfl 26 _ rfl Z (by go_simp) ?_))
            | (with_reducible refine at_store 26 ?_; go_must (refine wpList_store_row rfl 26 _ _ rfl w.heap.size Z rfl rfl _ Z row1 hiZ rfl hoZ ?_)))
          refine bodyPost_ret (results_cell3 rfl _ _ w.heap.size _ Z _ _ rfl row2 Tryd.underlying26 rfl hiZ) rfl ?_
          exact HE.out
      · have sl4n := run_slice_both byteSlice (w.alloc (.cells zeroC 26)) (some ⟨b, off, none⟩) l.length cap .i64 .i64 4 (numAt l 4) 4 (numAt l 4) rfl rfl (by omega) (by omega)
        rw [dropAddr_some (by omega)] at sl4n
        have hlt4 : ((l.take (numAt l 4)).drop 4).length = numAt l 4 - 4 := by rw [List.length_drop, List.length_take]; omega
        have rs := (r1.take (numAt l 4)).drop 4 (by rw [List.length_take]; omega)
        rw [dropAddr_some (by omega)] at rs
        have SU := rsum_at ((l.take (numAt l 4)).drop 4) (w.alloc (.cells zeroC 26)) hlt4 rs
        have hnl' : ¬ (l.length : Int) < (numAt l 4 : Int) := by omega
        by_cases hs : (CrcMath.sum ((l.take (numAt l 4)).drop 4)).toNat = numAt l 0
        · exact (hno (by rw [rd_yes h9 hf hnl hs])).elim
        · have HE := Lib.hid (ERR.out 13 (rd_sum h9 hf hnl hs))
          have hsne : ((CrcMath.sum ((l.take (numAt l 4)).drop 4)).setWidth 64 != leOf (l.take 4)) = true := by
            rw [bne_iff_ne]
            intro e
            refine hs ?_
            rw [← hY, ← e, BitVec.toNat_setWidth]
            have := (CrcMath.sum ((l.take (numAt l 4)).drop 4)).isLt
            omega
          clear hr h9 T2 hb1 hb2 ERR hby by1 r1 hf hno hX hY rs hlt4 hs
          generalize CrcMath.sum ((l.take (numAt l 4)).drop 4) = S at *
          generalize leOf (l.take 4) = Y at *
          generalize byteAt l 8 = t at *
          generalize numAt l 4 = n at *
          generalize leOf ((l.drop 4).take 4) = X at *
          generalize zeroC = Z at *
          rcases hcase with ⟨h, h2⟩ | ⟨h, h2⟩ | ⟨h, h2, h3⟩
          all_goals
            go_enter Tryd.func21, Tryd.ntmps21
            go_wp2_with fail
            refine NU.mono ?_
            rintro e w' ⟨rfl, rfl⟩
            go_wp2_with fail
            refine NU0.mono ?_
            rintro e w' ⟨rfl, rfl⟩
            go_wp2_with (first
              | (go_at_call 33; refine SU.mono ?_; rintro e w' ⟨rfl, rfl⟩)
              | (with_reducible refine at_build 26 ?_; go_must (refine wpList_built' rfl 26 _ rfl Z (by go_simp) ?_))
              | (with_reducible refine at_store 26 ?_; go_must (refine wpList_store_row rfl 26 _ _ rfl w.heap.size Z rfl rfl _ Z row1 hiZ rfl hoZ ?_)))
            refine bodyPost_ret (results_cell3 rfl _ _ w.heap.size _ Z _ _ rfl row2 Tryd.underlying26 rfl hiZ) rfl ?_
            exact HE.out
end Go.Proofs.YtmcdjkfmfhbbnaaDoor
