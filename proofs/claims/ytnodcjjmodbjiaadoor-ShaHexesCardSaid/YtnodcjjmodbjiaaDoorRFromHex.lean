/- Sums out of digits: the reference's FromHex. -/
import Derived.Test.YtnodcjjmodbjiaaDoorFromHex
namespace Go.Proofs.YtnodcjjmodbjiaaDoor
open Go Go.RowKit

/-- What stands at a place behind so many digits. -/
def halfB (l : List (BitVec 8)) (k j : Nat) : BitVec 8 := if 2 * j + 1 < k then pairB (byteAt l (2 * j)) (byteAt l (2 * j + 1)) else if 2 * j < k then BitVec.ofInt 8 (dig (byteAt l (2 * j))) else 0#8
theorem halfB_next (l : List (BitVec 8)) (k : Nat) : halfB l (k + 1) (k / 2) = halfB l k (k / 2) * 16#8 + BitVec.ofInt 8 (dig (byteAt l k)) := by
  unfold halfB
  rcases Nat.mod_two_eq_zero_or_one k with h | h
  · have e : 2 * (k / 2) = k := by omega
    rw [if_neg (by omega), if_pos (by omega), if_neg (by omega), if_neg (by omega), e]
    simp
  · have e : 2 * (k / 2) + 1 = k := by omega
    rw [if_pos (by omega), if_neg (by omega), if_pos (by omega), e]
    rfl
theorem halfB_other (l : List (BitVec 8)) (k j : Nat) (h : j ≠ k / 2) : halfB l (k + 1) j = halfB l k j := by
  unfold halfB
  by_cases h1 : 2 * j + 1 < k
  · rw [if_pos (by omega), if_pos h1]
  · by_cases h2 : 2 * j < k
    · omega
    · rw [if_neg (by omega), if_neg (by omega), if_neg h1, if_neg h2]
theorem zeroId_at (j : Nat) (h : j < 32) : byteAt zeroId j = 0#8 := by
  unfold byteAt zeroId
  rw [List.getD_eq_getElem?_getD, List.getElem?_replicate, if_pos h]; rfl
def RFromRel (l z : List (BitVec 8)) (gd B : Nat) (w : World) (i : Value) (wr : World) : Prop :=
  ∃ (k : Nat) (f : List (BitVec 8)), k ≤ 64 ∧ i = .int .i64 k ∧ f.length = 32 ∧ IdAt wr gd f ∧ (∀ j, j < 32 → byteAt f j = halfB l k j) ∧ (∀ j, j < k → 0 ≤ dig (byteAt l j)) ∧ IdAt wr B z ∧ Below B w wr
set_option maxHeartbeats 1000000 in
theorem rfromHex_any (l : List (BitVec 8)) (hl : l.length ≤ 80) (w : World) : Calls Tryd.prog 24 #[.string (bs l)] w (Reads6 l w) := by
  obtain ⟨z, hz0, hz⟩ := zero_id
  have hzz : z = zeroId := hz0
  have hzl : z.length = 32 := by rw [hz0]; rfl
  have hbz := built_zero
  rw [← hzz] at hbz
  have hiz := id_size z hzl
  have hoz := id_one z
  have HZ := Lib.hid hzz
  clear hz0 hzz
  obtain ⟨B, hB⟩ : ∃ B, w.heap.size = B := ⟨_, rfl⟩
  have i1 : IdAt (w.alloc (.cells (z.map U8).toArray 26)) B z := by rw [← hB]; exact heap_alloc_new w _
  have i2 : IdAt ((w.alloc (.cells (z.map U8).toArray 26)).alloc (.cells (z.map U8).toArray 26)) B z := i1.below ((Below.refl _ _).alloc (Nat.le_refl _) _)
  have d2 : IdAt ((w.alloc (.cells (z.map U8).toArray 26)).alloc (.cells (z.map U8).toArray 26)) (B + 1) z := by
    have := heap_alloc_new (w.alloc (.cells (z.map U8).toArray 26)) (.cells (z.map U8).toArray 26)
    have e : (w.alloc (.cells (z.map U8).toArray 26)).heap.size = B + 1 := by simp [hB]
    rw [e] at this; exact this
  have hb2 : Below B w ((w.alloc (.cells (z.map U8).toArray 26)).alloc (.cells (z.map U8).toArray 26)) := ((hB ▸ Below.refl _ _ : Below B w w).alloc (by omega) _).alloc (by simp; omega) _
  have hlen := bs_size l
  clear i1
  by_cases h64 : l.length = 64
  · have hlI : ((bs l).size : Int) = 64 := by rw [hlen, h64]; rfl
    have hneq : (((bs l).size : Int) != 64) = false := by rw [hlI]; rfl
    have IX := fun i (hi : i < l.length) w => run_index_bs l i hi w
    have HL := Lib.hid h64
    go_enter Tryd.func24, Tryd.ntmps24
    go_wp2_with fail
    generalize (w.alloc (.cells (z.map U8).toArray 26)).alloc (.cells (z.map U8).toArray 26) = w2 at *
    have hBle : B ≤ w.heap.size := by omega
    have HB := Lib.hid hB
    have hgd : w.heap.size + 1 = B + 1 := by omega
    clear hlI hneq hlen h64 hz
    go_loopw [5] (fun i wr => RFromRel l z (B + 1) B w i wr) (fun i _ => 64 - (intOf i).toNat)
    case atStart => exact ⟨0, z, by omega, rfl, hzl, d2, fun j h => by rw [halfB, if_neg (by omega), if_neg (by omega)]; rw [HZ.out]; exact zeroId_at j h, fun j h => by omega, i2, hb2⟩
    case round =>
      clear i2 d2 hb2
      obtain ⟨k, f, hk, rfl, hfl, hd, hj, hv, hi, hbw⟩ := hrel
      by_cases hlt : k < 64
      · have h1 := IX k (by have := HL.out; omega)
        have ra := dig_range (byteAt l k)
        have NB := fun w' => nibble_any (byteAt l k) w'
        obtain ⟨m, hm⟩ : ∃ m : Nat, (k : Int) / 2 = m := ⟨k / 2, by omega⟩
        have hmk : m = k / 2 := by omega
        have hm32 : m < 32 := by omega
        have hth := hd.thawed m
        have hcd := hd.cell (i := m) (by omega)
        have hfm := hj m hm32
        have HMK := Lib.hid hmk
        have HFM := Lib.hid hfm
        have HD := Lib.hid hd
        have HJ := Lib.hid hj
        have HV := Lib.hid hv
        have HI := Lib.hid hi
        have HBW := Lib.hid hbw
        clear hmk hfm hd hj hv hi hbw
        generalize hca : byteAt l k = ca at *
        generalize hfv : byteAt f m = fv at *
        have HCA := Lib.hid hca
        have HFV := Lib.hid hfv
        clear hca hfv
        by_cases hbad : dig ca < 0
        · have hnv : ¬ Valid l := fun hv => by
            have h1 := hv.2 k hlt
            rw [HCA.out] at h1
            omega
          have hnib : nibR ca = 16 := by unfold nibR; rw [if_pos hbad]
          rw [hnib] at NB
          have hi2 : wr.heap[B]? = some (.cells (z.map U8).toArray 26 (0, 0)) := HI.out
          have hivL := id_size zeroId rfl
          have hovL := id_one zeroId
          have hzfL : (z.map U8).toArray.size = (zeroId.map U8).toArray.size := by rw [HZ.out]
          have hr2 : (wr.setRow B (zeroId.map U8).toArray).heap[B]? = some (.cells (zeroId.map U8).toArray 26 (0, 0)) := setRow_heap wr B _ _ 26 _ hi2
          have tR : Touch (fun x => x = B) wr (wr.setRow B (zeroId.map U8).toArray) := Touch.setRow wr _ _ rfl
          have hbf := HBW.out.trans (tR.below (fun x e => by have e2 : x = B := e; omega) (by have := HBW.out.size; omega))
          have hfin := reads6_bad (w := w) hnv (w' := wr.setRow B (zeroId.map U8).toArray) (by rw [HB.out]; exact hbf)
          clear hbf hbad hth hcd ra hnv hnib hm
          go_wp2_with fail
          refine (NB _).mono ?_
          rintro e w' ⟨rfl, rfl⟩
          go_wp2_with (refine wpList_store_row rfl 26 _ _ rfl B (zeroId.map U8).toArray rfl rfl _ (z.map U8).toArray hi2 hivL hzfL hovL ?_)
          refine bodyPost_ret (results_cell_tmp rfl _ _ B _ (zeroId.map U8).toArray _ _ rfl hr2 Tryd.underlying26 rfl hivL) rfl ?_
          exact hfin
        · have hnib : nibR ca = dig ca := by unfold nibR; rw [if_neg hbad]
          rw [hnib] at NB
          obtain ⟨h, hh⟩ : ∃ h : Nat, dig ca = h := ⟨(dig ca).toNat, by omega⟩
          rw [hh] at NB
          have hdh : 0 ≤ dig ca := by omega
          have hh15 : (h : Int) ≤ 15 := by omega
          have hne : ((h : Int) == 16) = false := by simp; omega
          have NQ : ∀ j, Calls Tryd.prog 36 #[U8 ca] (wr.drewN j) fun e w'' => e = .returned (.int .i64 h) ∧ ∃ m, w'' = wr.drewN m := fun j => (NB _).mono fun _ _ ⟨he, hw⟩ => ⟨he, j, hw.symm⟩
          have HDH := Lib.hid hdh
          have HH := Lib.hid hh
          clear hbad ra hnib hh hdh
          go_wp2_with fail
          refine (NB _).mono ?_
          rintro e w' ⟨rfl, rfl⟩
          clear NB
          go_wp2_with fail
          refine wp_region_mid 14 (by kernel_rfl) (by kernel_rfl) rfl ?_
          simp only [List.take_succ_cons, List.take_zero, List.drop_zero]
          repeat (first | go_big_quiet_step (exact NQ _) | quiet_step (exact NQ _))
          refine wpQuiet_nil ?_
          intro j
          clear h1 NQ hne hm
          go_wp2
          clear hth hcd
          refine midPost_normal (rest_quiet (by kernel_rfl) ?_)
          simp only [List.drop_succ_cons, List.drop_nil]
          refine wpQuiet_nil ?_
          intro j'
          go_wp2
          go_roundw
          case rel =>
            have hmk := HMK.out
            have hnx := halfB_next l k
            rw [← hmk, ← HFM.out, HCA.out, HH.out, show BitVec.ofInt 8 (h : Int) = BitVec.ofNat 8 h from BitVec.ofInt_natCast 8 h] at hnx
            have t1 : Touch (fun x => x = B + 1) wr (wr.drewN j) := (Touch.refl _ _).drewN j
            have t2 : Touch (fun x => x = B + 1) (wr.drewN j) (((wr.drewN j).setCell ⟨B + 1, m, none⟩ (U8 (fv * 16#8 + BitVec.ofNat 8 h))).drewN j') := (Touch.set (F := fun x => x = B + 1) _ (B + 1) m _ rfl).drewN j'
            have t := t1.trans t2
            have hd3 : IdAt (((wr.drewN j).setCell ⟨B + 1, m, none⟩ (U8 (fv * 16#8 + BitVec.ofNat 8 h))).drewN j') (B + 1) (f.set m (fv * 16#8 + BitVec.ofNat 8 h)) := IdAt.set (w := wr.drewN j) HD.out m _
            refine ⟨k + 1, f.set m (fv * 16#8 + BitVec.ofNat 8 h), by omega, by go_num, by simp [hfl], hd3, fun q hq => ?_, fun q hq => ?_, HI.out.touch t (show ¬ (B = B + 1) by omega), HBW.out.trans (t.below (fun x e => by have e2 : x = B + 1 := e; omega) (by have := HBW.out.size; omega))⟩
            · rw [byteAt_set _ _ _ _ (by omega)]
              split
              · rename_i e; subst e; exact hnx.symm
              · rename_i e; rw [halfB_other l k q (by omega)]; exact HJ.out q hq
            · rcases Nat.lt_or_ge q k with h1 | h1
              · exact HV.out q h1
              · obtain rfl : q = k := by omega
                rw [HCA.out]; exact HDH.out
          case measure => simp [intOf]; omega
      · obtain rfl : k = 64 := by omega
        have hval : Valid l := ⟨HL.out, fun i hi => hv i hi⟩
        have e0 : f = fromB l := list_ext (by rw [hfl, length_fromB]) fun j h => by rw [hj j (by omega), fromB_at _ _ (by omega), halfB, if_pos (by omega)]
        have hiv := id_size f hfl
        have hov := id_one f
        have hzf : (z.map U8).toArray.size = (f.map U8).toArray.size := by rw [List.size_toArray, List.size_toArray, List.length_map, List.length_map, hfl, hzl]
        have hr2 : (wr.setRow B (f.map U8).toArray).heap[B]? = some (.cells (f.map U8).toArray 26 (0, 0)) := setRow_heap wr B _ _ 26 _ hi
        have tR : Touch (fun x => x = B) wr (wr.setRow B (f.map U8).toArray) := Touch.setRow wr _ _ rfl
        have hbf := (HB.out ▸ hbw : Below B w wr).trans (tR.below (fun x e => by have e2 : x = B := e; omega) (by have := hbw.size; omega))
        have hfin := reads6_ok (w := w) hval (w' := wr.setRow B (f.map U8).toArray) (by rw [HB.out]; exact hbf)
        rw [← e0] at hfin
        have hd2 : wr.heap[B + 1]? = some (.cells (f.map U8).toArray 26 (0, 0)) := hd
        have hi2 : wr.heap[B]? = some (.cells (z.map U8).toArray 26 (0, 0)) := hi
        clear hbf hd hi hj hv hbw hval e0
        generalize (f.map U8).toArray = E at *
        go_wp2_with (first | (refine wpList_load_row rfl 26 _ rfl (B + 1) rfl _ E _ _ hd2 Tryd.underlying26 rfl hiv ?_) | (refine wpList_store_row rfl 26 _ _ rfl B E rfl rfl _ (z.map U8).toArray hi2 hiv hzf hov ?_))
        refine bodyPost_ret (results_cell_tmp rfl _ _ B _ E _ _ rfl hr2 Tryd.underlying26 rfl hiv) rfl ?_
        exact hfin
  · have hneq : (((bs l).size : Int) != 64) = true := by rw [hlen]; simp; omega
    have hnv : ¬ Valid l := fun hv => h64 hv.1
    have hi2 : ((w.alloc (.cells (z.map U8).toArray 26)).alloc (.cells (z.map U8).toArray 26)).heap[B]? = some (.cells (z.map U8).toArray 26 (0, 0)) := i2
    have hd2 : ((w.alloc (.cells (z.map U8).toArray 26)).alloc (.cells (z.map U8).toArray 26)).heap[B + 1]? = some (.cells (z.map U8).toArray 26 (0, 0)) := d2
    have hr2 : (((w.alloc (.cells (z.map U8).toArray 26)).alloc (.cells (z.map U8).toArray 26)).setRow B (z.map U8).toArray).heap[B]? = some (.cells (z.map U8).toArray 26 (0, 0)) := setRow_heap _ B _ _ 26 _ hi2
    have tR : Touch (fun x => x = B) ((w.alloc (.cells (z.map U8).toArray 26)).alloc (.cells (z.map U8).toArray 26)) (((w.alloc (.cells (z.map U8).toArray 26)).alloc (.cells (z.map U8).toArray 26)).setRow B (z.map U8).toArray) := Touch.setRow _ _ _ rfl
    have hbf := hb2.trans (tR.below (fun x e => by have e2 : x = B := e; omega) (by have := hb2.size; omega))
    have hfin := reads6_bad (w := w) hnv (w' := ((w.alloc (.cells (z.map U8).toArray 26)).alloc (.cells (z.map U8).toArray 26)).setRow B (z.map U8).toArray) (by rw [hB]; exact hbf)
    rw [← HZ.out] at hfin
    clear hbf i2 d2 hb2 hlen h64 hnv tR
    generalize (z.map U8).toArray = E at *
    go_enter Tryd.func24, Tryd.ntmps24
    go_wp2_with (first | (refine wpList_load_row rfl 26 _ rfl (B + 1) rfl _ E _ _ hd2 Tryd.underlying26 rfl hiz ?_) | (refine wpList_store_row rfl 26 _ _ rfl B E rfl rfl _ E hi2 hiz rfl hoz ?_))
    refine bodyPost_ret (results_cell_tmp rfl _ _ B _ E _ _ rfl hr2 Tryd.underlying26 rfl hiz) rfl ?_
    exact hfin
end Go.Proofs.YtnodcjjmodbjiaaDoor
