/- The schedule of a block: the program's. -/
import Derived.Test.YtnodcjjmodbjiaaDoorArr
namespace Go.Proofs.YtnodcjjmodbjiaaDoor
open Go Go.RowKit

theorem wide_shl (x : BitVec 64) : (x <<< 8).setWidth 32 = x.setWidth 32 <<< 8 := by
  apply BitVec.eq_of_getLsbD_eq
  intro i hi
  simp only [BitVec.getLsbD_setWidth, BitVec.getLsbD_shiftLeft, hi, decide_true, Bool.true_and, show i < 64 by omega]
  by_cases h : i < 8
  · simp [h]
  · simp [h, show i - 8 < 32 by omega]
theorem wide_byte (c : BitVec 8) : (c.setWidth 64).setWidth 32 = c.setWidth 32 := by
  apply BitVec.eq_of_getLsbD_eq
  intro i hi
  simp only [BitVec.getLsbD_setWidth, hi, decide_true, Bool.true_and, show i < 64 by omega]
theorem big4 (l : List (BitVec 8)) (h : l.length = 4) : (bigOf l).setWidth 32 = Sha.be4 (byteAt l 0) (byteAt l 1) (byteAt l 2) (byteAt l 3) := by
  match l, h with
  | [a, b, c, d], _ =>
    simp only [bigOf, List.foldl_cons, List.foldl_nil, BitVec.setWidth_or, wide_shl, wide_byte, Sha.be4, byteAt, List.getD_eq_getElem?_getD]
    simp
theorem zero_words : ∃ z : Words, (∀ w, Sem.run Tryd.prog (zeroValue 60) w = .ok (.agg (arr z)) w) ∧ z.length = 64 := ⟨List.replicate 64 0#32, fun w => by kernel_rfl, by simp⟩
def SchedRel1 (z : Words) (w : World) (l : List (BitVec 8)) (i : Value) (wr : World) : Prop :=
  ∃ (k : Nat) (f : Words), k ≤ 16 ∧ i = .int .i64 k ∧ f.length = 64 ∧ (∀ j, j < k → wordAt f j = Sha.word l j) ∧ ArrAt wr w.heap.size 60 z ∧ ArrAt wr (w.heap.size + 1) 60 f ∧ Below w.heap.size w wr
def SchedRel2 (z : Words) (w : World) (S : Words) (i : Value) (wr : World) : Prop :=
  ∃ (k : Nat) (f : Words), 16 ≤ k ∧ k ≤ 64 ∧ i = .int .i64 k ∧ f.length = 64 ∧ (∀ j, j < k → wordAt f j = wordAt S j) ∧ ArrAt wr w.heap.size 60 z ∧ ArrAt wr (w.heap.size + 1) 60 f ∧ Below w.heap.size w wr
theorem SchedRel2.step {z S f : Words} {w wr W : World} {k j : Nat} {v : Value} {i : Value} (h0 : 16 ≤ k) (hk : k < 64) (hf : f.length = 64) (hw : ∀ j, j < k → wordAt f j = wordAt S j) (hr : ArrAt wr w.heap.size 60 z) (hv : ArrAt wr (w.heap.size + 1) 60 f) (hb : Below w.heap.size w wr)
    (t : Touch (fun _ => False) wr W) (e : v = U32 (wordAt S k)) (hi : i = .int .i64 (k + 1 : Nat)) : SchedRel2 z w S i ((W.setCell ⟨w.heap.size + 1, k, none⟩ v).drewN j) := by
  subst e
  have hs := hb.size
  have hv1 := hv.touch t fun e => e
  have t2 : Touch (fun q => q = w.heap.size + 1) wr ((W.setCell ⟨w.heap.size + 1, k, none⟩ (U32 (wordAt S k))).drewN j) := ((t.mono fun _ e => e.elim).trans (Touch.set (F := fun q => q = w.heap.size + 1) W (w.heap.size + 1) k _ rfl)).drewN j
  refine ⟨k + 1, f.set k (wordAt S k), by omega, by omega, hi, by simp [hf], fun q hq => ?_, hr.touch t2 (by omega), (hv1.set k _).drewN j, hb.trans (t2.below (fun q e => by omega) hs)⟩
  rw [wordAt_set _ _ _ _ (by omega)]
  split
  · rename_i e; subst e; rfl
  · exact hw q (by omega)
set_option maxHeartbeats 800000 in
theorem sched_any (b off cap : Nat) (l : List (BitVec 8)) (w : World) (hl : l.length = 64) (hcap : 64 ≤ cap) (hcm : cap ≤ 9223372036854775807) (hb : BytesAt w b off l) :
    Calls Tryd.prog 40 #[.slice (some ⟨b, off, none⟩) 64 cap] w fun e w' => e = .returned (.agg (arr (Sha.sched l))) ∧ Below w.heap.size w w' := by
  obtain ⟨z, hz, hzl⟩ := zero_words
  have hS := Lib.hid (Sha.length_sched l)
  have hlow := Lib.hid (Sha.sched_low l)
  have hhigh := Lib.hid (Sha.sched_high l)
  generalize Sha.sched l = S at *
  go_enter Tryd.func40, Tryd.ntmps40
  go_wp2
  have r0 : ArrAt ((w.alloc (.cells (arr z) 60)).alloc (.cells (arr z) 60)) w.heap.size 60 z := (ArrAt.new w _ _).touch (F := fun _ => False) ((Touch.refl _ _).alloc _) fun e => e
  have v0 : ArrAt ((w.alloc (.cells (arr z) 60)).alloc (.cells (arr z) 60)) (w.heap.size + 1) 60 z := by
    have := ArrAt.new (w.alloc (.cells (arr z) 60)) 60 z
    simpa using this
  have hb0 : Below w.heap.size w ((w.alloc (.cells (arr z) 60)).alloc (.cells (arr z) 60)) := ((Below.refl _ _).alloc (Nat.le_refl _) _).alloc (by simp) _
  clear hz
  generalize (w.alloc (.cells (arr z) 60)).alloc (.cells (arr z) 60) = w1 at *
  go_loopw [4, 5, 6, 12, 15] (fun _ _ _ i _ wr => SchedRel1 z w l i wr) (fun _ _ _ i _ _ => 16 - (intOf i).toNat)
  case atStart => exact ⟨0, _, by omega, rfl, hzl, fun j h => by omega, r0, v0, hb0⟩
  case round =>
    clear r0 v0 hb0
    obtain ⟨k, f, hk, rfl, hf, hw, hr, hv, hbw⟩ := hrel
    by_cases hlt : k < 16
    · have hs := fun w => run_slice_both (P := Tryd.prog) byteSlice w (some ⟨b, off, none⟩) 64 cap .i64 .i64 (4 * k) (4 * k + 4) (4 * (k : Int)) (4 * (k : Int) + 4) (by omega) (by omega) (by omega) (by omega)
      have hda : dropAddr (some ⟨b, off, none⟩) cap (4 * k) = some ⟨b, off + 4 * k, none⟩ := by
        unfold dropAddr
        rw [if_neg (by omega), Option.map_some, Addr.add_lit]
      rw [hda, show 4 * k + 4 - 4 * k = 4 by omega] at hs
      have hm4 : ((l.drop (4 * k)).take 4).length = 4 := by rw [List.length_take, List.length_drop]; omega
      have hbm : BytesAt wr b (off + 4 * k) ((l.drop (4 * k)).take 4) := ((hb.mono (Keeps.below hbw ⟨b, ·, none⟩)).drop (4 * k)).take 4
      have GB := getBig_any b (off + 4 * k) (cap - 4 * k) _ wr (by omega) (by omega) hbm
      have hbig := big4 _ hm4
      have hbyte : ∀ j, j < 4 → byteAt ((l.drop (4 * k)).take 4) j = byteAt l (4 * k + j) := fun j hj => by rw [byteAt_take hj, byteAt_drop]
      rw [hm4] at GB
      rw [hbyte 0 (by omega), hbyte 1 (by omega), hbyte 2 (by omega), hbyte 3 (by omega)] at hbig
      have hbig2 : (bigOf ((l.drop (4 * k)).take 4)).setWidth 32 = Sha.word l k := hbig
      have HB := Lib.hid hbig2
      have hcell := hv.cell (i := k) (by omega)
      have hth := hv.thawed k
      clear hbig hbig2 hbyte hm4 hbm hda
      generalize bigOf ((l.drop (4 * k)).take 4) = x at *
      have HV := Lib.hid hv
      have HR := Lib.hid hr
      have HW := Lib.hid hw
      have HBW := Lib.hid hbw
      clear hv hr hw hbw hb
      go_wp2_with fail
      refine GB.mono ?_
      rintro e w2 ⟨rfl, rfl⟩
      clear GB hs
      go_wp2
      go_roundw
      case rel =>
        have t : Touch (fun q => q = w.heap.size + 1) wr (wr.setCell ⟨w.heap.size + 1, k, none⟩ (U32 (x.setWidth 32))) := Touch.set wr (w.heap.size + 1) k (U32 (x.setWidth 32)) rfl
        refine ⟨k + 1, f.set k (x.setWidth 32), by omega, by go_num, by simp [hf], fun j hj => ?_, HR.out.touch t (by omega), HV.out.set k _, HBW.out.trans (t.below (fun q e => by omega) HBW.out.size)⟩
        rw [wordAt_set _ _ _ _ (by omega)]
        split
        · rename_i e; subst e; exact HB.out
        · exact HW.out j (by omega)
      case measure => simp [intOf]; omega
    · obtain rfl : k = 16 := by omega
      rw [show (((16 : Nat) : Int)) = 16 from rfl]
      have rel2 : SchedRel2 z w S (.int .i64 16) wr := ⟨16, f, by omega, by omega, rfl, hf, fun j hj => by rw [hw j hj]; exact (hlow.out j hj).symm, hr, hv, hbw⟩
      clear hw hr hv hbw hb
      go_wp2
      go_loopw [7] (fun i wr => SchedRel2 z w S i wr) (fun i _ => 64 - (intOf i).toNat)
      case atStart => exact rel2
      case round =>
        clear rel2
        obtain ⟨k, f, hk0, hk, rfl, hf, hw, hr, hv, hbw⟩ := hrel
        by_cases hlt : k < 64
        · obtain ⟨n15, e15⟩ : ∃ n : Nat, (k : Int) - 15 = n := ⟨k - 15, by omega⟩
          obtain ⟨n2, e2⟩ : ∃ n : Nat, (k : Int) - 2 = n := ⟨k - 2, by omega⟩
          obtain ⟨n16, e16⟩ : ∃ n : Nat, (k : Int) - 16 = n := ⟨k - 16, by omega⟩
          obtain ⟨n7, e7⟩ : ∃ n : Nat, (k : Int) - 7 = n := ⟨k - 7, by omega⟩
          have c15 := hv.cell (i := n15) (by omega)
          have c2 := hv.cell (i := n2) (by omega)
          have c16 := hv.cell (i := n16) (by omega)
          have c7 := hv.cell (i := n7) (by omega)
          have ck := hv.cell (i := k) (by omega)
          have hth := hv.thawed k
          have l15 : n15 < 64 := by omega
          have l2 : n2 < 64 := by omega
          have l16 : n16 < 64 := by omega
          have l7 : n7 < 64 := by omega
          go_wp2
          go_quiet (fail)
          have hx15 := hw n15 (by omega)
          have hx2 := hw n2 (by omega)
          have hx16 := hw n16 (by omega)
          have hx7 := hw n7 (by omega)
          have hnext := hhigh.out k hk0 hlt
          have hnext2 : wordAt S k = wordAt S n16 + Sha.small0 (wordAt S n15) + wordAt S n7 + Sha.small1 (wordAt S n2) := by
            rw [show n16 = k - 16 by omega, show n15 = k - 15 by omega, show n7 = k - 7 by omega, show n2 = k - 2 by omega]; exact hnext
          rw [← hx15, ← hx2, ← hx16, ← hx7] at hnext2
          have HN := Lib.hid hnext2
          have HV := Lib.hid hv
          have HR := Lib.hid hr
          have HW := Lib.hid hw
          have HBW := Lib.hid hbw
          clear hx15 hx2 hx16 hx7 hnext hnext2 hv hr hw hbw
          generalize wordAt f n15 = x15 at *
          generalize wordAt f n2 = x2 at *
          generalize wordAt f n16 = x16 at *
          generalize wordAt f n7 = x7 at *
          have R7 : ∀ v, Calls Tryd.prog 41 #[U32 x15, .int .i64 7] v (Gives v (U32 (Sha.rotr x15 7))) := fun v => right_any x15 7 (by decide) (by decide) v
          have R18 : ∀ v, Calls Tryd.prog 41 #[U32 x15, .int .i64 18] v (Gives v (U32 (Sha.rotr x15 18))) := fun v => right_any x15 18 (by decide) (by decide) v
          have R17 : ∀ v, Calls Tryd.prog 41 #[U32 x2, .int .i64 17] v (Gives v (U32 (Sha.rotr x2 17))) := fun v => right_any x2 17 (by decide) (by decide) v
          have R19 : ∀ v, Calls Tryd.prog 41 #[U32 x2, .int .i64 19] v (Gives v (U32 (Sha.rotr x2 19))) := fun v => right_any x2 19 (by decide) (by decide) v
          go_wp2_with fail
          refine (R7 _).mono ?_
          rintro e w' ⟨m1, rfl, rfl⟩
          go_wp2_with fail
          refine (R18 _).mono ?_
          rintro e w' ⟨m2, rfl, rfl⟩
          go_wp2_with fail
          refine (R17 _).mono ?_
          rintro e w' ⟨m3, rfl, rfl⟩
          go_wp2_with fail
          refine (R19 _).mono ?_
          rintro e w' ⟨m4, rfl, rfl⟩
          go_wp2_with fail
          refine wp_region_mid 15 (by kernel_rfl) (by kernel_rfl) rfl ?_
          simp only [List.take_succ_cons, List.take_zero, List.drop_zero]
          repeat (first | go_big_quiet_step (fail) | quiet_step (fail))
          refine wpQuiet_nil ?_
          intro j
          go_wp2
          refine midPost_normal (rest_quiet (by kernel_rfl) ?_)
          simp only [List.drop_succ_cons, List.drop_nil]
          refine wpQuiet_nil ?_
          intro j'
          clear R7 R18 R17 R19 c15 c2 c16 c7 ck hth e15 e2 e16 e7
          go_wp2
          go_roundw
          case rel =>
            refine SchedRel2.step hk0 hlt hf HW.out HR.out HV.out HBW.out ?_ (by rw [HN.out]; rfl) (by go_num)
            repeat (first | exact Touch.refl _ _ | refine Touch.drewN ?_ _)
          case measure => simp [intOf]; omega
        · obtain rfl : k = 64 := by omega
          have e0 : f = S := words_ext (by rw [hf, hS.out]) fun i hi => hw i (by omega)
          subst e0
          have hi : (Tryd.prog.info? 60).map (·.size) = some (arr f).size := by rw [arr_size, hf]; kernel_rfl
          have hzf : (arr z).size = (arr f).size := by rw [arr_size, arr_size, hzl, hf]
          have hone := arr_one f
          have HB := Lib.hid hbw
          have hr2 := hr.row f
          have tR : Touch (fun q => q = w.heap.size) wr (wr.setRow w.heap.size (arr f)) := Touch.setRow wr _ _ rfl
          have hr1 : wr.heap[w.heap.size]? = some (.cells (arr z) 60 (0, 0)) := hr
          have hv1 : wr.heap[w.heap.size + 1]? = some (.cells (arr f) 60 (0, 0)) := hv
          clear hr hv hbw hw
          go_wp2_with (first | (refine wpList_load_row rfl 60 _ rfl (w.heap.size + 1) rfl _ (arr f) _ _ hv1 Tryd.underlying60 rfl hi ?_) | (refine wpList_store_row rfl 60 _ _ rfl w.heap.size (arr f) rfl rfl _ (arr z) hr1 hi hzf hone ?_))
          refine bodyPost_ret (results_cell_row rfl _ _ w.heap.size _ (arr f) _ _ rfl hr2 Tryd.underlying60 rfl hi) rfl ?_
          exact ⟨rfl, HB.out.trans (tR.below (fun q e => by omega) HB.out.size)⟩
end Go.Proofs.YtnodcjjmodbjiaaDoor
