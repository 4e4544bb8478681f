/- The schedule of a block: the program's. One block taken: the program's. Numbers as bytes: the program's Put, Reverse, Big. -/
import Derived.Test.YtbicafgmfgdckaaGreatDoorMgAc
import Derived.OwnWalk
namespace Go.Proofs.YtbicafgmfgdckaaGreatDoor
open Go Go.RowKit

theorem wide_shl (x : BitVec 64) : (x <<< 8).setWidth 32 = x.setWidth 32 <<< 8 := by
 apply BitVec.eq_of_getLsbD_eq
 intro i hi
 simp only [BitVec.getLsbD_setWidth, BitVec.getLsbD_shiftLeft, hi, decide_true, Bool.true_and, show i < 64 by omega]
 by_cases h : i < 8
 ·simp [h]
 ·simp [h, show i - 8 < 32 by omega]
theorem wide_byte (c : BitVec 8) : (c.setWidth 64).setWidth 32 = c.setWidth 32 := by
 apply BitVec.eq_of_getLsbD_eq
 intro i hi
 simp only [BitVec.getLsbD_setWidth, hi, decide_true, Bool.true_and, show i < 64 by omega]
theorem big4 (l : List (BitVec 8)) (h : l.length = 4) : (bigOf l).setWidth 32 = Sha.be4 (byteAt l 0) (byteAt l 1) (byteAt l 2) (byteAt l 3) := by
 match l, h with
 | [a, b, c, d], _ =>
  simp only [bigOf, List.foldl_cons, List.foldl_nil, BitVec.setWidth_or, wide_shl, wide_byte, Sha.be4, byteAt, List.getD_eq_getElem?_getD]
  simp
theorem zero_words : ∃ z : Words, (∀ w, Sem.run Tryz.prog (zeroValue 138) w = .ok (.agg (arr z)) w) /\ z.length = 64 := ⟨List.replicate 64 0#32, fun w => by kernel_rfl, by simp⟩
def SchedRel1 (z : Words) (w : World) (l : List (BitVec 8)) (i : Value) (wr : World) : Prop :=
 ∃ (k : Nat) (f : Words), k <= 16 /\ i = .int .i64 k /\ f.length = 64 /\ (∀ j, j < k -> wordAt f j = Sha.word l j) /\ ArrAt wr w.heap.size 138 z /\ ArrAt wr (w.heap.size + 1) 138 f /\ Below w.heap.size w wr
def SchedRel2 (z : Words) (w : World) (S : Words) (i : Value) (wr : World) : Prop :=
 ∃ (k : Nat) (f : Words), 16 <= k /\ k <= 64 /\ i = .int .i64 k /\ f.length = 64 /\ (∀ j, j < k -> wordAt f j = wordAt S j) /\ ArrAt wr w.heap.size 138 z /\ ArrAt wr (w.heap.size + 1) 138 f /\ Below w.heap.size w wr
theorem SchedRel2.step {z S f : Words} {w wr W : World} {k j : Nat} {v : Value} {i : Value} (h0 : 16 <= k) (hk : k < 64) (hf : f.length = 64) (hw : ∀ j, j < k -> wordAt f j = wordAt S j) (hr : ArrAt wr w.heap.size 138 z) (hv : ArrAt wr (w.heap.size + 1) 138 f) (hb : Below w.heap.size w wr)
  (t : Touch (fun _ => False) wr W) (e : v = U32 (wordAt S k)) (hi : i = .int .i64 (k + 1 : Nat)) : SchedRel2 z w S i ((W.setCell ⟨w.heap.size + 1, k, none⟩ v).drewN j) := by
 subst e
 have hs := hb.size
 have hv1 := hv.touch t fun e => e
 have t2 : Touch (fun q => q = w.heap.size + 1) wr ((W.setCell ⟨w.heap.size + 1, k, none⟩ (U32 (wordAt S k))).drewN j) := ((t.mono fun _ e => e.elim).trans (Touch.set (F := fun q => q = w.heap.size + 1) W (w.heap.size + 1) k _ rfl)).drewN j
 refine ⟨k + 1, f.set k (wordAt S k), by omega, by omega, hi, by simp [hf], fun q hq => ?_, hr.touch t2 (by omega), (hv1.set k _).drewN j, hb.trans (t2.below (fun q e => by omega) hs)⟩
 rw [wordAt_set _ _ _ _ (by omega)]
 split
 ·rename_i e; subst e; rfl
 ·exact hw q (by omega)
set_option maxHeartbeats 800000 in
theorem sched_any (b off cap : Nat) (l : List (BitVec 8)) (w : World) (hl : l.length = 64) (hcap : 64 <= cap) (hcm : cap <= 9223372036854775807) (hb : BytesAt w b off l) :
  Calls Tryz.prog 99 #[.slice (some ⟨b, off, none⟩) 64 cap] w fun e w' => e = .returned (.agg (arr (Sha.sched l))) /\ Below w.heap.size w w' := by
 obtain ⟨z, hz, hzl⟩ := zero_words
 have hS := Lib.hid (Sha.length_sched l)
 have hlow := Lib.hid (Sha.sched_low l)
 have hhigh := Lib.hid (Sha.sched_high l)
 generalize Sha.sched l = S at *
 go_enter Tryz.func99, Tryz.ntmps99
 go_wp2
 have r0 : ArrAt ((w.alloc (.cells (arr z) 138)).alloc (.cells (arr z) 138)) w.heap.size 138 z := (ArrAt.new w _ _).touch (F := fun _ => False) ((Touch.refl _ _).alloc _) fun e => e
 have v0 : ArrAt ((w.alloc (.cells (arr z) 138)).alloc (.cells (arr z) 138)) (w.heap.size + 1) 138 z := by
  have := ArrAt.new (w.alloc (.cells (arr z) 138)) 138 z
  simpa using this
 have hb0 : Below w.heap.size w ((w.alloc (.cells (arr z) 138)).alloc (.cells (arr z) 138)) := ((Below.refl _ _).alloc (Nat.le_refl _) _).alloc (by simp) _
 clear hz
 generalize (w.alloc (.cells (arr z) 138)).alloc (.cells (arr z) 138) = w1 at *
 go_loopw [4, 5, 6, 12, 15] (fun _ _ _ i _ wr => SchedRel1 z w l i wr) (fun _ _ _ i _ _ => 16 - (intOf i).toNat)
 case atStart => exact ⟨0, _, by omega, rfl, hzl, fun j h => by omega, r0, v0, hb0⟩
 case round =>
  clear r0 v0 hb0
  obtain ⟨k, f, hk, rfl, hf, hw, hr, hv, hbw⟩ := hrel
  by_cases hlt : k < 16
  ·have hs := fun w => run_slice_both (P := Tryz.prog) byteSlice w (some ⟨b, off, none⟩) 64 cap .i64 .i64 (4 * k) (4 * k + 4) (4 * (k : Int)) (4 * (k : Int) + 4) (by omega) (by omega) (by omega) (by omega)
   have hda : dropAddr (some ⟨b, off, none⟩) cap (4 * k) = some ⟨b, off + 4 * k, none⟩ := by
    unfold dropAddr
    rw [if_neg (by omega), Option.map_some, Addr.add_lit]
   rw [hda, show 4 * k + 4 - 4 * k = 4 by omega] at hs
   have hm4 : ((l.drop (4 * k)).take 4).length = 4 := by rw [List.length_take, List.length_drop]; omega
   have hbm : BytesAt wr b (off + 4 * k) ((l.drop (4 * k)).take 4) := ((hb.mono (Keeps.below hbw ⟨b, ·, none⟩)).drop (4 * k)).take 4
   have GB := getBig_any b (off + 4 * k) (cap - 4 * k) _ wr (by omega) (by omega) hbm
   have hbig := big4 _ hm4
   have hbyte : ∀ j, j < 4 -> byteAt ((l.drop (4 * k)).take 4) j = byteAt l (4 * k + j) := fun j hj => by rw [byteAt_take hj, byteAt_drop]
   rw [hm4] at GB
   rw [hbyte 0 (by omega), hbyte 1 (by omega), hbyte 2 (by omega), hbyte 3 (by omega)] at hbig
   have hbig2 : (bigOf ((l.drop (4 * k)).take 4)).setWidth 32 = Sha.word l k := hbig
   have HB := Lib.hid hbig2
   have hcell := hv.cell (i := k) (by omega)
   have hth := hv.thawed k
   clear hbig hbig2 hbyte hm4 hbm hda
   generalize bigOf ((l.drop (4 * k)).take 4) = x at *
   have HV := Lib.hid hv
   have HR := Lib.hid hr
   have HW := Lib.hid hw
   have HBW := Lib.hid hbw
   clear hv hr hw hbw hb
   go_wp2_with fail
   refine GB.mono ?_
   rintro e w2 ⟨rfl, rfl⟩
   clear GB hs
   go_wp2
   go_roundw
   case rel =>
    have t : Touch (fun q => q = w.heap.size + 1) wr (wr.setCell ⟨w.heap.size + 1, k, none⟩ (U32 (x.setWidth 32))) := Touch.set wr (w.heap.size + 1) k (U32 (x.setWidth 32)) rfl
    refine ⟨k + 1, f.set k (x.setWidth 32), by omega, by go_num, by simp [hf], fun j hj => ?_, HR.out.touch t (by omega), HV.out.set k _, HBW.out.trans (t.below (fun q e => by omega) HBW.out.size)⟩
    rw [wordAt_set _ _ _ _ (by omega)]
    split
    ·rename_i e; subst e; exact HB.out
    ·exact HW.out j (by omega)
   case measure => simp [intOf]; omega
  ·obtain rfl : k = 16 := by omega
   rw [show (((16 : Nat) : Int)) = 16 from rfl]
   have rel2 : SchedRel2 z w S (.int .i64 16) wr := ⟨16, f, by omega, by omega, rfl, hf, fun j hj => by rw [hw j hj]; exact (hlow.out j hj).symm, hr, hv, hbw⟩
   clear hw hr hv hbw hb
   go_wp2
   go_loopw [7] (fun i wr => SchedRel2 z w S i wr) (fun i _ => 64 - (intOf i).toNat)
   case atStart => exact rel2
   case round =>
    clear rel2
    obtain ⟨k, f, hk0, hk, rfl, hf, hw, hr, hv, hbw⟩ := hrel
    by_cases hlt : k < 64
    ·obtain ⟨n15, e15⟩ : ∃ n : Nat, (k : Int) - 15 = n := ⟨k - 15, by omega⟩
     obtain ⟨n2, e2⟩ : ∃ n : Nat, (k : Int) - 2 = n := ⟨k - 2, by omega⟩
     obtain ⟨n16, e16⟩ : ∃ n : Nat, (k : Int) - 16 = n := ⟨k - 16, by omega⟩
     obtain ⟨n7, e7⟩ : ∃ n : Nat, (k : Int) - 7 = n := ⟨k - 7, by omega⟩
     have c15 := hv.cell (i := n15) (by omega)
     have c2 := hv.cell (i := n2) (by omega)
     have c16 := hv.cell (i := n16) (by omega)
     have c7 := hv.cell (i := n7) (by omega)
     have ck := hv.cell (i := k) (by omega)
     have hth := hv.thawed k
     have l15 : n15 < 64 := by omega
     have l2 : n2 < 64 := by omega
     have l16 : n16 < 64 := by omega
     have l7 : n7 < 64 := by omega
     go_wp2
     go_quiet (fail)
     have hx15 := hw n15 (by omega)
     have hx2 := hw n2 (by omega)
     have hx16 := hw n16 (by omega)
     have hx7 := hw n7 (by omega)
     have hnext := hhigh.out k hk0 hlt
     have hnext2 : wordAt S k = wordAt S n16 + Sha.small0 (wordAt S n15) + wordAt S n7 + Sha.small1 (wordAt S n2) := by
      rw [show n16 = k - 16 by omega, show n15 = k - 15 by omega, show n7 = k - 7 by omega, show n2 = k - 2 by omega]; exact hnext
     rw [<- hx15, <- hx2, <- hx16, <- hx7] at hnext2
     have HN := Lib.hid hnext2
     have HV := Lib.hid hv
     have HR := Lib.hid hr
     have HW := Lib.hid hw
     have HBW := Lib.hid hbw
     clear hx15 hx2 hx16 hx7 hnext hnext2 hv hr hw hbw
     generalize wordAt f n15 = x15 at *
     generalize wordAt f n2 = x2 at *
     generalize wordAt f n16 = x16 at *
     generalize wordAt f n7 = x7 at *
     have R7 : ∀ v, Calls Tryz.prog 100 #[U32 x15, .int .i64 7] v (GivesS v (U32 (Sha.rotr x15 7))) := fun v => right_any x15 7 (by decide) (by decide) v
     have R18 : ∀ v, Calls Tryz.prog 100 #[U32 x15, .int .i64 18] v (GivesS v (U32 (Sha.rotr x15 18))) := fun v => right_any x15 18 (by decide) (by decide) v
     have R17 : ∀ v, Calls Tryz.prog 100 #[U32 x2, .int .i64 17] v (GivesS v (U32 (Sha.rotr x2 17))) := fun v => right_any x2 17 (by decide) (by decide) v
     have R19 : ∀ v, Calls Tryz.prog 100 #[U32 x2, .int .i64 19] v (GivesS v (U32 (Sha.rotr x2 19))) := fun v => right_any x2 19 (by decide) (by decide) v
     go_wp2_with fail
     refine (R7 _).mono ?_
     rintro e w' ⟨m1, rfl, rfl⟩
     go_wp2_with fail
     refine (R18 _).mono ?_
     rintro e w' ⟨m2, rfl, rfl⟩
     go_wp2_with fail
     refine (R17 _).mono ?_
     rintro e w' ⟨m3, rfl, rfl⟩
     go_wp2_with fail
     refine (R19 _).mono ?_
     rintro e w' ⟨m4, rfl, rfl⟩
     go_wp2_with fail
     refine wp_region_mid 15 (by kernel_rfl) (by kernel_rfl) rfl ?_
     simp only [List.take_succ_cons, List.take_zero, List.drop_zero]
     repeat (first | go_big_quiet_step (fail) | quiet_step (fail))
     refine wpQuiet_nil ?_
     intro j
     go_wp2
     refine midPost_normal (rest_quiet (by kernel_rfl) ?_)
     simp only [List.drop_succ_cons, List.drop_nil]
     refine wpQuiet_nil ?_
     intro j'
     clear R7 R18 R17 R19 c15 c2 c16 c7 ck hth e15 e2 e16 e7
     go_wp2
     go_roundw
     case rel =>
      refine SchedRel2.step hk0 hlt hf HW.out HR.out HV.out HBW.out ?_ (by rw [HN.out]; rfl) (by go_num)
      repeat (first | exact Touch.refl _ _ | refine Touch.drewN ?_ _)
     case measure => simp [intOf]; omega
    ·obtain rfl : k = 64 := by omega
     have e0 : f = S := words_ext (by rw [hf, hS.out]) fun i hi => hw i (by omega)
     subst e0
     have hi : (Tryz.prog.info? 138).map (·.size) = some (arr f).size := by rw [arr_size, hf]; kernel_rfl
     have hzf : (arr z).size = (arr f).size := by rw [arr_size, arr_size, hzl, hf]
     have hone := arr_one f
     have HB := Lib.hid hbw
     have hr2 := hr.row f
     have tR : Touch (fun q => q = w.heap.size) wr (wr.setRow w.heap.size (arr f)) := Touch.setRow wr _ _ rfl
     have hr1 : wr.heap[w.heap.size]? = some (.cells (arr z) 138 (0, 0)) := hr
     have hv1 : wr.heap[w.heap.size + 1]? = some (.cells (arr f) 138 (0, 0)) := hv
     clear hr hv hbw hw
     go_wp2_with (first | (refine wpList_load_row rfl 138 _ rfl (w.heap.size + 1) rfl _ (arr f) _ _ hv1 Tryz.underlying138 rfl hi ?_) | (refine wpList_store_row rfl 138 _ _ rfl w.heap.size (arr f) rfl rfl _ (arr z) hr1 hi hzf hone ?_))
     refine bodyPost_ret (results_cell_row rfl _ _ w.heap.size _ (arr f) _ _ rfl hr2 Tryz.underlying138 rfl hi) rfl ?_
     exact ⟨rfl, HB.out.trans (tR.below (fun q e => by omega) HB.out.size)⟩
end Go.Proofs.YtbicafgmfgdckaaGreatDoor
namespace Go.Proofs.YtbicafgmfgdckaaGreatDoor
open Go Go.RowKit

def KTab (w : World) : Prop := ∀ i, i < 64 -> w.cell? ⟨0, i, none⟩ = some (U32 (wordAt Sha.K i))
theorem KTab.keeps {w w' : World} (h : KTab w) (k : Keeps w w') : KTab w' := fun i hi => k _ _ (h i hi)
theorem zero_state : ∃ z : Words, (∀ w, Sem.run Tryz.prog (zeroValue 132) w = .ok (.agg (arr z)) w) /\ z.length = 8 := ⟨List.replicate 8 0#32, fun w => by kernel_rfl, by simp⟩
theorem right_quiet (x : BitVec 32) (N : Int) (h1 : 1 <= N) (h2 : N <= 31) (w : World) (j : Nat) : Calls Tryz.prog 100 #[U32 x, .int .i64 N] (w.drewN j) fun e w'' => e = .returned (U32 (Sha.rotr x N.toNat)) /\ ∃ m, w'' = w.drewN m := by
 obtain ⟨n, rfl⟩ : ∃ n : Nat, N = n := ⟨N.toNat, by omega⟩
 exact (right_any x n (by omega) (by omega) _).mono fun _ _ ⟨m, he, hw⟩ => ⟨he, j + m, by rw [hw, World.drewN_drewN]⟩
theorem wpList_built {P : Program} {ops : Array Oper} {rest : List Oper} {o : Oper} {a : Act} {w : World} {Q : Exit -> Act -> World -> Prop} (hg : o.guard = none) (t : TypeId) (parts : Array (Nat × Operand)) (ho : o.op = .build t parts)
  (cells : Array Value) (hf : P.built t (parts.map fun (i, x) => (i, a.eval x)).toList = some cells)
  (h : wpList P ops Q rest (a.put o.dst (.agg cells)) w) : wpList P ops Q (o :: rest) a w := by
 refine wpList_build hg t parts ho (by rw [hf]; rfl) ?_
 rw [hf]
 exact h
theorem stop_build {P : Program} {ops : Array Oper} {Q : Exit -> Act -> World -> Prop} {l : List Oper} {a : Act} {w : World} {d t q1 pos after g parts} (h : wpList P ops Q (⟨d, .build t parts, q1, pos, after, g⟩ :: l) a w) : wpList P ops Q (⟨d, .build t parts, q1, pos, after, g⟩ :: l) a w := h
theorem built8 (a b c d e f g i : BitVec 32) : Program.built Tryz.prog 132 [(0, U32 a), (1, U32 b), (2, U32 c), (3, U32 d), (4, U32 e), (5, U32 f), (6, U32 g), (7, U32 i)] = some (arr [a, b, c, d, e, f, g, i]) := by
 kernel_rfl
def TakeRel (z8 : Words) (s : Sha.St) (S : Words) (w : World) (g2 g3 : Nat) (i : Value) (wr : World) : Prop :=
 ∃ (k : Nat) (v : Sha.St), k <= 64 /\ i = .int .i64 k /\ v = Sha.rounds s S k /\ ArrAt wr w.heap.size 132 s.list /\ ArrAt wr (w.heap.size + 1) 132 z8 /\ ArrAt wr g2 138 S /\ ArrAt wr g3 132 v.list /\ Below w.heap.size w wr
theorem step_list (v : Sha.St) (xk xs T U : BitVec 32) (hT : v.h + (Sha.rotr v.e 6 ^^^ Sha.rotr v.e 11 ^^^ Sha.rotr v.e 25) + (v.e &&& v.f ^^^ ~~~v.e &&& v.g) + xk + xs = T)
  (hU : (Sha.rotr v.a 2 ^^^ Sha.rotr v.a 13 ^^^ Sha.rotr v.a 22) + (v.a &&& v.b ^^^ v.a &&& v.c ^^^ v.b &&& v.c) = U) : (Sha.step v xk xs).list = [T + U, v.a, v.b, v.c, v.d + T, v.e, v.f, v.g] := by
 subst hT hU; rfl
theorem plus_at (s v : Sha.St) (j : Nat) (h : j < 8) : wordAt (s.plus v).list j = wordAt s.list j + wordAt v.list j := by
 match j, h with
 | 0, _ => rfl
 | 1, _ => rfl
 | 2, _ => rfl
 | 3, _ => rfl
 | 4, _ => rfl
 | 5, _ => rfl
 | 6, _ => rfl
 | 7, _ => rfl
 | n + 8, h => omega
def AddRel (z8 A V : Words) (w : World) (g3 : Nat) (i : Value) (wr : World) : Prop :=
 ∃ (k : Nat) (f : Words), k <= 8 /\ i = .int .i64 k /\ f.length = 8 /\ (∀ j, j < k -> wordAt f j = wordAt A j + wordAt V j) /\ (∀ j, k <= j -> j < 8 -> wordAt f j = wordAt A j) /\ ArrAt wr w.heap.size 132 f /\ ArrAt wr (w.heap.size + 1) 132 z8 /\ ArrAt wr g3 132 V /\ Below w.heap.size w wr
theorem AddRel.step {z8 A V f : Words} {w wr W : World} {g3 k j : Nat} {i v : Value} (hk : k < 8) (hg : w.heap.size + 1 < g3) (hf : f.length = 8) (h1 : ∀ j, j < k -> wordAt f j = wordAt A j + wordAt V j) (h2 : ∀ j, k <= j -> j < 8 -> wordAt f j = wordAt A j)
  (d0 : ArrAt wr w.heap.size 132 f) (d1 : ArrAt wr (w.heap.size + 1) 132 z8) (d3 : ArrAt wr g3 132 V) (hb : Below w.heap.size w wr)
  (t : Touch (fun _ => False) wr W) (e : v = U32 (wordAt f k + wordAt V k)) (hi : i = .int .i64 (k + 1 : Nat)) : AddRel z8 A V w g3 i ((W.setCell ⟨w.heap.size, k, none⟩ v).drewN j) := by
 subst e
 have hs := hb.size
 have hv1 := d0.touch t fun e => e
 have t2 : Touch (fun q => q = w.heap.size) wr ((W.setCell ⟨w.heap.size, k, none⟩ (U32 (wordAt f k + wordAt V k))).drewN j) := ((t.mono fun _ e => e.elim).trans (Touch.set (F := fun q => q = w.heap.size) W w.heap.size k _ rfl)).drewN j
 refine ⟨k + 1, f.set k (wordAt f k + wordAt V k), by omega, hi, by simp [hf], fun q hq => ?_, fun q hq hq8 => ?_, (hv1.set k _).drewN j, d1.touch t2 (by omega), d3.touch t2 (by omega), hb.trans (t2.below (fun q e => by omega) hs)⟩
 ·rw [wordAt_set _ _ _ _ (by omega)]
  split
  ·rename_i e; subst e; rw [h2 q (by omega) (by omega)]
  ·exact h1 q (by omega)
 ·rw [wordAt_set _ _ _ _ (by omega), if_neg (by omega)]
  exact h2 q (by omega) hq8
set_option maxRecDepth 40000 in
set_option maxHeartbeats 1000000 in
theorem take_any (s : Sha.St) (b off cap : Nat) (l : List (BitVec 8)) (w : World) (hl : l.length = 64) (hcap : 64 <= cap) (hcm : cap <= 9223372036854775807) (hb : BytesAt w b off l) (hk : KTab w) :
  Calls Tryz.prog 79 #[.agg (arr s.list), .slice (some ⟨b, off, none⟩) 64 cap] w fun e w' => e = .returned (.agg (arr (Sha.take s l).list)) /\ Below w.heap.size w w' := by
 obtain ⟨z, hz, hzl⟩ := zero_words
 obtain ⟨z8, hz8, hz8l⟩ := zero_state
 have SC := fun v (h : Keeps w v) => sched_any b off cap l v hl hcap hcm (hb.mono (h ⟨b, ·, none⟩))
 have hsl : s.list.length = 8 := rfl
 unfold Sha.take
 have HSl := Lib.hid (Sha.length_sched l)
 generalize Sha.sched l = S at *
 generalize hss : s.list = sl at *
 have HSS := Lib.hid hss
 clear hss
 go_enter Tryz.func79, Tryz.ntmps79
 go_wp2_with fail
 have a0 : ArrAt ((w.alloc (.cells (arr sl) 132)).alloc (.cells (arr z8) 132)) w.heap.size 132 sl := (ArrAt.new w _ _).touch (F := fun _ => False) ((Touch.refl _ _).alloc _) fun e => e
 have a1 : ArrAt ((w.alloc (.cells (arr sl) 132)).alloc (.cells (arr z8) 132)) (w.heap.size + 1) 132 z8 := by
  have := ArrAt.new (w.alloc (.cells (arr sl) 132)) 132 z8
  simpa using this
 have hb0 : Below w.heap.size w ((w.alloc (.cells (arr sl) 132)).alloc (.cells (arr z8) 132)) := ((Below.refl _ _).alloc (Nat.le_refl _) _).alloc (by simp) _
 generalize (w.alloc (.cells (arr sl) 132)).alloc (.cells (arr z8) 132) = w1 at *
 refine (SC _ (Keeps.below hb0)).mono ?_
 rintro e w2 ⟨rfl, hb2⟩
 have a0 := a0.below hb2
 have a1 := a1.below hb2
 have hs2 := a1.lt
 have hb2 := hb0.trans (hb2.mono hb0.size)
 clear hb0 SC
 have b2 : (w2.alloc (.cells (arr z) 138)).heap[w2.heap.size]? = some (.cells (arr z) 138 (0, 0)) := ArrAt.new w2 138 z
 have hi : (Tryz.prog.info? 138).map (·.size) = some (arr S).size := by rw [arr_size, HSl.out]; kernel_rfl
 have hzf : (arr z).size = (arr S).size := by rw [arr_size, arr_size, hzl, HSl.out]
 have hone := arr_one S
 have t3 : Touch (fun q => q = w2.heap.size) w2 ((w2.alloc (.cells (arr z) 138)).setRow w2.heap.size (arr S)) := ((Touch.refl _ _).alloc _).trans (Touch.setRow _ _ _ rfl)
 have b3 : ArrAt ((w2.alloc (.cells (arr z) 138)).setRow w2.heap.size (arr S)) w2.heap.size 138 S := (ArrAt.new w2 138 z).row S
 have a03 := a0.touch t3 (by omega)
 have a13 := a1.touch t3 (by omega)
 have hb3 := hb2.trans (t3.below (fun q e => by omega) hb2.size)
 clear t3
 have hi8 : (Tryz.prog.info? 132).map (·.size) = some (arr sl).size := by rw [arr_size, hsl]; kernel_rfl
 have hzf8 : (arr z8).size = (arr sl).size := by rw [arr_size, arr_size, hz8l, hsl]
 have hone8 := arr_one sl
 go_wp2_with (first
  |(refine wpList_store_row rfl 138 _ _ rfl w2.heap.size (arr S) rfl rfl _ (arr z) b2 hi hzf hone ?_
    generalize (w2.alloc (.cells (arr z) 138)).setRow w2.heap.size (arr S) = w3 at *
    have h03 : w3.heap[w.heap.size]? = some (.cells (arr sl) 132 (0, 0)) := a03
    have b4 : (w3.alloc (.cells (arr z8) 132)).heap[w3.heap.size]? = some (.cells (arr z8) 132 (0, 0)) := ArrAt.new w3 132 z8)
  |(refine wpList_load_row rfl 132 _ rfl w.heap.size rfl _ (arr sl) _ _ h03 Tryz.underlying132 rfl hi8 ?_)
  |(refine wpList_store_row rfl 132 _ _ rfl w3.heap.size (arr sl) rfl rfl _ (arr z8) b4 hi8 hzf8 hone8 ?_))
 have t5 : Touch (fun q => q = w3.heap.size) w3 ((w3.alloc (.cells (arr z8) 132)).setRow w3.heap.size (arr sl)) := ((Touch.refl _ _).alloc _).trans (Touch.setRow _ _ _ rfl)
 have d3 : ArrAt ((w3.alloc (.cells (arr z8) 132)).setRow w3.heap.size (arr sl)) w3.heap.size 132 sl := (ArrAt.new w3 132 z8).row sl
 have h2 := b3.lt
 have d0 := a03.touch t5 (by omega)
 have d1 := a13.touch t5 (by omega)
 have d2 := b3.touch t5 (by omega)
 have hb5 := hb3.trans (t5.below (fun q e => by omega) hb3.size)
 have hg2 : w.heap.size + 1 < w2.heap.size := hs2
 clear t5 b2 b3 b4 h03 a03 a13 a0 a1 hb3 hb2
 generalize (w3.alloc (.cells (arr z8) 132)).setRow w3.heap.size (arr sl) = w5 at *
 generalize w2.heap.size = g2 at *
 generalize w3.heap.size = g3 at *
 rw [<- HSS.out] at d0 d3
 go_loopw [16] (fun i wr => TakeRel z8 s S w g2 g3 i wr) (fun i _ => 64 - (intOf i).toNat)
 case atStart => exact ⟨0, s, by omega, rfl, rfl, d0, d1, d2, d3, hb5⟩
 case round =>
  clear d0 d1 d2 d3 hb5
  obtain ⟨k, v, hk64, rfl, hv, d0, d1, d2, d3, hbw⟩ := hrel
  by_cases hlt : k < 64
  ·have e0 : wr.cell? ⟨g3, 0, none⟩ = some (U32 v.a) := d3.cell (i := 0) (show 0 < 8 by decide)
   have e1 : wr.cell? ⟨g3, 1, none⟩ = some (U32 v.b) := d3.cell (i := 1) (show 1 < 8 by decide)
   have e2 : wr.cell? ⟨g3, 2, none⟩ = some (U32 v.c) := d3.cell (i := 2) (show 2 < 8 by decide)
   have e3 : wr.cell? ⟨g3, 3, none⟩ = some (U32 v.d) := d3.cell (i := 3) (show 3 < 8 by decide)
   have e4 : wr.cell? ⟨g3, 4, none⟩ = some (U32 v.e) := d3.cell (i := 4) (show 4 < 8 by decide)
   have e5 : wr.cell? ⟨g3, 5, none⟩ = some (U32 v.f) := d3.cell (i := 5) (show 5 < 8 by decide)
   have e6 : wr.cell? ⟨g3, 6, none⟩ = some (U32 v.g) := d3.cell (i := 6) (show 6 < 8 by decide)
   have e7 : wr.cell? ⟨g3, 7, none⟩ = some (U32 v.h) := d3.cell (i := 7) (show 7 < 8 by decide)
   have ek := hk.keeps (Keeps.below hbw) k hlt
   have es := d2.cell (i := k) (by rw [HSl.out]; exact hlt)
   have hn : Sha.rounds s S (k + 1) = Sha.step v (wordAt Sha.K k) (wordAt S k) := by rw [hv]; rfl
   have HN := Lib.hid hn
   have H0 := Lib.hid d0
   have H1 := Lib.hid d1
   have H2 := Lib.hid d2
   have H3 := Lib.hid d3
   have HK := Lib.hid hk
   clear hv hn d0 d1 d2 d3 hk
   generalize wordAt Sha.K k = xk at *
   generalize wordAt S k = xs at *
   go_wp2
   go_quiet (exact right_quiet _ _ (by decide) (by decide) _ _)
   have f0 : (wr.drewN nq).cell? ⟨g3, 0, none⟩ = some (U32 v.a) := e0
   have f1 : (wr.drewN nq).cell? ⟨g3, 1, none⟩ = some (U32 v.b) := e1
   have f2 : (wr.drewN nq).cell? ⟨g3, 2, none⟩ = some (U32 v.c) := e2
   have f3 : (wr.drewN nq).cell? ⟨g3, 3, none⟩ = some (U32 v.d) := e3
   have f4 : (wr.drewN nq).cell? ⟨g3, 4, none⟩ = some (U32 v.e) := e4
   have f5 : (wr.drewN nq).cell? ⟨g3, 5, none⟩ = some (U32 v.f) := e5
   have f6 : (wr.drewN nq).cell? ⟨g3, 6, none⟩ = some (U32 v.g) := e6
   have f7 : (wr.drewN nq).cell? ⟨g3, 7, none⟩ = some (U32 v.h) := e7
   have G0 : Hid (ArrAt (wr.drewN nq) w.heap.size 132 s.list) := Lib.hid H0.out
   have G1 : Hid (ArrAt (wr.drewN nq) (w.heap.size + 1) 132 z8) := Lib.hid H1.out
   have G2 : Hid (ArrAt (wr.drewN nq) g2 138 S) := Lib.hid H2.out
   have G3 : Hid (ArrAt (wr.drewN nq) g3 132 v.list) := Lib.hid H3.out
   have GB : Below w.heap.size w (wr.drewN nq) := below_drewN hbw nq
   clear e0 e1 e2 e3 e4 e5 e6 e7 ek es H0 H1 H2 H3 hbw
   generalize wr.drewN nq = w6 at *
   go_wp2
   go_quiet (exact right_quiet _ _ (by decide) (by decide) _ _)
   have h3 : w6.heap[g3]? = some (.cells (arr v.list) 132 (0, 0)) := G3.out
   generalize hT : v.h + (Sha.rotr v.e 6 ^^^ Sha.rotr v.e 11 ^^^ Sha.rotr v.e 25) + (v.e &&& v.f ^^^ ~~~v.e &&& v.g) + xk + xs = T
   generalize hU : (Sha.rotr v.a 2 ^^^ Sha.rotr v.a 13 ^^^ Sha.rotr v.a 22) + (v.a &&& v.b ^^^ v.a &&& v.c ^^^ v.b &&& v.c) = U
   have HT := Lib.hid hT
   have HU := Lib.hid hU
   clear hT hU
   obtain ⟨L, hL⟩ : ∃ L : Words, L = [T + U, v.a, v.b, v.c, v.d + T, v.e, v.f, v.g] := ⟨_, rfl⟩
   have hbu := built8 (T + U) v.a v.b v.c (v.d + T) v.e v.f v.g
   rw [<- hL] at hbu
   have hLl : L.length = 8 := by rw [hL]; rfl
   have HL := Lib.hid hL
   clear hL
   have hsz : (arr v.list).size = (arr L).size := by rw [arr_size, arr_size, hLl]; rfl
   have hiv : (Tryz.prog.info? 132).map (·.size) = some (arr L).size := by rw [arr_size, hLl]; kernel_rfl
   have hov := arr_one L
   go_wp2_with (with_reducible refine stop_build ?roundEnd)
   refine wpList_built rfl 132 _ rfl (arr L) ?hb0 ?nx1
   case hb0 => go_simp
   clear hbu f0 f1 f2 f3 f4 f5 f6 f7
   go_wp2_with (refine wpList_store_row rfl 132 _ _ rfl g3 (arr L) rfl rfl _ (arr v.list) h3 hiv hsz hov ?_)
   go_roundw
   case rel =>
    have t : Touch (fun q => q = g3) w6 ((w6.drewN nq).setRow g3 (arr L)) := ((Touch.refl _ _).drewN nq).trans (Touch.setRow _ _ _ rfl)
    have hs := GB.size
    have e := step_list v xk xs T U HT.out HU.out
    rw [<- HL.out] at e
    refine ⟨k + 1, Sha.step v xk xs, by omega, by go_num, HN.out.symm, G0.out.touch t (by omega), G1.out.touch t (by omega), G2.out.touch t (by omega), ?_, GB.trans (t.below (fun q e => by omega) hs)⟩
    rw [e]
    exact (G3.out.drewN nq).row L
   case measure => simp [intOf]; omega
  ·obtain rfl : k = 64 := by omega
   rw [show (((64 : Nat) : Int)) = 64 from rfl]
   have hg2' : w.heap.size + 1 < g3 := Nat.lt_trans hg2 h2
   subst hv
   have hP := Lib.hid (plus_at s (Sha.rounds s S 64))
   have hPl : (s.plus (Sha.rounds s S 64)).list.length = 8 := rfl
   have hVl : (Sha.rounds s S 64).list.length = 8 := rfl
   have hAl : s.list.length = 8 := rfl
   clear HSS d2 hk hb hlt
   generalize hPP : (s.plus (Sha.rounds s S 64)).list = PP at *
   have HPP := Lib.hid hPP
   clear hPP
   generalize (Sha.rounds s S 64).list = V at *
   generalize s.list = A at *
   have rel2 : AddRel z8 A V w g3 (.int .i64 0) wr := ⟨0, A, by omega, rfl, hAl, fun j h => by omega, fun j _ _ => rfl, d0, d1, d3, hbw⟩
   clear d0 d1 d3 hbw
   go_wp2
   go_loopw [96] (fun i wr => AddRel z8 A V w g3 i wr) (fun i _ => 8 - (intOf i).toNat)
   case atStart => exact rel2
   case round =>
    clear rel2
    obtain ⟨k, f, hk, rfl, hf, h1, h2, d0, d1, d3, hbw⟩ := hrel
    by_cases hlt : k < 8
    ·have c1 := d0.cell (i := k) (by omega)
     have c2 := d3.cell (i := k) (by omega)
     have hth := d0.thawed k
     have H1 := Lib.hid h1
     have H2 := Lib.hid h2
     have D0 := Lib.hid d0
     have D1 := Lib.hid d1
     have D3 := Lib.hid d3
     have HBW := Lib.hid hbw
     clear h1 h2 d0 d1 d3 hbw
     obtain ⟨ya, hya⟩ : ∃ y, wordAt f k = y := ⟨_, rfl⟩
     obtain ⟨yv, hyv⟩ : ∃ y, wordAt V k = y := ⟨_, rfl⟩
     rw [hya] at c1
     rw [hyv] at c2
     have HYA := Lib.hid hya
     have HYV := Lib.hid hyv
     clear hya hyv
     go_wp2_with fail
     refine wp_region_mid 8 (by kernel_rfl) (by kernel_rfl) rfl ?_
     simp only [List.take_succ_cons, List.take_zero, List.drop_zero]
     repeat (first | go_big_quiet_step (fail) | quiet_step (fail))
     refine wpQuiet_nil ?_
     intro j
     go_wp2
     refine midPost_normal (rest_quiet (by kernel_rfl) ?_)
     simp only [List.drop_succ_cons, List.drop_nil]
     refine wpQuiet_nil ?_
     intro j'
     clear c1 c2 hth
     go_wp2
     go_roundw
     case rel =>
      refine AddRel.step hlt hg2' hf H1.out H2.out D0.out D1.out D3.out HBW.out ?_ (by rw [HYA.out, HYV.out]) (by go_num)
      repeat (first | exact Touch.refl _ _ | refine Touch.drewN ?_ _)
     case measure => simp [intOf]; omega
    ·obtain rfl : k = 8 := by omega
     have e0 : f = PP := words_ext (by rw [hf, hPl]) fun i hi => by rw [h1 i (by omega), hP.out i (by omega)]
     subst e0
     have hi9 : (Tryz.prog.info? 132).map (·.size) = some (arr f).size := by rw [arr_size, hf]; kernel_rfl
     have hzf9 : (arr z8).size = (arr f).size := by rw [arr_size, arr_size, hz8l, hf]
     have hone9 := arr_one f
     have HB := Lib.hid hbw
     have hr2 := d1.row f
     have tR : Touch (fun q => q = w.heap.size + 1) wr (wr.setRow (w.heap.size + 1) (arr f)) := Touch.setRow wr _ _ rfl
     have hv1 : wr.heap[w.heap.size]? = some (.cells (arr f) 132 (0, 0)) := d0
     have hr1 : wr.heap[w.heap.size + 1]? = some (.cells (arr z8) 132 (0, 0)) := d1
     clear d0 d1 d3 hbw h1 h2
     go_wp2_with (first | (refine wpList_load_row rfl 132 _ rfl w.heap.size rfl _ (arr f) _ _ hv1 Tryz.underlying132 rfl hi9 ?_) | (refine wpList_store_row rfl 132 _ _ rfl (w.heap.size + 1) (arr f) rfl rfl _ (arr z8) hr1 hi9 hzf9 hone9 ?_))
     refine bodyPost_ret (results_cell_row rfl _ _ (w.heap.size + 1) _ (arr f) _ _ rfl hr2 Tryz.underlying132 rfl hi9) rfl ?_
     exact ⟨by rw [HPP.out], HB.out.trans (tR.below (fun q e => by omega) HB.out.size)⟩
end Go.Proofs.YtbicafgmfgdckaaGreatDoor
namespace Go.Proofs.YtbicafgmfgdckaaGreatDoor
open Go Go.RowKit

def leB (x : BitVec 64) (n : Nat) : List (BitVec 8) := (List.range n).map fun i => (x >>> (8 * i)).setWidth 8
theorem length_leB (x : BitVec 64) (n : Nat) : (leB x n).length = n := by simp [leB]
theorem leB_at (x : BitVec 64) (n i : Nat) (h : i < n) : byteAt (leB x n) i = (x >>> (8 * i)).setWidth 8 := by
 simp [byteAt, leB, List.getD_eq_getElem?_getD, h]
theorem byteAt_set (l : List (BitVec 8)) (i j : Nat) (x : BitVec 8) (h : i < l.length) : byteAt (l.set i x) j = if j = i then x else byteAt l j := by
 unfold byteAt
 rw [List.getD_eq_getElem?_getD, List.getElem?_set, List.getD_eq_getElem?_getD]
 by_cases e : i = j
 ·subst e; simp [h]
 ·rw [if_neg e, if_neg (fun e2 => e e2.symm)]
theorem wpList_make_bytes {P : Program} (w : World) {ops : Array Oper} {rest : List Oper} {o : Oper} {a : Act} {Q : Exit -> Act -> World -> Prop} {t e : TypeId} (T : ByteSlice P t e)
  (hg : o.guard = none) (l c : Operand) (hop : o.op = Op.makeSlice t l c) (n : Nat) (hl : a.eval l = .int .i64 n) (hc : a.eval c = .int .i64 n) (hn : n <= 1048576)
  (hK : ∀ w', RowAt w' w.heap.size e w.heap.size n n (List.replicate n 0#8) -> Below w.heap.size w w' -> wpList P ops Q rest (a.put o.dst (.slice (some ⟨w.heap.size, 0, none⟩) n n)) w') :
  wpList P ops Q (o :: rest) a w := by
 obtain ⟨i, hi, hz0, hz1, hz2⟩ := info_parts T.info
 refine wpList_make_full w hg l c t hop w.heap.size e i (.int .u8 0) 1 T.slice hi hz0 hz1 .i64 .i64 n n n hl hc rfl rfl (by rw [hz2]; omega) (by unfold maxLen; omega) (Nat.le_refl _) ?_
 intro w' h1 h2
 refine hK w' ⟨?_, by simp⟩ ⟨h2.os, h2.tape, h2.output, h2.size, fun k hk => h2.block k hk (by simp)⟩
 rw [show (Value.int IntKind.u8 0).cells = #[.int .u8 0] from rfl, toList_madeCells_one, Nat.mul_one] at h1
 rw [List.map_replicate]
 exact h1
def PutRel (x : BitVec 64) (n B : Nat) (w : World) (i : Value) (wr : World) : Prop :=
 ∃ (k : Nat) (l : List (BitVec 8)), k <= n /\ i = .int .i64 k /\ RowAt wr B 5 B n n l /\ (∀ j, j < k -> byteAt l j = (x >>> (8 * j)).setWidth 8) /\ Below B w wr
theorem putBig_any (x : BitVec 64) (n : Nat) (h1 : 1 <= n) (h8 : n <= 8) (w : World) : Calls Tryz.prog 101 #[U64 x, .int .i64 n] w fun e w' =>
  e = .returned (.slice (some ⟨w.heap.size, 0, none⟩) n n) /\ RowAt w' w.heap.size 5 w.heap.size n n (leB x n) /\ Below w.heap.size w w' := by
 have hb1 : (1 : Int) <= n := by omega
 have hb2 : (n : Int) <= 8 := by omega
 go_enter Tryz.func101, Tryz.ntmps101
 go_wp2_with (at_make; refine wpList_make_bytes w byteSlice rfl _ _ rfl n rfl rfl (by omega) ?_; intro w1 hr hbl)
 have hB : w.heap.size <= w.heap.size := Nat.le_refl _
 generalize hbe : w.heap.size = B at *
 have HBE := Lib.hid hbe
 clear hbe
 go_loopw [17] (fun i wr => PutRel x n B w i wr) (fun i _ => n - (intOf i).toNat)
 case atStart => exact ⟨0, _, by omega, rfl, hr, fun j h => by omega, hbl⟩
 case round =>
  clear hr hbl
  obtain ⟨k, l, hk, rfl, hr, hj, hbw⟩ := hrel
  by_cases hlt : k < n
  ·have hth := hr.thawed k
   have hc := hr.cell k hlt
   have HR := Lib.hid hr
   have HJ := Lib.hid hj
   have HB := Lib.hid hbw
   clear hr hj hbw
   have h0 : (0 : Int) <= 8 * (k : Int) := by omega
   have ht : (8 * (k : Int)).toNat = 8 * k := by omega
   go_wp2
   go_roundw
   case rel =>
    have t : Touch (fun q => q = B) wr (wr.setCell ⟨B, k, none⟩ (U8 ((x >>> (8 * k)).setWidth 8))) := Touch.set wr B k _ rfl
    refine ⟨k + 1, l.set k ((x >>> (8 * k)).setWidth 8), by omega, by go_num, HR.out.set k _, fun j hj => ?_, HB.out.trans (t.below (fun q e => by omega) (HBE.out ▸ HB.out.size))⟩
    rw [byteAt_set _ _ _ _ (by rw [HR.out.2]; exact hlt)]
    split
    ·rename_i e; subst e; rfl
    ·exact HJ.out j (by omega)
   case measure => simp [intOf]; omega
  ·obtain rfl : k = n := by omega
   have e : l = leB x k := list_ext (by rw [hr.2, length_leB]) fun j h => by rw [hr.2] at h; rw [hj j h, leB_at _ _ _ h]
   subst e
   have HR := Lib.hid hr
   have HB := Lib.hid hbw
   clear hr hj hbw
   go_wp2
   go_ret
   rw [HBE.out]
   exact ⟨rfl, HR.out, HB.out⟩
def RevRel (l : List (BitVec 8)) (B g cap : Nat) (w : World) (i j : Value) (wr : World) : Prop :=
 ∃ (k : Nat) (f : List (BitVec 8)), 2 * k <= l.length /\ i = .int .i64 k /\ j = .int .i64 ((l.length : Int) - 1 - k) /\ RowAt wr B 5 g cap l.length f /\
  (∀ q, q < l.length -> byteAt f q = if q < k \/ l.length - k <= q then byteAt l (l.length - 1 - q) else byteAt l q) /\ Touch (fun q => q = g) w wr
theorem reverse_any (l : List (BitVec 8)) (B g cap : Nat) (w : World) (h0 : 1 <= l.length) (hl : l.length <= 1048576) (hr : RowAt w B 5 g cap l.length l) :
  Calls Tryz.prog 102 #[.slice (some ⟨g, 0, none⟩) l.length cap] w fun e w' => e = .returned (.tuple #[]) /\ RowAt w' B 5 g cap l.length l.reverse /\ Touch (fun q => q = g) w w' := by
 have hl0 : (1 : Int) <= l.length := by omega
 have hl8 : (l.length : Int) <= 1048576 := by omega
 go_enter Tryz.func102, Tryz.ntmps102
 go_wp2
 go_loopw [2, 3] (fun i j wr => RevRel l B g cap w i j wr) (fun i _ _ => l.length - (intOf i).toNat)
 case atStart => exact ⟨0, l, by omega, rfl, by simp, hr, fun q h => by rw [if_neg (by omega)], Touch.refl _ _⟩
 case round =>
  clear hr
  obtain ⟨k, f, hk, rfl, rfl, hr, hq, ht⟩ := hrel
  by_cases hlt : 2 * k + 1 < l.length
  ·obtain ⟨m, hm⟩ : ∃ m : Nat, (l.length : Int) - 1 - k = m := ⟨l.length - 1 - k, by omega⟩
   have hm2 : m = l.length - 1 - k := by omega
   rw [hm]
   have c1 := hr.cell k (by omega)
   have c2 := hr.cell m (by omega)
   have f1 := hr.thawed k
   have f2 := hr.thawed m
   have hkm : k ≠ m := by omega
   have hq1 := hq k (by omega)
   have hq2 := hq m (by omega)
   rw [if_neg (by omega)] at hq1 hq2
   rw [hq1] at c1
   rw [hq2] at c2
   have HR := Lib.hid hr
   have HQ := Lib.hid hq
   have HT := Lib.hid ht
   have H1 := Lib.hid hq1
   have H2 := Lib.hid hq2
   clear hr hq ht hq1 hq2
   have hlen : m < l.length := by omega
   have hlen1 : k < l.length := by omega
   have hkm2 : (k : Int) < m := by omega
   have HM := Lib.hid hm2
   clear hm hm2
   generalize e1 : byteAt l k = xk at *
   generalize e2 : byteAt l m = xm at *
   have E1 := Lib.hid e1
   have E2 := Lib.hid e2
   clear e1 e2
   go_wp2_with fail
   go_region
   clear c1 c2 f1 f2
   go_wp2
   go_roundw
   case rel =>
    have hml := HM.out
    have hfl : f.length = l.length := HR.out.2
    have t : Touch (fun q => q = g) wr ((wr.setCell ⟨g, k, none⟩ (U8 xm)).setCell ⟨g, m, none⟩ (U8 xk)).drew := by
     have t1 : Touch (fun q => q = g) wr (wr.setCell ⟨g, k, none⟩ (U8 xm)) := Touch.set wr g k _ rfl
     have t2 : Touch (fun q => q = g) (wr.setCell ⟨g, k, none⟩ (U8 xm)) ((wr.setCell ⟨g, k, none⟩ (U8 xm)).setCell ⟨g, m, none⟩ (U8 xk)) := Touch.set _ g m _ rfl
     exact (t1.trans t2).drewN 1
    have hr2 : RowAt ((wr.setCell ⟨g, k, none⟩ (U8 xm)).setCell ⟨g, m, none⟩ (U8 xk)).drew B 5 g cap l.length ((f.set k xm).set m xk) := ((HR.out.set k xm).set m xk).drewN 1
    refine ⟨k + 1, (f.set k xm).set m xk, by omega, by go_num, by simp only [Value.int.injEq, true_and]; omega, hr2, fun q hq => ?_, HT.out.trans t⟩
    rw [byteAt_set _ _ _ _ (by simp; omega), byteAt_set _ _ _ _ (by omega)]
    by_cases hqm : q = m
    ·rw [if_pos hqm, if_pos (by omega), <- E1.out]; congr 1; omega
    ·rw [if_neg hqm]
     by_cases hqk : q = k
     ·rw [if_pos hqk, if_pos (by omega), <- E2.out]; congr 1; omega
     ·rw [if_neg hqk, HQ.out q hq]
      by_cases hq3 : q < k \/ l.length - k <= q
      ·rw [if_pos hq3, if_pos (by omega)]
      ·rw [if_neg hq3, if_neg (by omega)]
   case measure => simp [intOf]; omega
  ·have e : f = l.reverse := list_ext (by rw [hr.2, List.length_reverse]) fun j h => by
    have h2 : j < l.length := by rw [hr.2] at h; exact h
    have h3 : byteAt l.reverse j = byteAt l (l.length - 1 - j) := by
     rw [byteAt_lt (by simpa using h2), List.getElem_reverse, byteAt_lt (by omega)]
    rw [hq j h2, h3]
    by_cases hq3 : j < k \/ l.length - k <= j
    ·rw [if_pos hq3]
    ·rw [if_neg hq3]; congr 1; omega
   subst e
   have HR := Lib.hid hr
   have HT := Lib.hid ht
   clear hr hq ht
   go_wp2
   exact bodyPost_end (results_none rfl _ _ _) rfl ⟨rfl, HR.out, HT.out⟩
def beB (x : BitVec 64) (n : Nat) : List (BitVec 8) := (leB x n).reverse
theorem big_any (x : BitVec 64) (n : Nat) (h1 : 1 <= n) (h8 : n <= 8) (w : World) : Calls Tryz.prog 81 #[U64 x, .int .i64 n] w fun e w' =>
  e = .returned (.slice (some ⟨w.heap.size, 0, none⟩) n n) /\ RowAt w' w.heap.size 5 w.heap.size n n (beB x n) /\ Below w.heap.size w w' := by
 have PU := putBig_any x n h1 h8 w
 have hl := length_leB x n
 have RV : ∀ w', RowAt w' w.heap.size 5 w.heap.size n n (leB x n) -> Calls Tryz.prog 102 #[.slice (some ⟨w.heap.size, 0, none⟩) n n] w' fun e w'' => e = .returned (.tuple #[]) /\ RowAt w'' w.heap.size 5 w.heap.size n n (beB x n) /\ Touch (fun q => q = w.heap.size) w' w'' := by
  intro w' hr
  have := reverse_any (leB x n) w.heap.size w.heap.size n w' (by omega) (by omega) (by rw [hl]; exact hr)
  rw [hl] at this
  exact this
 go_enter Tryz.func81, Tryz.ntmps81
 go_wp2_with fail
 refine PU.mono ?_
 rintro e w1 ⟨rfl, hr, hb⟩
 go_wp2_with fail
 refine (RV _ hr).mono ?_
 rintro e w2 ⟨rfl, hr2, ht⟩
 go_wp2
 go_ret
 exact ⟨rfl, hr2, hb.trans (ht.below (fun q e => by omega) hb.size)⟩
end Go.Proofs.YtbicafgmfgdckaaGreatDoor
