/- The reference's Sum. Slices whose elements have K cells each: how they lie in memory; those of the call's own, how they grow. For any program. Rows of sums: whether two are the same; the reference's sums of texts. Plain facts on the rolling sum: words of bytes, words turned, sums of the last bytes. No program stands here. Words and sums of the rolling kind: what each function gives. -/
import Derived.Test.YtbicafgmfgdckaaGreatDoorMgAh
import Derived.Test.YtbicafgmfgdckaaGreatDoorMgAc
import Derived.Test.YtbicafgmfgdckaaGreatDoorMgAa
import Derived.Stop.BytesEq
namespace Go.Proofs.YtbicafgmfgdckaaGreatDoor
open Go Go.RowKit

def IdAt (w : World) (g : Nat) (f : List (BitVec 8)) : Prop := w.heap[g]? = some (.cells (f.map U8).toArray 40 (0, 0))
section
variable {w w' : World} {g : Nat} {f : List (BitVec 8)}
theorem IdAt.cell (h : IdAt w g f) {i : Nat} (hi : i < f.length) : w.cell? ⟨g, i, none⟩ = some (U8 (byteAt f i)) := by
 unfold IdAt at h
 unfold World.cell?
 rw [h]
 simp [byteAt, List.getD_eq_getElem?_getD, List.getElem?_eq_getElem hi]
theorem IdAt.thawed (h : IdAt w g f) (o : Nat) : w.frozen? ⟨g, o, none⟩ = false := by
 unfold IdAt at h
 simp [World.frozen?, h]
theorem IdAt.set (h : IdAt w g f) (i : Nat) (x : BitVec 8) : IdAt (w.setCell ⟨g, i, none⟩ (U8 x)) g (f.set i x) := by
 have e := setCell_eq_setRow w g i (f.map U8).toArray 40 (0, 0) (U8 x) h
 unfold IdAt
 rw [e, show (f.map U8).toArray.setIfInBounds i (U8 x) = ((f.set i x).map U8).toArray by simp [List.map_set]]
 exact setRow_heap w g _ _ _ _ h
theorem IdAt.lt (h : IdAt w g f) : g < w.heap.size := heap_lt h
theorem IdAt.touch {F : Nat -> Prop} (h : IdAt w g f) (k : Touch F w w') (hn : ¬ F g) : IdAt w' g f := by
 have hl := h.lt
 unfold IdAt at h ⊢
 rw [k.block g hl hn]; exact h
theorem IdAt.below (h : IdAt w g f) (hb : Below w.heap.size w w') : IdAt w' g f := h.touch (F := fun _ => False) (.of_below hb) fun e => e
end
theorem flat_at (f : Words) (i k : Nat) (hi : i < f.length) (hk : k < 4) : byteAt (f.flatMap Sha.bytes4) (4 * i + k) = byteAt (Sha.bytes4 (wordAt f i)) k := by
 induction f generalizing i with
 | nil => simp at hi
 | cons a f ih =>
  rw [List.flatMap_cons]
  have h4 : (Sha.bytes4 a).length = 4 := rfl
  cases i with
  | zero =>
   simp only [byteAt, List.getD_eq_getElem?_getD, Nat.mul_zero, Nat.zero_add, wordAt]
   rw [List.getElem?_append_left (by omega)]
   rfl
  | succ i =>
   have := ih i (by simp at hi; omega)
   simp only [byteAt, List.getD_eq_getElem?_getD, wordAt] at this ⊢
   rw [List.getElem?_append_right (by omega), h4, show 4 * (i + 1) + k - 4 = 4 * i + k by omega, this]
   simp
theorem le4_at (x : BitVec 32) (k : Nat) (hk : k < 4) : byteAt (leB (x.setWidth 64) 4) (3 - k) = byteAt (Sha.bytes4 x) k := by
 rw [<- bytes4_big, beB]
 have h1 : (leB (x.setWidth 64) 4).length = 4 := length_leB _ _
 rw [byteAt_lt (l := (leB (x.setWidth 64) 4).reverse) (by rw [List.length_reverse, h1]; exact hk), List.getElem_reverse, byteAt_lt (by omega)]
 simp only [h1]
def RBlockRel (P : List (BitVec 8)) (ap : Option Addr) (cp : Nat) (z : List (BitVec 8)) (B : Nat) (w : World) (s at_ : Value) (wr : World) : Prop :=
 ∃ k : Nat, 64 * k <= P.length /\ at_ = .int .i64 (64 * k : Nat) /\ OwnsW wr (B + 1) s (Sha.blocks k Sha.begin P).list /\ Reads wr ap cp P /\ IdAt wr B z /\ Below B w wr
def ROutRel (D : List (BitVec 8)) (F : Words) (s : Value) (z : List (BitVec 8)) (gd B : Nat) (w : World) (i : Value) (wr : World) : Prop :=
 ∃ (k : Nat) (f : List (BitVec 8)), k <= 8 /\ i = .int .i64 k /\ f.length = 32 /\ IdAt wr gd f /\ (∀ j, j < 4 * k -> byteAt f j = byteAt D j) /\ OwnsW wr (B + 1) s F /\ IdAt wr B z /\ Below B w wr
def RInRel (D X : List (BitVec 8)) (gx : Nat) (F : Words) (s : Value) (z : List (BitVec 8)) (gd B i : Nat) (w : World) (k_ : Value) (wr : World) : Prop :=
 ∃ (k : Nat) (f : List (BitVec 8)), k <= 4 /\ k_ = .int .i64 k /\ f.length = 32 /\ IdAt wr gd f /\ (∀ j, j < 4 * i + k -> byteAt f j = byteAt D j) /\ BytesAt wr gx 0 X /\ OwnsW wr (B + 1) s F /\ IdAt wr B z /\ Below B w wr
set_option maxRecDepth 40000 in
set_option maxHeartbeats 2000000 in
theorem rsum_any (a : Option Addr) (cap : Nat) (l : List (BitVec 8)) (w : World) (hr : Reads w a cap l) (hlm : l.length <= 1000000) :
  Calls Tryz.prog 27 #[.slice a l.length cap] w fun e w' => e = .returned (.agg ((Sha.sum l).map U8).toArray) /\ Below w.heap.size w w' := by
 obtain ⟨z, hz0, hz⟩ := zero_id
 have hzl : z.length = 32 := by rw [hz0]; rfl
 have HZ0 := Lib.hid hz0
 clear hz0
 obtain ⟨B, hB⟩ : ∃ B, w.heap.size = B := ⟨_, rfl⟩
 have hb1 : Below B w (w.alloc (.cells (z.map U8).toArray 40)) := (hB ▸ Below.refl _ _ : Below B w w).alloc (by omega) _
 have i1 : IdAt (w.alloc (.cells (z.map U8).toArray 40)) B z := by rw [<- hB]; exact heap_alloc_new w _
 have PD := rpad_any a cap l (w.alloc (.cells (z.map U8).toArray 40)) (hr.keeps (Keeps.alloc w _)) hlm
 have hsum : Sha.sum l = (Sha.blocks ((Sha.pad l).length / 64) Sha.begin (Sha.pad l)).bytes := rfl
 have hp64 : (Sha.pad l).length % 64 = 0 := by
  have hn : Sha.noughts l.length = (119 - l.length % 64) % 64 := rfl
  rw [Sha.pad, Sha.tail]; simp [Sha.be8]; omega
 have hp0 : (Sha.pad l).length <= 1000200 := by
  have hn : Sha.noughts l.length = (119 - l.length % 64) % 64 := rfl
  rw [Sha.pad, Sha.tail]; simp [Sha.be8]; omega
 generalize Sha.sum l = D at *
 generalize Sha.pad l = P at *
 have HSUM := Lib.hid hsum
 have HP64 := Lib.hid hp64
 clear hsum hp64
 rw [hB]
 go_enter Tryz.func27, Tryz.ntmps27
 go_wp2_with fail
 generalize w.alloc (.cells (z.map U8).toArray 40) = w1 at *
 refine PD.mono ?_
 rintro e w2 ⟨vp, rfl, hop, hb2⟩
 have hs1 := i1.lt
 have hb12 := hb1.trans (hb2.mono (by omega))
 have i2 := i1.below hb2
 clear PD hr
 obtain ⟨ap, cp, rfl, hpr⟩ := hop.reads
 have s8 : ∀ q : World, B + 1 <= q.heap.size -> OwnsW (q.alloc (.cells #[.int .u32 1779033703, .int .u32 3144134277, .int .u32 1013904242, .int .u32 2773480762, .int .u32 1359893119, .int .u32 2600822924, .int .u32 528734635, .int .u32 1541459225] 22)) (B + 1) (.slice (some ⟨q.heap.size, 0, none⟩) 8 8) Sha.begin.list :=
  fun q hq => World.ownsRow_lit q (e := 22) (size := 1) #[.int .u32 1779033703, .int .u32 3144134277, .int .u32 1013904242, .int .u32 2773480762, .int .u32 1359893119, .int .u32 2600822924, .int .u32 528734635, .int .u32 1541459225] 8 hq (by unfold maxLen; omega) rfl
 have hs2 := hb2.size
 have s2 := s8 w2 (by omega)
 have hpr2 := hpr.keeps (Keeps.alloc w2 (.cells #[.int .u32 1779033703, .int .u32 3144134277, .int .u32 1013904242, .int .u32 2773480762, .int .u32 1359893119, .int .u32 2600822924, .int .u32 528734635, .int .u32 1541459225] 22))
 have i3 := i2.below (w' := w2.alloc (.cells #[.int .u32 1779033703, .int .u32 3144134277, .int .u32 1013904242, .int .u32 2773480762, .int .u32 1359893119, .int .u32 2600822924, .int .u32 528734635, .int .u32 1541459225] 22)) ((Below.refl _ _).alloc (Nat.le_refl _) _)
 have hb3 := hb12.alloc (by omega) (.cells #[.int .u32 1779033703, .int .u32 3144134277, .int .u32 1013904242, .int .u32 2773480762, .int .u32 1359893119, .int .u32 2600822924, .int .u32 528734635, .int .u32 1541459225] 22)
 clear s8 hop hpr i2 hb12
 have HB1 := Lib.hid hb1
 clear hb1
 go_wp2_with fail
 generalize w2.alloc _ = w3 at *
 go_loopw [4, 5] (fun s at_ wr => RBlockRel P ap cp z B w s at_ wr) (fun _ at_ _ => P.length - (intOf at_).toNat)
 case atStart => exact ⟨0, by omega, rfl, s2, hpr2, i3, hb3⟩
 case round =>
  clear s2 hpr2 i3 hb3
  obtain ⟨k, hk, rfl, hos, hpr, hi, hbw⟩ := hrel
  by_cases hlt : 64 * k + 64 <= P.length
  ·have hne : P ≠ [] := fun e => by rw [e] at hlt; simp at hlt
   obtain ⟨b, off, rfl, hby⟩ := hpr.bytes.resolve_left hne
   have hfit := hpr.fits
   have hroom := hpr.room
   have hs := fun w => run_slice_both (P := Tryz.prog) byteSlice w (some ⟨b, off, none⟩) P.length cp .i64 .i64 (64 * k) (64 * k + 64) ((64 * k : Nat) : Int) (((64 * k : Nat) : Int) + 64) rfl (by omega) (by omega) (by omega)
   have hda : dropAddr (some ⟨b, off, none⟩) cp (64 * k) = some ⟨b, off + 64 * k, none⟩ := by
    unfold dropAddr
    rw [if_neg (by omega), Option.map_some, Addr.add_lit]
   rw [hda, show 64 * k + 64 - 64 * k = 64 by omega] at hs
   have hq64 : ((P.drop (64 * k)).take 64).length = 64 := by rw [List.length_take, List.length_drop]; omega
   have hqb : BytesAt wr b (off + 64 * k) ((P.drop (64 * k)).take 64) := (hby.drop (64 * k)).take 64
   have hsucc := Sha.blocks_succ k Sha.begin P
   generalize (P.drop (64 * k)).take 64 = q at *
   have SP := spread_any b (off + 64 * k) (cp - 64 * k) q wr hq64 (by omega) (by omega) hqb
   generalize Sha.blocks k Sha.begin P = st at *
   have htk : Sha.take st q = st.plus (Sha.rounds st (Sha.sched q) 64) := rfl
   have hSl := Sha.length_sched q
   generalize Sha.sched q = S at *
   rw [htk] at hsucc
   obtain ⟨gs, cs, rfl, hc1, hc2, hBg, hgl, hcell⟩ := OwnsW.form hos (fun e => by cases e)
   rw [show st.list.length = 8 from rfl] at *
   have hBs := hbw.size
   have HSU := Lib.hid hsucc
   have HIN := Lib.hid hi
   have HBW := Lib.hid hbw
   have HPR := Lib.hid hpr
   have HSL := Lib.hid hSl
   clear hsucc hi hbw hpr hby hqb hda htk hos hSl
   generalize hK : 64 * k = K at *
   have HKK := Lib.hid hK
   clear hK
   go_wp2_with fail
   refine SP.mono ?_
   rintro e w5 ⟨v5, rfl, ho5, hb5⟩
   have hSl := HSL.out
   obtain ⟨gw, cw, rfl, hw1, hw2, _, _, hcellw⟩ := OwnsW.form ho5 (fun e => by rw [e] at hSl; cases hSl)
   rw [hSl] at hw1 hcellw ⊢
   have RD := rounds_any st S gs cs gw cw w5 hSl (fun j hj => Keeps.below hb5 _ _ (hcell j hj)) hcellw
   generalize hst' : st.plus (Sha.rounds st S 64) = st' at *
   have HST := Lib.hid hst'
   have HB5 := Lib.hid hb5
   clear hst' SP hcell hcellw ho5 hb5 hSl
   go_wp2_with fail
   refine RD.mono ?_
   rintro e w6 ⟨v6, rfl, ho6, hb6⟩
   have hb56 := HB5.out.trans (hb6.mono HB5.out.size)
   have HO6 := Lib.hid ho6
   have HB6 := Lib.hid hb56
   have HS5 := Lib.hid HB5.out.size
   clear ho6 hb56 hb6 RD
   go_wp2
   go_roundw
   case rel =>
    have hk2 := HKK.out
    have h5 := HS5.out
    refine ⟨k + 1, by omega, by simp only [Value.int.injEq, true_and]; omega, ?_, HPR.out.keeps (Keeps.below HB6.out), HIN.out.below HB6.out, HBW.out.trans (HB6.out.mono (by omega))⟩
    rw [HSU.out]
    exact row_mono HO6.out fun q hq => by have := row_lt HO6.out hq; omega
   case measure =>
    have hk2 := HKK.out
    simp [intOf]; omega
  ·have hkP : 64 * k = P.length := by have := HP64.out; omega
   have hdiv : P.length / 64 = k := by omega
   have hsum := HSUM.out
   rw [hdiv] at hsum
   generalize Sha.blocks k Sha.begin P = st at *
   have hD : D = st.list.flatMap Sha.bytes4 := hsum
   have hFl : st.list.length = 8 := rfl
   generalize st.list = F at *
   obtain ⟨gs, cs, rfl, hc1, hc2, hBg, hgl, hcell⟩ := OwnsW.form hos (fun e => by rw [e] at hFl; cases hFl)
   rw [hkP]
   have HD := Lib.hid hD
   clear hsum hD hdiv hkP hlt hpr
   have hB1s := HB1.out.size
   have hBB := hbw.size
   have d0 : IdAt (wr.alloc (.cells (z.map U8).toArray 40)) wr.heap.size z := heap_alloc_new wr _
   have o1 := OwnsW.below hos (w' := wr.alloc (.cells (z.map U8).toArray 40)) ((Below.refl _ _).alloc (Nat.le_refl _) _)
   have i4 := hi.below (w' := wr.alloc (.cells (z.map U8).toArray 40)) ((Below.refl _ _).alloc (Nat.le_refl _) _)
   have hb5 := hbw.alloc (by omega) (.cells (z.map U8).toArray 40)
   have hil := hi.lt
   generalize hgde : wr.heap.size = gd at *
   clear hos hi hbw
   rw [hFl] at o1 hcell hc1 ⊢
   have HFL := Lib.hid hFl
   clear hFl hcell
   go_wp2
   clear hgde
   generalize wr.alloc (.cells (z.map U8).toArray 40) = w7 at *
   go_loopw [7] (fun i wr => ROutRel D F (.slice (some ⟨gs, 0, none⟩) 8 cs) z gd B w i wr) (fun i _ => 8 - (intOf i).toNat)
   case atStart => exact ⟨0, z, by omega, rfl, hzl, d0, fun j h => by omega, o1, i4, hb5⟩
   case round =>
    clear d0 o1 i4 hb5
    obtain ⟨i, f, hi8, rfl, hfl, hd, hj, ho, hi, hbw⟩ := hrel
    by_cases hlt : i < 8
    ·obtain ⟨gs', cs', e1, _, _, _, hgs, hcell⟩ := OwnsW.form ho (fun e => by have := HFL.out; rw [e] at this; cases this)
     injection e1 with e1 e2 e3
     injection e1 with e1
     injection e1 with e1 _ _
     subst e1 e3
     have hc := hcell i (by have := HFL.out; omega)
     have hfa := fun k (hk : k < 4) => flat_at F i k (by have := HFL.out; omega) hk
     rw [<- HD.out] at hfa
     generalize wordAt F i = x at *
     have PU := rput_any (x.setWidth 64) 4 (by decide) (by decide) wr
     have hle := fun k (hk : k < 4) => le4_at x k hk
     have hxl : (leB (x.setWidth 64) 4).length = 4 := length_leB _ _
     generalize leB (x.setWidth 64) 4 = X at *
     have hval : ∀ k, k < 4 -> byteAt X (3 - k) = byteAt D (4 * i + k) := fun k hk => by rw [hle k hk, hfa k hk]
     have HV := Lib.hid hval
     have HXL := Lib.hid hxl
     have HD0 := Lib.hid hd
     have HJ := Lib.hid hj
     have HO := Lib.hid ho
     have HI := Lib.hid hi
     have HBW := Lib.hid hbw
     clear hval hle hfa hcell hd hj ho hi hbw hxl e2
     go_wp2_with fail
     refine PU.mono ?_
     rintro e w8 ⟨v8, rfl, ho8, hb8⟩
     obtain ⟨gx, cx, rfl, hrowx, hgx1, hgx2⟩ := ho8.row (by have := HXL.out; omega)
     have hxl := HXL.out
     rw [hxl] at hrowx ⊢
     have bx : BytesAt w8 gx 0 X := fun q hq => by
      have := hrowx.cell q (by omega)
      rw [Nat.zero_add]; exact this
     have d8 := HD0.out.below hb8
     have o8 := OwnsW.below HO.out hb8
     have i8 := HI.out.below hb8
     have b8 := HBW.out.trans (hb8.mono (by have := HBW.out.size; omega))
     have hgdx : gx ≠ gd := by have := HD0.out.lt; omega
     clear PU hc hrowx ho8 hb8 hxl
     go_wp2
     go_loopw [9] (fun k_ wr => RInRel D X gx F (.slice (some ⟨gs, 0, none⟩) 8 cs) z gd B i w k_ wr) (fun k_ _ => 4 - (intOf k_).toNat)
     case atStart => exact ⟨0, f, by omega, rfl, hfl, d8, fun j h => HJ.out j (by omega), bx, o8, i8, b8⟩
     case round =>
      clear d8 bx o8 i8 b8
      obtain ⟨k, f2, hk4, rfl, hfl2, hd, hj, hbx, ho, hi, hbw⟩ := hrel
      by_cases hlt4 : k < 4
      ·obtain ⟨m, hm⟩ : ∃ m : Nat, (3 : Int) - k = m := ⟨3 - k, by omega⟩
       obtain ⟨r, hr⟩ : ∃ r : Nat, 4 * (i : Int) + k = r := ⟨4 * i + k, by omega⟩
       have hmk : m = 3 - k := by omega
       have hrk : r = 4 * i + k := by omega
       have hxc : wr.cell? ⟨gx, m, none⟩ = some (U8 (byteAt X m)) := by
        have := hbx m (by have := HXL.out; omega)
        rw [Nat.zero_add] at this; exact this
       have hval : byteAt X m = byteAt D r := by rw [hmk, hrk]; exact HV.out k hlt4
       rw [hval] at hxc
       have hth := hd.thawed r
       have hcd := hd.cell (i := r) (by omega)
       have hr32 : r < 32 := by omega
       have hm4 : m < 4 := by omega
       have HD1 := Lib.hid hd
       have HJ1 := Lib.hid hj
       have HBX := Lib.hid hbx
       have HO1 := Lib.hid ho
       have HI1 := Lib.hid hi
       have HBW1 := Lib.hid hbw
       have HRK := Lib.hid hrk
       clear hd hj hbx ho hi hbw hmk hrk hval
       generalize hy : byteAt D r = y at *
       have HY := Lib.hid hy
       clear hy
       go_wp2
       go_roundw
       case rel =>
        have hrk := HRK.out
        have t : Touch (fun q => q = gd) wr (wr.setCell ⟨gd, r, none⟩ (U8 y)) := Touch.set wr gd r _ rfl
        refine ⟨k + 1, f2.set r y, by omega, by go_num, by simp [hfl2], HD1.out.set r y, fun j hj => ?_, t.bytes HBX.out hgdx, HO1.out.touch t (fun q hq e => ?_), HI1.out.touch t (show ¬ (B = gd) by omega), HBW1.out.trans (t.below (fun q e => by have e2 : q = gd := e; omega) (by have := HBW1.out.size; omega))⟩
        ·rw [byteAt_set _ _ _ _ (by omega)]
         split
         ·rename_i e; subst e; exact HY.out.symm
         ·exact HJ1.out j (by omega)
        ·injection hq with hq
         have e2 : q = gd := e
         have e3 : gs = q := hq
         omega
       case measure => simp [intOf]; omega
      ·obtain rfl : k = 4 := by omega
       have HD1 := Lib.hid hd
       have HJ1 := Lib.hid hj
       have HO1 := Lib.hid ho
       have HI1 := Lib.hid hi
       have HBW1 := Lib.hid hbw
       clear hd hj hbx ho hi hbw
       rw [show (((4 : Nat) : Int)) = 4 from rfl]
       go_wp2
       go_roundw
       case rel => exact ⟨i + 1, f2, by omega, by go_num, hfl2, HD1.out, fun j h => HJ1.out j (by omega), HO1.out, HI1.out, HBW1.out⟩
       case measure => simp [intOf]; omega
    ·obtain rfl : i = 8 := by omega
     have hDl : D.length = 32 := by rw [HD.out, length_flat, HFL.out]
     have e0 : f = D := list_ext (by rw [hfl, hDl]) fun j h => hj j (by omega)
     subst e0
     have hiv := id_size f hDl
     have hov := id_one f
     have hzf : (z.map U8).toArray.size = (f.map U8).toArray.size := by rw [List.size_toArray, List.size_toArray, List.length_map, List.length_map, hDl, hzl]
     have hr2 : (wr.setRow B (f.map U8).toArray).heap[B]? = some (.cells (f.map U8).toArray 40 (0, 0)) := setRow_heap wr B _ _ 40 _ hi
     have tR : Touch (fun q => q = B) wr (wr.setRow B (f.map U8).toArray) := Touch.setRow wr _ _ rfl
     have hd2 : wr.heap[gd]? = some (.cells (f.map U8).toArray 40 (0, 0)) := hd
     have hi2 : wr.heap[B]? = some (.cells (z.map U8).toArray 40 (0, 0)) := hi
     have HB := Lib.hid hbw
     clear hbw hd hi hj ho
     generalize hE : (f.map U8).toArray = E at *
     have HE := Lib.hid hE
     clear hE
     go_wp2_with (first | (refine wpList_load_row rfl 40 _ rfl gd rfl _ E _ _ hd2 Tryz.underlying40 rfl hiv ?_) | (refine wpList_store_row rfl 40 _ _ rfl B E rfl rfl _ (z.map U8).toArray hi2 hiv hzf hov ?_))
     refine bodyPost_ret (results_cell_row rfl _ _ B _ E _ _ rfl hr2 Tryz.underlying40 rfl hiv) rfl ?_
     exact ⟨by rw [HE.out], HB.out.trans (tR.below (fun q e => by have e2 : q = B := e; omega) (by have := HB.out.size; omega))⟩
end Go.Proofs.YtbicafgmfgdckaaGreatDoor
namespace Go.Proofs.YtbicafgmfgdckaaGreatDoor
open Go Go.RowKit

section
variable {α : Type} {enc : α -> List Value} {K : Nat}
theorem flatC_at : ∀ (l : List α) (i j : Nat) (u : Value) (hi : i < l.length), (∀ x ∈ l, (enc x).length = K) -> (enc l[i])[j]? = some u -> (l.flatMap enc)[i * K + j]? = some u
 | [], i, j, u, h, _, _ => by simp at h
 | x :: l, 0, j, u, _, _, hv => by
  rw [List.getElem_cons_zero] at hv
  rw [List.flatMap_cons, Nat.zero_mul, Nat.zero_add, List.getElem?_append_left (List.getElem?_eq_some_iff.1 hv).1]
  exact hv
 | x :: l, i + 1, j, u, h, hl, hv => by
  have hW := hl x (by simp)
  rw [List.getElem_cons_succ] at hv
  rw [List.flatMap_cons, List.getElem?_append_right (by rw [hW, Nat.add_mul]; omega), hW, show (i + 1) * K + j - K = i * K + j by rw [Nat.add_mul]; omega]
  exact flatC_at l i j u (by simpa using h) (fun y hy => hl y (by simp [hy])) hv
end
structure RowsC {α : Type} (enc : α -> List Value) (K : Nat) (w : World) (a : Option Addr) (cap : Nat) (l : List α) : Prop where
 fits : l.length <= cap
 room : cap <= 9223372036854775807
 rows : l = [] \/ ∃ b off, a = some ⟨b, off, none⟩ /\ ∀ i (hi : i < l.length), w.rangeAt b (off + i * K) (enc l[i])
structure OwnsC {α : Type} (enc : α -> List Value) (K : Nat) (w : World) (B : Nat) (T : TypeId) (v : Value) (l : List α) : Prop where
 row : w.ownsRow B T K v l.length (l.flatMap enc)
 cells : ∀ x ∈ l, (enc x).length = K
section
variable {α : Type} {enc : α -> List Value} {K : Nat} {w w' : World} {B : Nat} {T : TypeId} {v v' : Value} {l : List α} {a : Option Addr} {cap : Nat}
theorem RowsC.keeps (h : RowsC enc K w a cap l) (k : Keeps w w') : RowsC enc K w' a cap l := by
 refine ⟨h.fits, h.room, ?_⟩
 rcases h.rows with e | ⟨b, off, e, hb⟩
 ·exact .inl e
 ·exact .inr ⟨b, off, e, fun i hi j u hu => k _ _ (hb i hi j u hu)⟩
theorem RowsC.below (h : RowsC enc K w a cap l) (k : Below w.heap.size w w') : RowsC enc K w' a cap l := h.keeps (Keeps.below k)
theorem rowsC_nil : RowsC enc K w none 0 ([] : List α) := ⟨by simp, by omega, .inl rfl⟩
theorem ownsC_nil (w : World) (B : Nat) (T : TypeId) : OwnsC enc K w B T (.slice none 0 0) [] := ⟨World.ownsRow_nil w B T K, fun x h => by simp at h⟩
theorem OwnsC.touch {F : Nat -> Prop} (h : OwnsC enc K w B T v l) (t : Touch F w w') (h1 : ∀ k, v.ownBlock = some k -> ¬ F k) : OwnsC enc K w' B T v l := ⟨t.row h.row h1, h.cells⟩
theorem OwnsC.below (h : OwnsC enc K w B T v l) (hb : Below w.heap.size w w') : OwnsC enc K w' B T v l := h.touch (F := fun _ => False) (.of_below hb) fun _ _ e => e
theorem OwnsC.mono {B' : Nat} (h : OwnsC enc K w B T v l) (hB : B' <= B) : OwnsC enc K w B' T v l := ⟨row_mono h.row fun _ hk => Nat.le_trans hB (row_lt h.row hk).1, h.cells⟩
theorem OwnsC.form (h : OwnsC enc K w B T v l) : ∃ a cap, v = .slice a l.length cap /\ RowsC enc K w a cap l /\ ((l = [] /\ a = none /\ cap = 0) \/ ∃ g, a = some ⟨g, 0, none⟩ /\ v.ownBlock = some g /\ B <= g /\ g < w.heap.size /\ ∀ o, w.frozen? ⟨g, o, none⟩ = false) := by
 rcases h.row.2 with ⟨rfl, h0⟩ | ⟨g, cap, cur, rfl, hB, hg, hn, hc, hs, ht⟩
 ·have e : l = [] := List.eq_nil_of_length_eq_zero h0
  subst e
  exact ⟨none, 0, rfl, rowsC_nil, .inl ⟨rfl, rfl, rfl⟩⟩
 ·refine ⟨some ⟨g, 0, none⟩, cap, rfl, ⟨hn, by unfold maxLen at hc; omega, .inr ⟨g, 0, rfl, fun i hi j u hu => ?_⟩⟩, .inr ⟨g, rfl, rfl, hB, heap_lt hg, fun o => frozen_of_row w g o cur _ hg⟩⟩
  have := h.row.cells (g := g) rfl (i * K + j) u (flatC_at l i j u hi h.cells hu)
  rw [Addr.add_lit, Nat.zero_add] at this
  rw [Nat.zero_add]
  exact this
theorem OwnsC.snoc {x : α} (h : OwnsC enc K w B T v l) (hl : (enc x).length = K) (h1 : w'.ownsRow B T K v' (l.length + 1) (l.flatMap enc ++ enc x)) : OwnsC enc K w' B T v' (l ++ [x]) := by
 refine ⟨by rw [List.length_append, List.length_singleton, List.flatMap_append, List.flatMap_singleton]; exact h1, fun y hy => ?_⟩
 rcases List.mem_append.1 hy with hy | hy
 ·exact h.cells y hy
 ·rw [List.mem_singleton] at hy; subst hy; exact hl
end
theorem wpList_append_c {α : Type} {enc : α -> List Value} {K : Nat} {P : Program} {w : World} {ops : Array Oper} {rest : List Oper} {o : Oper} {act : Act} {Q : Exit -> Act -> World -> Prop} {t e : TypeId} {z : Value} {bytes : Nat} (ht : P.underlying t = some (.slice e)) (hinfo : (P.info? e).map (fun i => (i.zero, i.size, i.bytes)) = some (some z, K, bytes)) (hz : z.cells.size = K) (hK : 0 < K)
  (hgd : o.guard = none) (s x : Operand) (ho : o.op = .call { callee := .builtin .append, args := #[s, x], argTypes := #[t, t] })
  (B : Nat) (v : Value) (l : List α) (hs : act.eval s = v) (hown : OwnsC enc K w B e v l) (y : α) (ad : Addr) (c : Nat) (hx : act.eval x = .slice (some ad) 1 c)
  (hc : ∀ j u, (enc y)[j]? = some u -> w.cell? (ad.add j) = some u) (h1 : ∀ u ∈ enc y, u.oneCell' = true) (hl : (enc y).length = K) (hn : l.length + 1 <= 1048576) (hby : bytes <= 1048576) (hbase : B <= w.heap.size)
  (h : ∀ v' w', OwnsC enc K w' B e v' (l ++ [y]) -> w.grownBy w' v.ownBlock -> (v'.ownBlock = v.ownBlock \/ v'.ownBlock = some w.heap.size) -> wpList P ops Q rest (act.put o.dst v') w') : wpList P ops Q (o :: rest) act w := by
 obtain ⟨i, hi, hz0, hz1, hz2⟩ := info_parts hinfo
 have hb : (l.length + 1) * bytes <= 1048576 * 1048576 := Nat.mul_le_mul hn hby
 refine wpList_append_own_at w hgd s x t ho B e i z K bytes ht hi hz0 hz1 hz2 hz hK v l.length _ hs hown.row ad 1 c (enc y) hx (by rw [hl, Nat.one_mul]) hc h1 (by unfold maxLen; omega) (Nat.le_trans hb (by decide)) hbase ?_
 intro v' w' r1 r2 _ r4
 exact h v' w' (hown.snoc hl r1) r2 r4
theorem fold_setC : ∀ (C : List Value) (k : Nat) (Z : Array Value), Z.size = k + C.length -> (C.zipIdx k).foldl (fun cs x => cs.setIfInBounds x.2 x.1) Z = (Z.toList.take k ++ C).toArray
 | [], k, Z, h => by
  rw [List.append_nil, List.take_of_length_le (by rw [Array.length_toList, h]; simp)]
  simp
 | c :: C, k, Z, h => by
  have hk : k < Z.toList.length := by rw [Array.length_toList, h]; simp
  rw [List.zipIdx_cons, List.foldl_cons, fold_setC C (k + 1) _ (by simp [h]; omega)]
  congr 1
  rw [Array.toList_setIfInBounds, List.take_set, List.take_succ_eq_append_getElem hk, List.set_append_right _ _ (by rw [List.length_take]; omega), List.length_take, Nat.min_eq_left (by omega), Nat.sub_self]
  simp
theorem run_one_c {P : Program} (w : World) {t e : TypeId} {z : Value} {W bytes : Nat} (ht : P.underlying t = some (.slice e)) (hinfo : (P.info? e).map (fun i => (i.zero, i.size, i.bytes)) = some (some z, W, bytes)) (_hz : z.cells.size = W)
  (C : List Value) (hC : C.length = W) (h0 : 0 < W) (h1 : W <= 1000) :
  (Instr.buildSlice t 1 #[(0, .agg C.toArray)]).run P w = .ok (.slice (some ⟨w.heap.size, 0, none⟩) 1 1) (w.alloc (.cells C.toArray e)) := by
 obtain ⟨i, hi, hz0, hz1, hz2⟩ := info_parts hinfo
 have hne : ¬ W = 0 := by omega
 have h2 : ¬ 16777216 < W := by omega
 have hf : C.zipIdx.foldl (fun cs x => cs.setIfInBounds x.2 x.1) ((Array.range W).map (z.cells[· % z.cells.size]!)) = C.toArray := by
  rw [fold_setC C 0 _ (by simp [hC])]
  simp
 have hcs : (Value.agg C.toArray).cells.size = W := by show C.toArray.size = W; simpa using hC
 have hfo : Array.foldl (fun cs x => cs.setIfInBounds (0 * W + x.snd) x.fst) ((Array.range W).map (z.cells[· % z.cells.size]!)) (Value.agg C.toArray).cells.zipIdx = C.toArray := by
  refine Eq.trans ?_ hf
  show Array.foldl _ _ C.toArray.zipIdx = _
  simp
 have hfill : Instr.fill (fun i => some (i * W, W)) ((Array.range W).map (z.cells[· % z.cells.size]!)) [(0, .agg C.toArray)] = some C.toArray := by
  unfold Instr.fill
  simp only [hcs]
  rw [if_neg (by simp)]
  unfold Instr.fill
  rw [hfo]
 unfold Instr.buildSlice
 simp only [Sem.run_bind, run_underlying ht, Result.andThen_ok, sizeOf, typeInfo, Nat.one_mul, Sem.run_pure, zeroValue]
 simp [hne, h2, hz0, hi, hz1, hfill, newRow]
theorem wpList_lit_c {P : Program} {w : World} {ops : Array Oper} {rest : List Oper} {o : Oper} {a : Act} {Q : Exit -> Act -> World -> Prop} {t e : TypeId} {z : Value} {W bytes : Nat} (ht : P.underlying t = some (.slice e)) (hinfo : (P.info? e).map (fun i => (i.zero, i.size, i.bytes)) = some (some z, W, bytes)) (hz : z.cells.size = W)
  (hgd : o.guard = none) (x : Operand) (ho : o.op = .buildSlice t 1 #[(0, x)]) (C : List Value) (hx : a.eval x = .agg C.toArray) (hC : C.length = W) (h0 : 0 < W) (h1 : W <= 1000)
  (h : wpList P ops Q rest (a.put o.dst (.slice (some ⟨w.heap.size, 0, none⟩) 1 1)) (w.alloc (.cells C.toArray e))) : wpList P ops Q (o :: rest) a w := by
 refine wpList_plain hgd fun K hK => ?_
 have hr := run_one_c (P := P) w ht hinfo hz C hC h0 h1
 unfold Oper.wp execOp
 simp only [ho, List.map_toArray, List.map_cons, List.map_nil, hx, Sem.run_bind, hr, Result.andThen_ok, Sem.run_pure]
 exact hK _ _ h
theorem wpList_lit_append {α : Type} {enc : α -> List Value} {K : Nat} {P : Program} {w : World} {ops : Array Oper} {rest : List Oper} {o1 o2 : Oper} {a : Act} {Q : Exit -> Act -> World -> Prop} {t e : TypeId} {z : Value} {bytes : Nat} (ht : P.underlying t = some (.slice e)) (hinfo : (P.info? e).map (fun i => (i.zero, i.size, i.bytes)) = some (some z, K, bytes)) (hz : z.cells.size = K) (hK : 0 < K) (hK1 : K <= 1000)
  (hg1 : o1.guard = none) (x : Operand) (ho1 : o1.op = .buildSlice t 1 #[(0, x)]) (hg2 : o2.guard = none) (s u : Operand) (ho2 : o2.op = .call { callee := .builtin .append, args := #[s, u], argTypes := #[t, t] })
  (B : Nat) (v : Value) (l : List α) (hown : OwnsC enc K w B e v l) (y : α) (C : List Value) (hC : enc y = C) (hx : a.eval x = .agg C.toArray)
  (hs : (a.put o1.dst (.slice (some ⟨w.heap.size, 0, none⟩) 1 1)).eval s = v) (hu : (a.put o1.dst (.slice (some ⟨w.heap.size, 0, none⟩) 1 1)).eval u = .slice (some ⟨w.heap.size, 0, none⟩) 1 1)
  (h1 : ∀ u ∈ C, u.oneCell' = true) (hl : C.length = K) (hn : l.length + 1 <= 1048576) (hby : bytes <= 1048576) (hbase : B <= w.heap.size)
  (h : ∀ v' w', OwnsC enc K w' B e v' (l ++ [y]) -> Touch (fun k => v.ownBlock = some k) w w' -> (v'.ownBlock = v.ownBlock \/ ∃ k, v'.ownBlock = some k /\ w.heap.size <= k) -> wpList P ops Q rest ((a.put o1.dst (.slice (some ⟨w.heap.size, 0, none⟩) 1 1)).put o2.dst v') w') : wpList P ops Q (o1 :: o2 :: rest) a w := by
 refine wpList_lit_c ht hinfo hz hg1 x ho1 C hx hl hK hK1 ?_
 have nA := (Below.refl w.heap.size w).alloc (Nat.le_refl _) (.cells C.toArray e)
 have rA := rangeAt_row (heap_alloc_new w (.cells C.toArray e))
 rw [List.toList_toArray] at rA
 refine wpList_append_c ht hinfo hz hK hg2 s u ho2 B v l hs (hown.below nA) y ⟨w.heap.size, 0, none⟩ 1 hu (fun j q hq => ?_) (by rw [hC]; exact h1) (by rw [hC]; exact hl) hn hby (Nat.le_trans hbase nA.size) ?_
 ·rw [Addr.add_lit]
  rw [hC] at hq
  exact rA j q hq
 ·intro v' w' q1 q2 q3
  refine h v' w' q1 ((Touch.of_below nA).trans (.of_grown q2 fun k e => e)) ?_
  rcases q3 with q3 | q3
  ·exact .inl q3
  ·exact .inr ⟨_, q3, nA.size⟩
theorem touch_own {B : Nat} {w0 w w' : World} {v : Value} {α : Type} {enc : α -> List Value} {K : Nat} {T : TypeId} {l : List α} (hb : Below B w0 w) (hB : B <= w0.heap.size) (ho : OwnsC enc K w B T v l) (t : Touch (fun k => v.ownBlock = some k) w w') : Below B w0 w' :=
 hb.trans (t.below (fun _ hk => (row_lt ho.row hk).1) (Nat.le_trans hB hb.size))
theorem at_slit (t : TypeId) {P : Program} {ops : Array Oper} {Q : Exit -> Act -> World -> Prop} {rest : List Oper} {d : Option Tmp} {n : Nat} {parts : Array (Nat × Operand)} {ty : TypeId} {pos : String} {after : Array Edge} {g : Option (Nat × Bool)} {a : Act} {w : World}
  (h : wpList P ops Q ({ dst := d, op := .buildSlice t n parts, type := ty, pos, after, guard := g } :: rest) a w) : wpList P ops Q ({ dst := d, op := .buildSlice t n parts, type := ty, pos, after, guard := g } :: rest) a w := h
end Go.Proofs.YtbicafgmfgdckaaGreatDoor
namespace Go.Proofs.YtbicafgmfgdckaaGreatDoor
open Go Go.RowKit

def keyC (k : List (BitVec 8)) : List Value := k.map U8
def zeroKey : List (BitVec 8) := List.replicate 32 0
theorem one_keyC (k : List (BitVec 8)) : ∀ u ∈ keyC k, u.oneCell' = true := fun u hu => by
 obtain ⟨y, _, rfl⟩ := List.mem_map.1 hu
 rfl
def ub (c : BitVec 8) : UInt8 := UInt8.ofNat c.toNat
theorem ub_inj {c d : BitVec 8} (h : ub c = ub d) : c = d := by
 apply BitVec.eq_of_toNat_eq
 have := congrArg UInt8.toNat h
 simpa [ub] using this
theorem map_ub_beq : ∀ k m : List (BitVec 8), (k.map ub == m.map ub) = (k == m) := fun k m => by
 rw [Bool.eq_iff_iff, beq_iff_eq, beq_iff_eq]
 constructor
 ·intro h
  induction k generalizing m with
  | nil => cases m with
   | nil => rfl
   | cons d m => simp at h
  | cons c k ih => cases m with
   | nil => simp at h
   | cons d m =>
    simp only [List.map_cons, List.cons.injEq] at h
    rw [ub_inj h.1, ih m h.2]
 ·rintro rfl; rfl
theorem map_cell (k : List (BitVec 8)) : (k.map ub).map Extern.Stop.cell = k.map U8 := by
 rw [List.map_map]
 apply List.map_congr_left
 intro c _
 simp [Extern.Stop.cell, ub, U8]
end Go.Proofs.YtbicafgmfgdckaaGreatDoor
namespace RollMath

abbrev W := BitVec 32
def rot (x : W) (n : Nat) : W := x.rotateLeft n

theorem rot_xor (x y : W) (n : Nat) : rot (x ^^^ y) n = rot x n ^^^ rot y n := by
 unfold rot
 refine BitVec.eq_of_getLsbD_eq fun i hi => ?_
 simp only [BitVec.getLsbD_rotateLeft, BitVec.getLsbD_xor]
 by_cases h : i < n % 32 <;> simp [h, hi]
theorem rot_zero (n : Nat) : rot 0#32 n = 0#32 := by
 unfold rot
 refine BitVec.eq_of_getLsbD_eq fun i hi => ?_
 simp only [BitVec.getLsbD_rotateLeft, BitVec.getLsbD_zero]
 by_cases h : i < n % 32 <;> simp [h]
theorem rot_bit (x : W) (n i : Nat) (hi : i < 32) : (rot x n).getLsbD i = x.getLsbD ((i + 32 - n % 32) % 32) := by
 unfold rot
 rw [BitVec.getLsbD_rotateLeft]
 by_cases h : i < n % 32
 ·rw [show (i + 32 - n % 32) % 32 = 32 - n % 32 + i by omega]; simp [h]
 ·rw [show (i + 32 - n % 32) % 32 = i - n % 32 by omega]; simp [h, hi]
theorem rot_rot (x : W) (m n : Nat) : rot (rot x m) n = rot x (m + n) := by
 refine BitVec.eq_of_getLsbD_eq fun i hi => ?_
 rw [rot_bit _ _ _ hi, rot_bit _ _ _ (Nat.mod_lt _ (by decide)), rot_bit _ _ _ hi]
 congr 1; omega
theorem rot_mod (x : W) (n : Nat) : rot x (n % 32) = rot x n := by
 refine BitVec.eq_of_getLsbD_eq fun i hi => ?_
 rw [rot_bit _ _ _ hi, rot_bit _ _ _ hi]
 congr 1; omega
theorem rot_none (x : W) : rot x 0 = x := by
 refine BitVec.eq_of_getLsbD_eq fun i hi => ?_
 rw [rot_bit _ _ _ hi]
 congr 1; omega
theorem rot_shifts (x : W) (n : Nat) (h : n < 32) : (x <<< n) ||| (x >>> (32 - n)) = rot x n := by
 unfold rot
 rw [BitVec.rotateLeft_def, Nat.mod_eq_of_lt h]

def word (seed : W) (c : BitVec 8) : W :=
 let x := seed + (c.setWidth 32 + 1#32) * 0x9e3779b9#32
 let y := (x ^^^ x >>> 16) * 0x85ebca6b#32
 let z := (y ^^^ y >>> 13) * 0xc2b2ae35#32
 z ^^^ z >>> 16

def sumFrom (seed x : W) (l : List (BitVec 8)) : W := l.foldl (fun x c => rot x 1 ^^^ word seed c) x
def sum (seed : W) (l : List (BitVec 8)) : W := sumFrom seed 0#32 l

theorem sumFrom_append (seed x : W) (a b : List (BitVec 8)) : sumFrom seed x (a ++ b) = sumFrom seed (sumFrom seed x a) b := List.foldl_append
theorem sumFrom_split (seed x : W) (l : List (BitVec 8)) : sumFrom seed x l = rot x l.length ^^^ sum seed l := by
 induction l generalizing x with
 | nil => simp [sumFrom, sum, rot_none]
 | cons c l ih =>
  have e : ∀ y, sumFrom seed y (c :: l) = sumFrom seed (rot y 1 ^^^ word seed c) l := fun _ => rfl
  rw [sum, e, e, ih, ih (rot 0#32 1 ^^^ _), rot_xor, rot_xor, rot_rot, rot_zero, rot_zero, BitVec.zero_xor, BitVec.xor_assoc, List.length_cons, Nat.add_comm 1]
theorem sum_nil (seed : W) : sum seed [] = 0#32 := rfl
theorem sum_snoc (seed : W) (l : List (BitVec 8)) (c : BitVec 8) : sum seed (l ++ [c]) = rot (sum seed l) 1 ^^^ word seed c := by
 rw [sum, sumFrom_append]; rfl
theorem sum_cons (seed : W) (c : BitVec 8) (l : List (BitVec 8)) : sum seed (c :: l) = rot (word seed c) l.length ^^^ sum seed l := by
 have e : sum seed (c :: l) = sumFrom seed (rot 0#32 1 ^^^ word seed c) l := rfl
 rw [e, sumFrom_split, rot_zero, BitVec.zero_xor]
theorem sum_slide (seed : W) (d c : BitVec 8) (l : List (BitVec 8)) :
  (rot (sum seed (d :: l)) 1 ^^^ word seed c) ^^^ rot (word seed d) (l.length + 1) = sum seed (l ++ [c]) := by
 have h := sum_cons seed d (l ++ [c])
 rw [List.length_append, List.length_singleton] at h
 rw [<- sum_snoc, List.cons_append, h]
 have e : ∀ x y : W, (x ^^^ y) ^^^ x = y := by
  intro x y; rw [BitVec.xor_comm x y, BitVec.xor_assoc, BitVec.xor_self, BitVec.xor_zero]
 exact e _ _

def part (seed : W) (l : List (BitVec 8)) (k : Nat) : W := ((List.range k).map fun i => rot (word seed (l.getD i 0#8)) ((l.length - 1 - i) % 32)).foldl (· ^^^ ·) 0#32
theorem part_succ (seed : W) (l : List (BitVec 8)) (k : Nat) : part seed l (k + 1) = part seed l k ^^^ rot (word seed (l.getD k 0#8)) ((l.length - 1 - k) % 32) := by
 unfold part; rw [List.range_succ, List.map_append, List.foldl_append]; rfl
theorem part_is (seed : W) (l : List (BitVec 8)) : ∀ k, k <= l.length -> part seed l k = rot (sum seed (l.take k)) (l.length - k) := by
 intro k
 induction k with
 | zero => intro _; rw [List.take_zero, sum_nil, rot_zero]; rfl
 | succ k ih =>
  intro h
  have hk : k < l.length := by omega
  rw [part_succ, ih (by omega), rot_mod, <- List.take_append_getElem hk, sum_snoc, rot_xor, rot_rot]
  rw [show 1 + (l.length - (k + 1)) = l.length - k by omega, show l.length - 1 - k = l.length - (k + 1) by omega]
  simp [List.getD_eq_getElem?_getD, List.getElem?_eq_getElem hk]
theorem part_all (seed : W) (l : List (BitVec 8)) : part seed l l.length = sum seed l := by
 rw [part_is seed l _ (Nat.le_refl _), List.take_length, Nat.sub_self, rot_none]

def word64 (seed : W) (c : BitVec 8) : BitVec 64 :=
 let x := (seed.setWidth 64 + (c.setWidth 64 + 1#64) * 0x9e3779b9#64) % 4294967296#64
 let y := (x ^^^ x / 65536#64) * 0x85ebca6b#64 % 4294967296#64
 let z := (y ^^^ y / 8192#64) * 0xc2b2ae35#64 % 4294967296#64
 z ^^^ z / 65536#64
theorem xor_div (x : W) (k : Nat) : (x.setWidth 64 ^^^ x.setWidth 64 / BitVec.ofNat 64 (2 ^ k)).toNat = (x ^^^ x >>> k).toNat \/ 64 <= k := by
 by_cases hk : 64 <= k
 ·exact .inr hk
 ·left
  have hx := x.isLt
  rw [BitVec.toNat_xor, BitVec.toNat_xor, BitVec.toNat_udiv, BitVec.toNat_ushiftRight, BitVec.toNat_setWidth, BitVec.toNat_ofNat,
   Nat.mod_eq_of_lt (show 2 ^ k < 2 ^ 64 from Nat.pow_lt_pow_right (by decide) (by omega)), Nat.mod_eq_of_lt (show x.toNat < 2 ^ 64 by omega), Nat.shiftRight_eq_div_pow]
theorem mul_mod (x : W) (k : Nat) (hk : k < 64) (c : Nat) (hc : c < 4294967296) :
  (x.setWidth 64 ^^^ x.setWidth 64 / BitVec.ofNat 64 (2 ^ k)) * BitVec.ofNat 64 c % 4294967296#64 = ((x ^^^ x >>> k) * BitVec.ofNat 32 c).setWidth 64 := by
 apply BitVec.eq_of_toNat_eq
 have h := (xor_div x k).resolve_right (by omega)
 have hl := (x ^^^ x >>> k).isLt
 rw [BitVec.toNat_umod, BitVec.toNat_mul, h, BitVec.toNat_setWidth, BitVec.toNat_mul, BitVec.toNat_ofNat, BitVec.toNat_ofNat, BitVec.toNat_ofNat]
 generalize (x ^^^ x >>> k).toNat = n at hl
 have h2 : n * c < 2 ^ 64 := by
  have : n * c <= 4294967295 * 4294967295 := Nat.mul_le_mul (by omega) (by omega)
  omega
 rw [Nat.mod_eq_of_lt (show c < 2 ^ 64 by omega), Nat.mod_eq_of_lt h2, Nat.mod_eq_of_lt (show c < 2 ^ 32 by omega)]
 generalize n * c = m at h2
 simp only [Nat.reducePow, Nat.reduceMod]
 omega
theorem first_mod (seed : W) (c : BitVec 8) :
  (seed.setWidth 64 + (c.setWidth 64 + 1#64) * 0x9e3779b9#64) % 4294967296#64 = (seed + (c.setWidth 32 + 1#32) * 0x9e3779b9#32).setWidth 64 := by
 apply BitVec.eq_of_toNat_eq
 have h1 := seed.isLt
 have h2 := c.isLt
 rw [BitVec.toNat_umod, BitVec.toNat_add, BitVec.toNat_mul, BitVec.toNat_add, BitVec.toNat_setWidth, BitVec.toNat_setWidth, BitVec.toNat_setWidth, BitVec.toNat_add, BitVec.toNat_mul, BitVec.toNat_add, BitVec.toNat_setWidth,
  BitVec.toNat_ofNat, BitVec.toNat_ofNat, BitVec.toNat_ofNat, BitVec.toNat_ofNat, BitVec.toNat_ofNat]
 simp only [Nat.reducePow, Nat.reduceMod]
 omega
theorem word64_is (seed : W) (c : BitVec 8) : (word64 seed c).setWidth 32 = word seed c := by
 unfold word64 word
 simp only [first_mod]
 rw [show (65536#64) = BitVec.ofNat 64 (2 ^ 16) from rfl, show (8192#64) = BitVec.ofNat 64 (2 ^ 13) from rfl,
  show (0x85ebca6b#64) = BitVec.ofNat 64 0x85ebca6b from rfl, show (0xc2b2ae35#64) = BitVec.ofNat 64 0xc2b2ae35 from rfl,
  mul_mod _ 16 (by decide) _ (by decide), mul_mod _ 13 (by decide) _ (by decide)]
 apply BitVec.eq_of_toNat_eq
 rw [BitVec.toNat_setWidth, (xor_div _ 16).resolve_right (by decide), Nat.mod_eq_of_lt (BitVec.isLt _)]

end RollMath
namespace Go.Proofs.YtbicafgmfgdckaaGreatDoor
open Go Go.RowKit

theorem shifts_rot (x : BitVec 32) (k : Nat) (hk : k < 32) : x <<< k ||| x >>> (32 - k) = RollMath.rot x k := RollMath.rot_shifts x k hk

def Gives (w : World) (v : Value) (e : Ending) (w' : World) : Prop := ∃ n, e = .returned v /\ w' = w.drewN n

theorem turn32_any (x : BitVec 32) (N : Int) (w : World) : Calls Tryz.prog 111 #[U32 x, .int .i64 N] w (Gives w (U32 (RollMath.rot x (N % 32).toNat))) := by
 have hb := and31 N
 obtain ⟨k, hk⟩ : ∃ k : Nat, N % 32 = k := ⟨(N % 32).toNat, by omega⟩
 have hk32 : k < 32 := by omega
 rw [hk] at hb ⊢
 rw [Int.toNat_natCast]
 clear hk
 have HR := Lib.hid (shifts_rot x k hk32)
 have h0 : (0 : Int) <= 32 - (k : Int) := by omega
 have h3 : (k : Int) <= 32 := by omega
 have h1 : ((32 : Int) - (k : Int)).toNat = 32 - k := by omega
 have h2 : IntKind.i64.wrap (32 - (k : Int)) = 32 - (k : Int) := IntWalk.i64_in _ (by omega)
 go_enter Tryz.func111, Tryz.ntmps111
 go_wp2
 go_quiet (fail)
 go_wp2
 go_ret
 exact ⟨_, ret_u32 HR.out, rfl⟩
theorem word_any (s : BitVec 32) (c : BitVec 8) (w : World) : Calls Tryz.prog 95 #[U32 s, U8 c] w fun e w' => e = .returned (U32 (RollMath.word s c)) /\ w = w' := by
 go_enter Tryz.func95, Tryz.ntmps95
 go_wp2
 go_ret
 exact ⟨rfl, rfl⟩
theorem refWord_any (s : BitVec 32) (c : BitVec 8) (w : World) : Calls Tryz.prog 103 #[U32 s, U8 c] w fun e w' => e = .returned (U32 (RollMath.word s c)) /\ w = w' := by
 rw [<- RollMath.word64_is]
 go_enter Tryz.func103, Tryz.ntmps103
 go_wp2
 go_ret
 exact ⟨ret_u32 (by simp only [RollMath.word64, BitVec.setWidth_xor]), rfl⟩

theorem part_step (s : BitVec 32) (l : List (BitVec 8)) (k n : Nat) (hn : n = (l.length - 1 - k) % 32) :
  RollMath.part s l (k + 1) = RollMath.part s l k ^^^ ((RollMath.word s (byteAt l k) <<< n) ||| (RollMath.word s (byteAt l k) >>> (32 - n))) := by
 have hn32 : n < 32 := by omega
 rw [shifts_rot _ n hn32, RollMath.part_succ, hn]; rfl
theorem refSum_some (s : BitVec 32) (b off cap : Nat) (l : List (BitVec 8)) (w : World) (hl : l.length <= 9223372036854775807) (hb : BytesAt w b off l) :
  Calls Tryz.prog 82 #[U32 s, .slice (some ⟨b, off, none⟩) l.length cap] w fun e w' => e = .returned (U32 (RollMath.sum s l)) /\ w = w' := by
 go_enter Tryz.func82, Tryz.ntmps82
 go_wp2
 go_loop [5, 6] (fun x i => ∃ k : Nat, k <= l.length /\ i = .int .i64 k /\ x = U32 (RollMath.part s l k)) (fun _ i => l.length - (intOf i).toNat)
 case atStart => exact ⟨0, Nat.zero_le _, rfl, rfl⟩
 case round =>
  obtain ⟨k, hk, rfl, rfl⟩ := hrel
  by_cases hlt : k < l.length
  ·have hc := hb k hlt
   clear hb
   obtain ⟨n, hn⟩ : ∃ n, n = (l.length - 1 - k) % 32 := ⟨_, rfl⟩
   have HS := Lib.hid (part_step s l k n hn)
   have hn2 : ((l.length : Int) - 1 - (k : Int)) % 32 = (n : Int) := by omega
   have hn3 : n < 32 := by omega
   have h3 : (n : Int) <= 32 := by omega
   have h1 : ((32 : Int) - (n : Int)).toNat = 32 - n := by omega
   have HN := Lib.hid hn; clear hn
   generalize RollMath.part s l k = X at *
   generalize byteAt l k = c at *
   go_wp2_with (go_at_call 103; refine (refWord_any _ _ _).mono ?_; rintro e w' ⟨rfl, rfl⟩)
   go_round
   case rel => exact ⟨k + 1, by omega, by go_num, by rw [HS.out]⟩
   case measure => simp [intOf]; omega
  ·go_wp2
   go_ret
   exact ⟨ret_u32 (by rw [show k = l.length by omega, RollMath.part_all]), rfl⟩
theorem refSum_none (s : BitVec 32) (a : Option Addr) (cap : Nat) (w : World) : Calls Tryz.prog 82 #[U32 s, .slice a 0 cap] w fun e w' => e = .returned (U32 (RollMath.sum s [])) /\ w = w' := by
 go_enter Tryz.func82, Tryz.ntmps82
 go_wp2
 refine wp_loop_once ?_
 go_wp2
 go_ret
 exact ⟨rfl, rfl⟩
theorem refRollSum_any (s : BitVec 32) (a : Option Addr) (cap : Nat) (l : List (BitVec 8)) (w : World) (hb : Reads w a cap l) : Calls Tryz.prog 82 #[U32 s, .slice a l.length cap] w fun e w' => e = .returned (U32 (RollMath.sum s l)) /\ w = w' := by
 rcases hb.bytes with rfl | ⟨b, off, rfl, h⟩
 ·exact refSum_none s a cap w
 ·exact refSum_some s b off cap l w hb.len h
end Go.Proofs.YtbicafgmfgdckaaGreatDoor
