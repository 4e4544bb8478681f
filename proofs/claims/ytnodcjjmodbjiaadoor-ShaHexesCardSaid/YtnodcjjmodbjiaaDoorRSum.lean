/- The reference's Sum. -/
import Derived.Test.YtnodcjjmodbjiaaDoorPad
namespace Go.Proofs.YtnodcjjmodbjiaaDoor
open Go Go.RowKit

/-- An ID in memory, byte by byte. -/
def IdAt (w : World) (g : Nat) (f : List (BitVec 8)) : Prop := w.heap[g]? = some (.cells (f.map U8).toArray 26 (0, 0))
section
variable {w w' : World} {g : Nat} {f : List (BitVec 8)}
theorem IdAt.cell (h : IdAt w g f) {i : Nat} (hi : i < f.length) : w.cell? ⟨g, i, none⟩ = some (U8 (byteAt f i)) := by
  unfold IdAt at h
  unfold World.cell?
  rw [h]
  simp [byteAt, List.getD_eq_getElem?_getD, List.getElem?_eq_getElem hi]
theorem IdAt.thawed (h : IdAt w g f) (o : Nat) : w.frozen? ⟨g, o, none⟩ = false := by
  unfold IdAt at h
  simp [World.frozen?, h]
theorem IdAt.set (h : IdAt w g f) (i : Nat) (x : BitVec 8) : IdAt (w.setCell ⟨g, i, none⟩ (U8 x)) g (f.set i x) := by
  have e := setCell_eq_setRow w g i (f.map U8).toArray 26 (0, 0) (U8 x) h
  unfold IdAt
  rw [e, show (f.map U8).toArray.setIfInBounds i (U8 x) = ((f.set i x).map U8).toArray by simp [List.map_set]]
  exact setRow_heap w g _ _ _ _ h
theorem IdAt.lt (h : IdAt w g f) : g < w.heap.size := heap_lt h
theorem IdAt.touch {F : Nat → Prop} (h : IdAt w g f) (k : Touch F w w') (hn : ¬ F g) : IdAt w' g f := by
  have hl := h.lt
  unfold IdAt at h ⊢
  rw [k.block g hl hn]; exact h
theorem IdAt.below (h : IdAt w g f) (hb : Below w.heap.size w w') : IdAt w' g f := h.touch (F := fun _ => False) (.of_below hb) fun e => e
end
theorem flat_at (f : Words) (i k : Nat) (hi : i < f.length) (hk : k < 4) : byteAt (f.flatMap Sha.bytes4) (4 * i + k) = byteAt (Sha.bytes4 (wordAt f i)) k := by
  induction f generalizing i with
  | nil => simp at hi
  | cons a f ih =>
    rw [List.flatMap_cons]
    have h4 : (Sha.bytes4 a).length = 4 := rfl
    cases i with
    | zero =>
      simp only [byteAt, List.getD_eq_getElem?_getD, Nat.mul_zero, Nat.zero_add, wordAt]
      rw [List.getElem?_append_left (by omega)]
      rfl
    | succ i =>
      have := ih i (by simp at hi; omega)
      simp only [byteAt, List.getD_eq_getElem?_getD, wordAt] at this ⊢
      rw [List.getElem?_append_right (by omega), h4, show 4 * (i + 1) + k - 4 = 4 * i + k by omega, this]
      simp
theorem le4_at (x : BitVec 32) (k : Nat) (hk : k < 4) : byteAt (leB (x.setWidth 64) 4) (3 - k) = byteAt (Sha.bytes4 x) k := by
  rw [← bytes4_big, beB]
  have h1 : (leB (x.setWidth 64) 4).length = 4 := length_leB _ _
  rw [byteAt_lt (l := (leB (x.setWidth 64) 4).reverse) (by rw [List.length_reverse, h1]; exact hk), List.getElem_reverse, byteAt_lt (by omega)]
  simp only [h1]
def RBlockRel (P : List (BitVec 8)) (ap : Option Addr) (cp : Nat) (z : List (BitVec 8)) (B : Nat) (w : World) (s at_ : Value) (wr : World) : Prop :=
  ∃ k : Nat, 64 * k ≤ P.length ∧ at_ = .int .i64 (64 * k : Nat) ∧ OwnsW wr (B + 1) s (Sha.blocks k Sha.begin P).list ∧ Reads wr ap cp P ∧ IdAt wr B z ∧ Below B w wr
def ROutRel (D : List (BitVec 8)) (F : Words) (s : Value) (z : List (BitVec 8)) (gd B : Nat) (w : World) (i : Value) (wr : World) : Prop :=
  ∃ (k : Nat) (f : List (BitVec 8)), k ≤ 8 ∧ i = .int .i64 k ∧ f.length = 32 ∧ IdAt wr gd f ∧ (∀ j, j < 4 * k → byteAt f j = byteAt D j) ∧ OwnsW wr (B + 1) s F ∧ IdAt wr B z ∧ Below B w wr
def RInRel (D X : List (BitVec 8)) (gx : Nat) (F : Words) (s : Value) (z : List (BitVec 8)) (gd B i : Nat) (w : World) (k_ : Value) (wr : World) : Prop :=
  ∃ (k : Nat) (f : List (BitVec 8)), k ≤ 4 ∧ k_ = .int .i64 k ∧ f.length = 32 ∧ IdAt wr gd f ∧ (∀ j, j < 4 * i + k → byteAt f j = byteAt D j) ∧ BytesAt wr gx 0 X ∧ OwnsW wr (B + 1) s F ∧ IdAt wr B z ∧ Below B w wr
set_option maxRecDepth 40000 in
set_option maxHeartbeats 2000000 in
theorem rsum_any (a : Option Addr) (cap : Nat) (l : List (BitVec 8)) (w : World) (hr : Reads w a cap l) (hlm : l.length ≤ 1000000) :
    Calls Tryd.prog 12 #[.slice a l.length cap] w fun e w' => e = .returned (.agg ((Sha.sum l).map U8).toArray) ∧ Below w.heap.size w w' := by
  obtain ⟨z, hz0, hz⟩ := zero_id
  have hzl : z.length = 32 := by rw [hz0]; rfl
  have HZ0 := Lib.hid hz0
  clear hz0
  obtain ⟨B, hB⟩ : ∃ B, w.heap.size = B := ⟨_, rfl⟩
  have hb1 : Below B w (w.alloc (.cells (z.map U8).toArray 26)) := (hB ▸ Below.refl _ _ : Below B w w).alloc (by omega) _
  have i1 : IdAt (w.alloc (.cells (z.map U8).toArray 26)) B z := by rw [← hB]; exact heap_alloc_new w _
  have PD := rpad_any a cap l (w.alloc (.cells (z.map U8).toArray 26)) (hr.keeps (Keeps.alloc w _)) hlm
  have hsum : Sha.sum l = (Sha.blocks ((Sha.pad l).length / 64) Sha.begin (Sha.pad l)).bytes := rfl
  have hp64 : (Sha.pad l).length % 64 = 0 := by
    have hn : Sha.noughts l.length = (119 - l.length % 64) % 64 := rfl
    rw [Sha.pad, Sha.tail]; simp [Sha.be8]; omega
  have hp0 : (Sha.pad l).length ≤ 1000200 := by
    have hn : Sha.noughts l.length = (119 - l.length % 64) % 64 := rfl
    rw [Sha.pad, Sha.tail]; simp [Sha.be8]; omega
  generalize Sha.sum l = D at *
  generalize Sha.pad l = P at *
  have HSUM := Lib.hid hsum
  have HP64 := Lib.hid hp64
  clear hsum hp64
  rw [hB]
  go_enter Tryd.func12, Tryd.ntmps12
  go_wp2_with fail
  generalize w.alloc (.cells (z.map U8).toArray 26) = w1 at *
  refine PD.mono ?_
  rintro e w2 ⟨vp, rfl, hop, hb2⟩
  have hs1 := i1.lt
  have hb12 := hb1.trans (hb2.mono (by omega))
  have i2 := i1.below hb2
  clear PD hr
  obtain ⟨ap, cp, rfl, hpr⟩ := hop.reads
  have s8 : ∀ q : World, B + 1 ≤ q.heap.size → OwnsW (q.alloc (.cells #[.int .u32 1779033703, .int .u32 3144134277, .int .u32 1013904242, .int .u32 2773480762, .int .u32 1359893119, .int .u32 2600822924, .int .u32 528734635, .int .u32 1541459225] 42)) (B + 1) (.slice (some ⟨q.heap.size, 0, none⟩) 8 8) Sha.begin.list :=
    fun q hq => World.ownsRow_lit q (e := 42) (size := 1) #[.int .u32 1779033703, .int .u32 3144134277, .int .u32 1013904242, .int .u32 2773480762, .int .u32 1359893119, .int .u32 2600822924, .int .u32 528734635, .int .u32 1541459225] 8 hq (by unfold maxLen; omega) rfl
  have hs2 := hb2.size
  have s2 := s8 w2 (by omega)
  have hpr2 := hpr.keeps (Keeps.alloc w2 (.cells #[.int .u32 1779033703, .int .u32 3144134277, .int .u32 1013904242, .int .u32 2773480762, .int .u32 1359893119, .int .u32 2600822924, .int .u32 528734635, .int .u32 1541459225] 42))
  have i3 := i2.below (w' := w2.alloc (.cells #[.int .u32 1779033703, .int .u32 3144134277, .int .u32 1013904242, .int .u32 2773480762, .int .u32 1359893119, .int .u32 2600822924, .int .u32 528734635, .int .u32 1541459225] 42)) ((Below.refl _ _).alloc (Nat.le_refl _) _)
  have hb3 := hb12.alloc (by omega) (.cells #[.int .u32 1779033703, .int .u32 3144134277, .int .u32 1013904242, .int .u32 2773480762, .int .u32 1359893119, .int .u32 2600822924, .int .u32 528734635, .int .u32 1541459225] 42)
  clear s8 hop hpr i2 hb12
  have HB1 := Lib.hid hb1
  clear hb1
  go_wp2_with fail
  generalize w2.alloc _ = w3 at *
  go_loopw [4, 5] (fun s at_ wr => RBlockRel P ap cp z B w s at_ wr) (fun _ at_ _ => P.length - (intOf at_).toNat)
  case atStart => exact ⟨0, by omega, rfl, s2, hpr2, i3, hb3⟩
  case round =>
    clear s2 hpr2 i3 hb3
    obtain ⟨k, hk, rfl, hos, hpr, hi, hbw⟩ := hrel
    by_cases hlt : 64 * k + 64 ≤ P.length
    · have hne : P ≠ [] := fun e => by rw [e] at hlt; simp at hlt
      obtain ⟨b, off, rfl, hby⟩ := hpr.bytes.resolve_left hne
      have hfit := hpr.fits
      have hroom := hpr.room
      have hs := fun w => run_slice_both (P := Tryd.prog) byteSlice w (some ⟨b, off, none⟩) P.length cp .i64 .i64 (64 * k) (64 * k + 64) ((64 * k : Nat) : Int) (((64 * k : Nat) : Int) + 64) rfl (by omega) (by omega) (by omega)
      have hda : dropAddr (some ⟨b, off, none⟩) cp (64 * k) = some ⟨b, off + 64 * k, none⟩ := by
        unfold dropAddr
        rw [if_neg (by omega), Option.map_some, Addr.add_lit]
      rw [hda, show 64 * k + 64 - 64 * k = 64 by omega] at hs
      have hq64 : ((P.drop (64 * k)).take 64).length = 64 := by rw [List.length_take, List.length_drop]; omega
      have hqb : BytesAt wr b (off + 64 * k) ((P.drop (64 * k)).take 64) := (hby.drop (64 * k)).take 64
      have hsucc := Sha.blocks_succ k Sha.begin P
      generalize (P.drop (64 * k)).take 64 = q at *
      have SP := spread_any b (off + 64 * k) (cp - 64 * k) q wr hq64 (by omega) (by omega) hqb
      generalize Sha.blocks k Sha.begin P = st at *
      have htk : Sha.take st q = st.plus (Sha.rounds st (Sha.sched q) 64) := rfl
      have hSl := Sha.length_sched q
      generalize Sha.sched q = S at *
      rw [htk] at hsucc
      obtain ⟨gs, cs, rfl, hc1, hc2, hBg, hgl, hcell⟩ := OwnsW.form hos (fun e => by cases e)
      rw [show st.list.length = 8 from rfl] at *
      have hBs := hbw.size
      have HSU := Lib.hid hsucc
      have HIN := Lib.hid hi
      have HBW := Lib.hid hbw
      have HPR := Lib.hid hpr
      have HSL := Lib.hid hSl
      clear hsucc hi hbw hpr hby hqb hda htk hos hSl
      generalize hK : 64 * k = K at *
      have HKK := Lib.hid hK
      clear hK
      go_wp2_with fail
      refine SP.mono ?_
      rintro e w5 ⟨v5, rfl, ho5, hb5⟩
      have hSl := HSL.out
      obtain ⟨gw, cw, rfl, hw1, hw2, _, _, hcellw⟩ := OwnsW.form ho5 (fun e => by rw [e] at hSl; cases hSl)
      rw [hSl] at hw1 hcellw ⊢
      have RD := rounds_any st S gs cs gw cw w5 hSl (fun j hj => Keeps.below hb5 _ _ (hcell j hj)) hcellw
      generalize hst' : st.plus (Sha.rounds st S 64) = st' at *
      have HST := Lib.hid hst'
      have HB5 := Lib.hid hb5
      clear hst' SP hcell hcellw ho5 hb5 hSl
      go_wp2_with fail
      refine RD.mono ?_
      rintro e w6 ⟨v6, rfl, ho6, hb6⟩
      have hb56 := HB5.out.trans (hb6.mono HB5.out.size)
      have HO6 := Lib.hid ho6
      have HB6 := Lib.hid hb56
      have HS5 := Lib.hid HB5.out.size
      clear ho6 hb56 hb6 RD
      go_wp2
      go_roundw
      case rel =>
        have hk2 := HKK.out
        have h5 := HS5.out
        refine ⟨k + 1, by omega, by simp only [Value.int.injEq, true_and]; omega, ?_, HPR.out.keeps (Keeps.below HB6.out), HIN.out.below HB6.out, HBW.out.trans (HB6.out.mono (by omega))⟩
        rw [HSU.out]
        exact row_mono HO6.out fun q hq => by have := row_lt HO6.out hq; omega
      case measure =>
        have hk2 := HKK.out
        simp [intOf]; omega
    · have hkP : 64 * k = P.length := by have := HP64.out; omega
      have hdiv : P.length / 64 = k := by omega
      have hsum := HSUM.out
      rw [hdiv] at hsum
      generalize Sha.blocks k Sha.begin P = st at *
      have hD : D = st.list.flatMap Sha.bytes4 := hsum
      have hFl : st.list.length = 8 := rfl
      generalize st.list = F at *
      obtain ⟨gs, cs, rfl, hc1, hc2, hBg, hgl, hcell⟩ := OwnsW.form hos (fun e => by rw [e] at hFl; cases hFl)
      rw [hkP]
      have HD := Lib.hid hD
      clear hsum hD hdiv hkP hlt hpr
      have hB1s := HB1.out.size
      have hBB := hbw.size
      have d0 : IdAt (wr.alloc (.cells (z.map U8).toArray 26)) wr.heap.size z := heap_alloc_new wr _
      have o1 := OwnsW.below hos (w' := wr.alloc (.cells (z.map U8).toArray 26)) ((Below.refl _ _).alloc (Nat.le_refl _) _)
      have i4 := hi.below (w' := wr.alloc (.cells (z.map U8).toArray 26)) ((Below.refl _ _).alloc (Nat.le_refl _) _)
      have hb5 := hbw.alloc (by omega) (.cells (z.map U8).toArray 26)
      have hil := hi.lt
      generalize hgde : wr.heap.size = gd at *
      clear hos hi hbw
      rw [hFl] at o1 hcell hc1 ⊢
      have HFL := Lib.hid hFl
      clear hFl hcell
      go_wp2
      clear hgde
      generalize wr.alloc (.cells (z.map U8).toArray 26) = w7 at *
      go_loopw [7] (fun i wr => ROutRel D F (.slice (some ⟨gs, 0, none⟩) 8 cs) z gd B w i wr) (fun i _ => 8 - (intOf i).toNat)
      case atStart => exact ⟨0, z, by omega, rfl, hzl, d0, fun j h => by omega, o1, i4, hb5⟩
      case round =>
        clear d0 o1 i4 hb5
        obtain ⟨i, f, hi8, rfl, hfl, hd, hj, ho, hi, hbw⟩ := hrel
        by_cases hlt : i < 8
        · obtain ⟨gs', cs', e1, _, _, _, hgs, hcell⟩ := OwnsW.form ho (fun e => by have := HFL.out; rw [e] at this; cases this)
          injection e1 with e1 e2 e3
          injection e1 with e1
          injection e1 with e1 _ _
          subst e1 e3
          have hc := hcell i (by have := HFL.out; omega)
          have hfa := fun k (hk : k < 4) => flat_at F i k (by have := HFL.out; omega) hk
          rw [← HD.out] at hfa
          generalize wordAt F i = x at *
          have PU := rput_any (x.setWidth 64) 4 (by decide) (by decide) wr
          have hle := fun k (hk : k < 4) => le4_at x k hk
          have hxl : (leB (x.setWidth 64) 4).length = 4 := length_leB _ _
          generalize leB (x.setWidth 64) 4 = X at *
          have hval : ∀ k, k < 4 → byteAt X (3 - k) = byteAt D (4 * i + k) := fun k hk => by rw [hle k hk, hfa k hk]
          have HV := Lib.hid hval
          have HXL := Lib.hid hxl
          have HD0 := Lib.hid hd
          have HJ := Lib.hid hj
          have HO := Lib.hid ho
          have HI := Lib.hid hi
          have HBW := Lib.hid hbw
          clear hval hle hfa hcell hd hj ho hi hbw hxl e2
          go_wp2_with fail
          refine PU.mono ?_
          rintro e w8 ⟨v8, rfl, ho8, hb8⟩
          obtain ⟨gx, cx, rfl, hrowx, hgx1, hgx2⟩ := ho8.row (by have := HXL.out; omega)
          have hxl := HXL.out
          rw [hxl] at hrowx ⊢
          have bx : BytesAt w8 gx 0 X := fun q hq => by
            have := hrowx.cell q (by omega)
            rw [Nat.zero_add]; exact this
          have d8 := HD0.out.below hb8
          have o8 := OwnsW.below HO.out hb8
          have i8 := HI.out.below hb8
          have b8 := HBW.out.trans (hb8.mono (by have := HBW.out.size; omega))
          have hgdx : gx ≠ gd := by have := HD0.out.lt; omega
          clear PU hc hrowx ho8 hb8 hxl
          go_wp2
          go_loopw [9] (fun k_ wr => RInRel D X gx F (.slice (some ⟨gs, 0, none⟩) 8 cs) z gd B i w k_ wr) (fun k_ _ => 4 - (intOf k_).toNat)
          case atStart => exact ⟨0, f, by omega, rfl, hfl, d8, fun j h => HJ.out j (by omega), bx, o8, i8, b8⟩
          case round =>
            clear d8 bx o8 i8 b8
            obtain ⟨k, f2, hk4, rfl, hfl2, hd, hj, hbx, ho, hi, hbw⟩ := hrel
            by_cases hlt4 : k < 4
            · obtain ⟨m, hm⟩ : ∃ m : Nat, (3 : Int) - k = m := ⟨3 - k, by omega⟩
              obtain ⟨r, hr⟩ : ∃ r : Nat, 4 * (i : Int) + k = r := ⟨4 * i + k, by omega⟩
              have hmk : m = 3 - k := by omega
              have hrk : r = 4 * i + k := by omega
              have hxc : wr.cell? ⟨gx, m, none⟩ = some (U8 (byteAt X m)) := by
                have := hbx m (by have := HXL.out; omega)
                rw [Nat.zero_add] at this; exact this
              have hval : byteAt X m = byteAt D r := by rw [hmk, hrk]; exact HV.out k hlt4
              rw [hval] at hxc
              have hth := hd.thawed r
              have hcd := hd.cell (i := r) (by omega)
              have hr32 : r < 32 := by omega
              have hm4 : m < 4 := by omega
              have HD1 := Lib.hid hd
              have HJ1 := Lib.hid hj
              have HBX := Lib.hid hbx
              have HO1 := Lib.hid ho
              have HI1 := Lib.hid hi
              have HBW1 := Lib.hid hbw
              have HRK := Lib.hid hrk
              clear hd hj hbx ho hi hbw hmk hrk hval
              generalize hy : byteAt D r = y at *
              have HY := Lib.hid hy
              clear hy
              go_wp2
              go_roundw
              case rel =>
                have hrk := HRK.out
                have t : Touch (fun q => q = gd) wr (wr.setCell ⟨gd, r, none⟩ (U8 y)) := Touch.set wr gd r _ rfl
                refine ⟨k + 1, f2.set r y, by omega, by go_num, by simp [hfl2], HD1.out.set r y, fun j hj => ?_, t.bytes HBX.out hgdx, HO1.out.touch t (fun q hq e => ?_), HI1.out.touch t (show ¬ (B = gd) by omega), HBW1.out.trans (t.below (fun q e => by have e2 : q = gd := e; omega) (by have := HBW1.out.size; omega))⟩
                · rw [byteAt_set _ _ _ _ (by omega)]
                  split
                  · rename_i e; subst e; exact HY.out.symm
                  · exact HJ1.out j (by omega)
                · injection hq with hq
                  have e2 : q = gd := e
                  have e3 : gs = q := hq
                  omega
              case measure => simp [intOf]; omega
            · obtain rfl : k = 4 := by omega
              have HD1 := Lib.hid hd
              have HJ1 := Lib.hid hj
              have HO1 := Lib.hid ho
              have HI1 := Lib.hid hi
              have HBW1 := Lib.hid hbw
              clear hd hj hbx ho hi hbw
              rw [show (((4 : Nat) : Int)) = 4 from rfl]
              go_wp2
              go_roundw
              case rel => exact ⟨i + 1, f2, by omega, by go_num, hfl2, HD1.out, fun j h => HJ1.out j (by omega), HO1.out, HI1.out, HBW1.out⟩
              case measure => simp [intOf]; omega
        · obtain rfl : i = 8 := by omega
          have hDl : D.length = 32 := by rw [HD.out, length_flat, HFL.out]
          have e0 : f = D := list_ext (by rw [hfl, hDl]) fun j h => hj j (by omega)
          subst e0
          have hiv := id_size f hDl
          have hov := id_one f
          have hzf : (z.map U8).toArray.size = (f.map U8).toArray.size := by rw [List.size_toArray, List.size_toArray, List.length_map, List.length_map, hDl, hzl]
          have hr2 : (wr.setRow B (f.map U8).toArray).heap[B]? = some (.cells (f.map U8).toArray 26 (0, 0)) := setRow_heap wr B _ _ 26 _ hi
          have tR : Touch (fun q => q = B) wr (wr.setRow B (f.map U8).toArray) := Touch.setRow wr _ _ rfl
          have hd2 : wr.heap[gd]? = some (.cells (f.map U8).toArray 26 (0, 0)) := hd
          have hi2 : wr.heap[B]? = some (.cells (z.map U8).toArray 26 (0, 0)) := hi
          have HB := Lib.hid hbw
          clear hbw hd hi hj ho
          generalize hE : (f.map U8).toArray = E at *
          have HE := Lib.hid hE
          clear hE
          go_wp2_with (first | (refine wpList_load_row rfl 26 _ rfl gd rfl _ E _ _ hd2 Tryd.underlying26 rfl hiv ?_) | (refine wpList_store_row rfl 26 _ _ rfl B E rfl rfl _ (z.map U8).toArray hi2 hiv hzf hov ?_))
          refine bodyPost_ret (results_cell_row rfl _ _ B _ E _ _ rfl hr2 Tryd.underlying26 rfl hiv) rfl ?_
          exact ⟨by rw [HE.out], HB.out.trans (tR.below (fun q e => by have e2 : q = B := e; omega) (by have := HB.out.size; omega))⟩
end Go.Proofs.YtnodcjjmodbjiaaDoor
