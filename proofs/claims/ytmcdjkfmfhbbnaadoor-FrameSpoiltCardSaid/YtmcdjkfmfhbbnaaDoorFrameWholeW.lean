/- The law's walk: FrameWhole. -/
import Derived.Test.YtmcdjkfmfhbbnaaDoorSeg
import Derived.Test.YtmcdjkfmfhbbnaaDoorFrameScansW
namespace Go.Proofs.YtmcdjkfmfhbbnaaDoor
open Go Go.RowKit

def GoodI (I : List Item) (k : Nat) : List Item := (I.take k).filter fun it => decide (chk it.ent = 0)
theorem goodI_yes {I : List Item} {k : Nat} (h : k < I.length) (hc : chk (itAt I k).ent = 0) : GoodI I (k + 1) = GoodI I k ++ [itAt I k] := by
  unfold GoodI
  rw [items_snoc I k h, List.filter_append]
  simp [hc]
theorem goodI_no {I : List Item} {k : Nat} (h : k < I.length) (hc : chk (itAt I k).ent ≠ 0) : GoodI I (k + 1) = GoodI I k := by
  unfold GoodI
  rw [items_snoc I k h, List.filter_append]
  simp [hc]
theorem goodI_len (I : List Item) (k : Nat) : (GoodI I k).length ≤ k := by
  unfold GoodI
  exact Nat.le_trans (List.length_filter_le _ _) (by rw [List.length_take]; omega)
theorem goodI_mem {I : List Item} {k : Nat} {it : Item} (h : it ∈ GoodI I k) : it ∈ I ∧ chk it.ent = 0 := by
  unfold GoodI at h
  obtain ⟨h1, h2⟩ := List.mem_filter.1 h
  exact ⟨List.mem_of_mem_take h1, of_decide_eq_true h2⟩
def PackRel (w1 : World) (I : List Item) (vb vg i : Value) (wr : World) : Prop :=
  ∃ k : Nat, i = .int .i64 k ∧ k ≤ I.length ∧ (packs ((GoodI I k).map Item.ent)).length ≤ k * 16425 ∧ SegB w1.heap.size vb (magicL ++ packs ((GoodI I k).map Item.ent)) wr ∧ OwnsIts wr w1.heap.size 26 34 vg (GoodI I k) ∧ (∀ g, vb.ownBlock = some g → vg.ownBlock ≠ some g) ∧ Below w1.heap.size w1 wr
theorem start_next {L : List Ent} {j : Nat} (h : j < L.length) (hg : ∀ e ∈ L, Good e) : startAt L (j + 1) = startAt L j + size L[j] := by
  unfold startAt
  obtain ⟨hk, hc⟩ := hg L[j] (List.getElem_mem h)
  rw [List.take_succ_eq_append_getElem h, packs_snoc, List.length_append, length_encB hk hc]
  omega
def CheckRel (L : List Ent) (w2 : World) (at_ i : Value) (wr : World) : Prop :=
  ∃ j : Nat, i = .int .i64 j ∧ j ≤ L.length ∧ at_ = .int .i64 (startAt L j) ∧ startAt L j ≤ 8 + j * 16425 ∧ Below w2.heap.size w2 wr
set_option maxHeartbeats 2000000 in
set_option maxRecDepth 40000 in
theorem frameWhole_walk (a : Option Addr) (cap : Nat) (its : List Item) (w : World) (hh : Half w) (hi : Its 34 w a cap its) (_hx : ∀ it ∈ its, it.x = []) :
    Calls Tryd.prog 8 #[.slice a its.length cap] w fun e w' => e = .returned (.bool true) ∧ Below w.heap.size w w' := by
  have FW := few_any a cap its 12 200 w (by decide) (by decide) hi
  have hc := fun (w : World) (cs : Array Value) (E : TypeId) (len cap : Nat) => conv_lit (P := Tryd.prog) w 24 5 cs E len cap (by kernel_rfl) (by kernel_rfl)
  have HH := Lib.hid hh
  clear hh hi
  go_enter Tryd.func8, Tryd.ntmps8
  go_wp2_with fail
  refine FW.mono ?_
  rintro en w1 ⟨v1, I, rfl, ho1, hm1, hf1, hb1⟩
  have hIl : I.length ≤ 12 := by
    have := congrArg List.length hm1
    simp only [List.length_map, List.length_take] at this
    omega
  have hID : ∀ it ∈ I, it.ent.data.length ≤ 200 := by
    intro it hit
    have : it.ent ∈ I.map Item.ent := List.mem_map_of_mem hit
    rw [hm1] at this
    obtain ⟨x, _, e⟩ := List.mem_map.1 this
    rw [← e]
    show (x.ent.data.take 200).length ≤ 200
    rw [List.length_take]; omega
  obtain ⟨a1, c1, rfl, hI, hIo⟩ := ho1.form
  have HI := Lib.hid hI
  have HID := Lib.hid hID
  have HIK := Lib.hid ho1.key
  have HIX := Lib.hid (fun (it : Item) (h : it ∈ I) => (hf1 it h).1)
  have HIA := Lib.hid (fun (it : Item) (h : it ∈ I) (ad : Addr) (e : it.a = some ad) => (ho1.apart it h ad e).2)
  have HB1 := Lib.hid hb1
  clear FW ho1 hm1 hf1 hb1 hI hIo hID
  have hb0 := fun (o : Obj) => (Below.refl w1.heap.size w1).alloc (Nat.le_refl _) o
  have HB0 := Lib.hid hb0
  clear hb0
  go_wp2_with fail
  go_loopw [3, 4, 5] (fun vb vg i wr => PackRel w1 I vb vg i wr) (fun _ _ i _ => I.length - (intOf i).toNat)
  case atStart => exact ⟨0, rfl, Nat.zero_le _, by simp [GoodI, packs], .inl ⟨w1.heap.size, rfl, Nat.le_refl _, by simp, reads_lit w1 _ _ _ magicL rfl (by decide)⟩, ownsIts_nil _ _ _ _, fun g _ => by simp [Value.ownBlock], HB0.out _⟩
  case round =>
    clear hc
    obtain ⟨k, rfl, hk, hpl, hseg, hown, hap, hbr⟩ := hrel
    by_cases hlt : k < I.length
    · obtain ⟨b, off, rfl, hrows⟩ := HI.out.rows.resolve_left (fun e => by rw [e] at hlt; simp at hlt)
      have hmem : itAt I k ∈ I := by rw [itAt_lt hlt]; exact List.getElem_mem hlt
      have hit := hrows k hlt
      have hkey := hit.key
      have hdat := hit.data
      have hrng := hit.range
      have hx := HIX.out _ hmem
      have hal := HIA.out _ hmem
      have hdl := HID.out _ hmem
      have hgy := fun (h : chk (itAt I k).ent = 0) => goodI_yes hlt h
      have hgn := fun (h : chk (itAt I k).ent ≠ 0) => goodI_no hlt h
      have hgl := goodI_len I k
      clear hit hrows
      generalize itAt I k = it at *
      have EN := encode_any it.ent it.a it.cap hkey (by omega) wr (HH.out.keeps (Keeps.below (HB1.out.trans (hbr.mono HB1.out.size)))) (hdat.keeps (Keeps.below hbr))
      unfold EncPost at EN
      have hlC := length_entC (e := it.ent) (dv := it.dv) hkey
      have hiC : (Tryd.prog.info? 26).map (·.size) = some (entC it.ent it.dv).length := by rw [hlC]; kernel_rfl
      have HO1 := Lib.hid (one_entC it.ent it.a it.ent.data.length it.cap)
      have hCx : it.cells = entC it.ent it.dv := by unfold Item.cells; rw [hx, List.append_nil]
      have hdv : it.dv = .slice it.a it.ent.data.length it.cap := rfl
      rw [← hdv] at EN HO1
      have HDT := Lib.hid (fun (W : World) (h : Below w1.heap.size w1 W) => hdat.keeps (Keeps.below h))
      have RG := fun (W : World) (h : Below w1.heap.size w1 W) => (show W.rangeAt b (off + k * 34) (entC it.ent it.dv) from fun j v hv => Keeps.below h _ _ (hrng j v hv))
      have HGL := Lib.hid hgl
      have HAL := Lib.hid hal
      have HKEY := Lib.hid hkey
      have HLC := Lib.hid hlC
      have HPL := Lib.hid hpl
      have HMEM := Lib.hid hmem
      have hrngr := RG wr hbr
      obtain ⟨C, hC⟩ : ∃ C, entC it.ent it.dv = C := ⟨_, rfl⟩
      rw [hC] at hCx hiC EN HO1 HLC hrngr
      simp only [hC] at RG
      have HRG := Lib.hid RG
      have HCX := Lib.hid hCx
      have HSEG := Lib.hid hseg
      have HOWN := Lib.hid hown
      have HAP := Lib.hid hap
      have HBR := Lib.hid hbr
      clear hx hal hkey hlC hdat hrng hpl hgl hC hdv hCx RG hseg hown hap hbr hmem
      by_cases hck : chk it.ent = 0
      · have hg := hgy hck
        have HG := Lib.hid hg
        have HCK := Lib.hid hck
        rw [hck] at EN
        have hBe : enc it.ent = encB it.ent := by unfold enc; rw [if_pos hck]
        have hBl : (encB it.ent).length = size it.ent := length_encB HKEY.out hck
        have hB9 := (parts it.ent HKEY.out hck).size9
        have hBM := size_le it.ent
        rw [hBe] at EN
        rw [← hBl] at hB9 hBM
        obtain ⟨EB, hEB⟩ : ∃ EB, encB it.ent = EB := ⟨_, rfl⟩
        rw [hEB] at EN hB9 hBM
        have HEB := Lib.hid hEB
        clear hg hgy hgn hck hBe hBl hEB
        go_wp2_with (with_reducible refine at_load 26 ?_; go_must (refine wpList_load_mid rfl 26 _ rfl b (off + k * 34) rfl C _ hrngr Tryd.underlying26 rfl hiC ?_))
        refine EN.mono ?_
        rintro en w5 ⟨v5, rfl, o5, hb5⟩
        obtain ⟨a5, c5, rfl, R5⟩ := o5.reads
        have seg5 := HSEG.out.touch (F := fun _ => False) (.of_below hb5) (fun _ _ h => h)
        have own5 := HOWN.out.below hb5
        have HB5 := Lib.hid (HBR.out.trans (hb5.mono HBR.out.size))
        have HLT5 := Lib.hid (fun (q : Nat) (e : Value.ownBlock u4 = some q) => (row_lt own5.row e).2)
        clear o5 hb5 EN hrngr
        go_wp2_with (with_reducible refine hold_append ?_)
        intro _
        have hbs5 := HB5.out.size
        have hplen : (magicL ++ packs ((GoodI I k).map Item.ent)).length + EB.length ≤ 140737488355328 := by
          have h8 : magicL.length = 8 := rfl
          have := HPL.out
          rw [List.length_append, h8]
          omega
        go_wp2_with (at_builtin; go_must (refine wpList_append_seg byteSlice rfl _ _ rfl w1.heap.size _ _ rfl seg5 a5 c5 EB rfl R5 (by omega) hplen hbs5 ?_))
        intro v6 w6 seg6 hg6 hp6
        have t6 : Touch (fun q => Value.ownBlock u3 = some q) w5 w6 := .of_grown hg6 fun k hk => hk
        have own6 := own5.touch t6 (fun q e f => HAP.out q f e) (fun x hx ad e f => by
          have q1 := HIA.out x (goodI_mem hx).1 ad e
          have q2 := (HSEG.out.lt f).1
          omega)
        have hb6 := HB5.out.trans (t6.below (fun q e => (HSEG.out.lt e).1) hbs5)
        have HAP6 : Hid (∀ g, v6.ownBlock = some g → Value.ownBlock u4 ≠ some g) := Lib.hid (by
          intro g h f
          rcases hp6 with e | e
          · exact HAP.out g (e ▸ h) f
          · have q1 := e g h
            have q2 := HLT5.out g f
            omega)
        have hrng6 := HRG.out w6 hb6
        have HB6 := Lib.hid hb6
        have HSEG6 := Lib.hid seg6
        have HOWN6 := Lib.hid own6
        clear t6 hp6 hg6 hb6 own6 seg6 own5 seg5 R5 hplen hbs5 HSEG HOWN HAP HLT5 HBR
        go_wp2_with (first
          | (with_reducible refine at_load 26 ?_; go_must (refine wpList_load_mid rfl 26 _ rfl b (off + k * 34) rfl C _ hrng6 Tryd.underlying26 rfl hiC ?_))
          | (with_reducible refine at_lit 27 ?_; go_must (refine wpList_item_lit Tryd.underlying27 entry_info ent_zsize rfl _ rfl C rfl HLC.out (by decide) (by decide) ?_))
          | (with_reducible refine hold_append ?_))
        intro _
        have hrow := rangeAt_row (heap_alloc_new w6 (.cells C.toArray 26))
        rw [List.toList_toArray] at hrow
        have hba : Below w6.heap.size w6 (w6.alloc (.cells C.toArray 26)) := (Below.refl _ _).alloc (Nat.le_refl _) _
        have hb7 := HB6.out.trans (hba.mono HB6.out.size)
        have HO7 := HOWN6.out.below hba
        have HSEG7 := Lib.hid (HSEG6.out.touch (F := fun _ => False) (.of_below hba) (fun _ _ h => h))
        have d7 := HDT.out _ hb7
        have hs67 := hba.size
        have hbl7 := hb7.size
        clear hrng6 hba
        generalize w6.alloc (.cells C.toArray 26) = w7 at *
        obtain ⟨g6, hg6⟩ : ∃ g, w6.heap.size = g := ⟨_, rfl⟩
        rw [hg6] at hrow ⊢
        have HS67 := Lib.hid hs67
        have HG6 := Lib.hid hg6
        clear hg6 hs67
        have hgl := HGL.out
        go_wp2_with (at_builtin; go_must (refine wpList_append_item Tryd.underlying27 entry_info ent_zsize (by decide) rfl _ _ rfl w1.heap.size _ (GoodI I k) rfl HO7 it ⟨g6, 0, none⟩ 1 rfl ?c1 ?c2 ?c3 ?c4 d7 ?c6 (by omega) (by omega) hbl7 ?_))
        case c1 => intro j u hu; rw [HCX.out] at hu; rw [Addr.add_lit]; exact hrow j u hu
        case c2 => rw [HCX.out]; exact HO1.out
        case c3 => rw [HCX.out]; exact HLC.out
        case c4 => exact HKEY.out
        case c6 =>
          intro p e
          have q := HAL.out p e
          refine ⟨fun f => ?_, by omega⟩
          have := (row_lt HO7.row f).1
          omega
        intro v8 w8 ho8 hg8 hp8
        have t8 : Touch (fun q => Value.ownBlock u4 = some q) w7 w8 := .of_grown hg8 fun k hk => hk
        have seg8 := HSEG7.out.touch t8 (fun q e f => HAP6.out q e f)
        have hb8 := hb7.trans (t8.below (fun q e => (row_lt HO7.row e).1) hbl7)
        have HAP8 : Hid (∀ g, v6.ownBlock = some g → v8.ownBlock ≠ some g) := Lib.hid (by
          intro g h f
          rcases hp8 with e | e
          · exact HAP6.out g h (e ▸ f)
          · rw [e] at f
            injection f with f
            have q1 := (HSEG7.out.lt h).2
            omega)
        have HSEG8 := Lib.hid seg8
        have HO8 := Lib.hid ho8
        have HB8 := Lib.hid hb8
        clear t8 hp8 hg8 ho8 seg8 hb8 HO7 d7 hrow hb7 hbl7 hgl
        go_wp2_with fail
        go_roundw
        case rel =>
          have e1 : magicL ++ packs ((GoodI I (k + 1)).map Item.ent) = (magicL ++ packs ((GoodI I k).map Item.ent)) ++ EB := by
            rw [HG.out, List.map_append, List.map_singleton, packs_snoc, HEB.out, List.append_assoc]
          refine ⟨k + 1, by go_num, by omega, ?_, by rw [e1]; exact HSEG8.out, by rw [HG.out]; exact HO8.out, HAP8.out, HB8.out⟩
          have q := HPL.out
          rw [HG.out, List.map_append, List.map_singleton, packs_snoc, List.length_append, HEB.out]
          omega
        case measure => simp [intOf]; omega
      · have hg := hgn hck
        have HG := Lib.hid hg
        have hck1 : (chk it.ent != 0) = true := by simpa using hck
        have hck2 : (chk it.ent == 0) = false := by simpa using hck
        generalize chk it.ent = ck at *
        generalize enc it.ent = EB at *
        clear hg hgy hgn hck
        go_wp2_with (with_reducible refine at_load 26 ?_; go_must (refine wpList_load_mid rfl 26 _ rfl b (off + k * 34) rfl C _ hrngr Tryd.underlying26 rfl hiC ?_))
        refine EN.mono ?_
        rintro en w5 ⟨v5, rfl, o5, hb5⟩
        obtain ⟨a5, c5, rfl, R5⟩ := o5.reads
        have seg5 := HSEG.out.touch (F := fun _ => False) (.of_below hb5) (fun _ _ h => h)
        have own5 := HOWN.out.below hb5
        have HB5 := Lib.hid (HBR.out.trans (hb5.mono HBR.out.size))
        have HSEG5 := Lib.hid seg5
        have HOWN5 := Lib.hid own5
        clear o5 hb5 EN hrngr seg5 own5 R5
        go_wp2_with fail
        go_roundw
        case rel =>
          have q := HPL.out
          exact ⟨k + 1, by go_num, by omega, by rw [HG.out]; omega, by rw [HG.out]; exact HSEG5.out, by rw [HG.out]; exact HOWN5.out, HAP.out, HB5.out⟩
        case measure => simp [intOf]; omega
    · obtain rfl : k = I.length := by omega
      clear hlt hk
      obtain ⟨L, hL⟩ : ∃ L, (GoodI I I.length).map Item.ent = L := ⟨_, rfl⟩
      have hgood : ∀ e ∈ L, Good e := by
        intro e he
        rw [← hL] at he
        obtain ⟨x, hx, rfl⟩ := List.mem_map.1 he
        exact ⟨HIK.out x (goodI_mem hx).1, (goodI_mem hx).2⟩
      have hdl : ∀ e ∈ L, e.data.length ≤ 200 := by
        intro e he
        rw [← hL] at he
        obtain ⟨x, hx, rfl⟩ := List.mem_map.1 he
        exact HID.out x (goodI_mem hx).1
      rw [hL] at hpl hseg
      obtain ⟨ab, cb, rfl, RB⟩ := hseg.reads
      obtain ⟨ag, cg, rfl, hG, _⟩ := hown.form
      have hLN : (GoodI I I.length).length = L.length := by rw [← hL, List.length_map]
      have hgl := goodI_len I I.length
      have hent : ∀ j, j < L.length → (itAt (GoodI I I.length) j).ent = L.getD j zeroEnt := by
        intro j hj
        rw [itAt_lt (by omega), List.getD_eq_getElem?_getD, List.getElem?_eq_getElem hj]
        simp only [← hL, List.getElem_map, Option.getD_some]
      have hB1 := HB1.out.trans (hbr.mono HB1.out.size)
      have hbl : (magicL ++ packs L).length ≤ 1000000 := by
        have h8 : magicL.length = 8 := rfl
        rw [List.length_append, h8]
        omega
      have SC := scan_any ab cb (magicL ++ packs L) wr (HH.out.keeps (Keeps.below hB1)) RB hbl
      unfold ScanTop at SC
      rw [scanT_packs L hgood] at SC
      simp only at SC
      have hpl8 := places_length L 8
      have HB2 := Lib.hid hB1
      have HENT := Lib.hid hent
      have HGOOD := Lib.hid hgood
      have HDL := Lib.hid hdl
      have HHG := Lib.hid hG
      rw [hLN]
      have HLN := Lib.hid hLN
      have HPL8 := Lib.hid hpl8
      have hln : L.length ≤ 12 := by omega
      clear hpl hseg hown hap hbr hL hG RB hgl hLN hent hB1 hgood hdl hpl8
      obtain ⟨B, hB⟩ : ∃ B, magicL ++ packs L = B := ⟨_, rfl⟩
      rw [hB] at SC hbl ⊢
      clear hB
      have hnB : ((B.length : Int) != (B.length : Int)) = false := bne_self_eq_false _
      have hnL : ((L.length : Int) != (L.length : Int)) = false := bne_self_eq_false _
      go_wp2_with fail
      refine SC.mono ?_
      rintro en w2 ⟨vf, F, rfl, hF⟩
      obtain ⟨af, cf, rfl, IF, MF, hb2⟩ := hF.seen
      rw [HPL8.out]
      have HHF := Lib.hid IF
      have HMF := Lib.hid MF
      have HHG2 := Lib.hid (HHG.out.keeps (Keeps.below hb2))
      have HB3 := Lib.hid (HB2.out.trans (hb2.mono HB2.out.size))
      clear SC hF IF MF hb2 HHG HB2
      go_wp2_with fail
      go_loopw [11, 12] (fun at_ i wr => CheckRel L w2 at_ i wr) (fun _ i _ => L.length - (intOf i).toNat)
      case atStart => exact ⟨0, rfl, Nat.zero_le _, rfl, by simp [startAt, packs], Below.refl _ _⟩
      case round =>
        obtain ⟨j, rfl, hj, rfl, hst, hbr⟩ := hrel
        by_cases hlt : j < L.length
        · have hlti : (j : Int) < (L.length : Int) := by omega
          obtain ⟨fb, fo, rfl, frows⟩ := HHF.out.rows.resolve_left (fun e => by have h := HMF.out.length; rw [e, HPL8.out] at h; simp at h; omega)
          obtain ⟨gb, gf, rfl, grows⟩ := HHG2.out.rows.resolve_left (fun e => by have h := HLN.out; rw [e] at h; simp at h; omega)
          have hjp : j < (places 8 L).length := by rw [HPL8.out]; exact hlt
          obtain ⟨enF, xF⟩ := HMF.out.at j hjp
          rw [places_at L 8 j hlt HGOOD.out] at enF xF
          have itF := frows j (by rw [HMF.out.length]; exact hjp)
          have itG := grows j (by rw [HLN.out]; exact hlt)
          have enG := HENT.out j hlt
          rw [List.getD_eq_getElem?_getD, List.getElem?_eq_getElem hlt, Option.getD_some] at enG
          have hnx := start_next hlt HGOOD.out
          have hgd := HGOOD.out L[j] (List.getElem_mem hlt)
          have hdlj := HDL.out L[j] (List.getElem_mem hlt)
          have hszM := size_le L[j]
          have p34 : w2.cell? ⟨fb, fo + j * 36 + 34, none⟩ = some (.int .i64 (startAt L j)) := (itF.nums xF).1
          have p35 : w2.cell? ⟨fb, fo + j * 36 + 35, none⟩ = some (.int .i64 (size L[j])) := (itF.nums xF).2
          have d1 := itF.data
          have d2 := itG.data
          have g1 := itF.range
          have g2 := itG.range
          unfold Item.dv at g1 g2
          rw [enF] at d1 g1
          rw [enG] at d2 g2
          simp only at d1 g1
          have hkE := hgd.1
          generalize L[j] = E at *
          have SE := sameEntry_yes E (itAt F j).a (itAt F j).cap (itAt (GoodI I I.length) j).a (itAt (GoodI I I.length) j).cap hkE
          have SZ := size_any E (itAt (GoodI I I.length) j).a (itAt (GoodI I I.length) j).cap hkE (by omega)
          have l1 := length_entC (e := E) (dv := .slice (itAt F j).a E.data.length (itAt F j).cap) hkE
          have l2 := length_entC (e := E) (dv := .slice (itAt (GoodI I I.length) j).a E.data.length (itAt (GoodI I I.length) j).cap) hkE
          have hi1 : (Tryd.prog.info? 26).map (·.size) = some (entC E (.slice (itAt F j).a E.data.length (itAt F j).cap)).length := by rw [l1]; kernel_rfl
          have hi2 : (Tryd.prog.info? 26).map (·.size) = some (entC E (.slice (itAt (GoodI I I.length) j).a E.data.length (itAt (GoodI I I.length) j).cap)).length := by rw [l2]; kernel_rfl
          have D1 := Lib.hid d1
          have D2 := Lib.hid d2
          clear itF itG xF enF enG d1 d2 hkE frows grows l1 l2 hgd hdlj hjp
          generalize entC E (.slice (itAt F j).a E.data.length (itAt F j).cap) = C1 at *
          generalize entC E (.slice (itAt (GoodI I I.length) j).a E.data.length (itAt (GoodI I I.length) j).cap) = C2 at *
          obtain ⟨st, hstE⟩ : ∃ st, startAt L j = st := ⟨_, rfl⟩
          rw [hstE] at p34 hst hnx ⊢
          generalize size E = xn at *
          have HNX := Lib.hid hnx
          have kr : Keeps w2 wr := Keeps.below hbr
          have P35 := Lib.hid (fun (W : World) (h : Keeps w2 W) => h _ _ p35)
          have s1 : ∀ y : Of (Keeps wr), y.to.cell? ⟨fb, fo + j * 36 + 34, none⟩ = some (.int .i64 st) := fun y => y.ok _ _ (kr _ _ p34)
          have s2 : ∀ y : Of (Keeps wr), y.to.cell? ⟨fb, fo + j * 36 + 35, none⟩ = some (.int .i64 xn) := fun y => y.ok _ _ (kr _ _ p35)
          have r1 : ∀ W, Keeps wr W → W.rangeAt fb (fo + j * 36) C1 := fun W hW o v hv => hW _ _ (kr _ _ (g1 o v hv))
          have r2 : ∀ W, Keeps wr W → W.rangeAt gb (gf + j * 34) C2 := fun W hW o v hv => hW _ _ (kr _ _ (g2 o v hv))
          have kd : Keeps wr wr.drew := Keeps.drewN wr 1
          have ne : Nonempty (Of (Keeps wr)) := of_ne kd
          have hna : ((st : Int) != (st : Int)) = false := bne_self_eq_false _
          have hnn : ((xn : Int) != (xn : Int)) = false := bne_self_eq_false _
          have D1k := Lib.hid (D1.out.keeps kr)
          have D2k := Lib.hid (D2.out.keeps kr)
          have HBR := Lib.hid hbr
          have HKR := Lib.hid kr
          clear p34 p35 g1 g2 hbr hnx hstE kr D1 D2
          go_wp2_with fail
          refine wp_region_plan [([0, 1, 2, 3, 4, 5, 6, 7, 8], some 9), ([10, 11, 12, 13, 14, 15, 16, 17, 18, 19, 20, 21, 22, 23, 24, 25, 26, 27, 28, 29], some 30), ([31, 32], none)] (fun w' => ∃ y : Of (Keeps wr), w' = y.to) (by kernel_rfl) (by kernel_rfl) (fun _ _ d _ _ h => by cases d <;> exact h) (of_mk kd) ?_
          refine plan_some (show wpQuiet _ _ _ _ (_ :: _ :: _ :: _ :: _ :: _ :: _ :: _ :: _ :: []) _ from ?_)
          repeat (first
            | (go_big_quiet_want; refine quiet_mid_of (fun w' e => (show w'.rangeAt fb (fo + j * 36) C1 from by obtain ⟨y, rfl⟩ := e; exact r1 _ y.ok)) Tryd.underlying26 rfl hi1 rfl rfl ?_; simp only [Act.put, List.setIfInBounds_toArray, List.set_cons_succ, List.set_cons_zero]; go_big_quiet_on)
            | (go_big_quiet_want; refine quiet_mid_of (fun w' e => (show w'.rangeAt gb (gf + j * 34) C2 from by obtain ⟨y, rfl⟩ := e; exact r2 _ y.ok)) Tryd.underlying26 rfl hi2 rfl rfl ?_; simp only [Act.put, List.setIfInBounds_toArray, List.set_cons_succ, List.set_cons_zero]; go_big_quiet_on)
            | go_big_quiet_step (fail)
            | quiet_step (fail))
          refine wpQuiet_nil (show wpList _ _ _ (_ :: []) _ _ from ?_)
          go_wp2_with fail
          refine (SE _ (D1k.out.keeps kd) (D2k.out.keeps kd)).mono ?_
          rintro en w6 ⟨rfl, hb6⟩
          have kd6 : Keeps wr w6 := fun q v hq => Keeps.below hb6 _ _ (kd q v hq)
          have HB6 := Lib.hid (HBR.out.trans ((show Below wr.heap.size wr w6 from (Below.refl _ _).drew.trans hb6).mono HBR.out.size))
          go_wp2_with fail
          refine late_normal (fun _ h => h) (of_mk kd6) ?_
          refine plan_some (show wpQuiet _ _ _ _ (_ :: _ :: _ :: _ :: _ :: _ :: _ :: _ :: _ :: _ :: _ :: _ :: _ :: _ :: _ :: _ :: _ :: _ :: _ :: _ :: []) _ from ?_)
          repeat (first
            | (go_big_quiet_want; refine quiet_mid_of (fun w' e => (show w'.rangeAt gb (gf + j * 34) C2 from by obtain ⟨y, rfl⟩ := e; exact r2 _ y.ok)) Tryd.underlying26 rfl hi2 rfl rfl ?_; simp only [Act.put, List.setIfInBounds_toArray, List.set_cons_succ, List.set_cons_zero]; go_big_quiet_on)
            | go_big_quiet_step (fail)
            | quiet_step (fail))
          refine wpQuiet_nil (show wpList _ _ _ (_ :: []) _ _ from ?_)
          go_wp2_with fail
          refine (SZ w6).mono ?_
          rintro en w7 ⟨rfl, hb7⟩
          have kd7 : Keeps wr w7 := fun q v hq => Keeps.below hb7 _ _ (kd6 q v hq)
          have HB7 := Lib.hid (HB6.out.trans (hb7.mono HB6.out.size))
          go_wp2_with fail
          refine late_normal (fun _ h => h) (of_mk kd7) ?_
          refine plan_none (show wpQuiet _ _ _ _ (_ :: _ :: []) _ from ?_)
          repeat (go_big_quiet_step (fail))
          refine wpQuiet_nil ?_
          refine plan_nil ?_
          have c35 := P35.out w7 (fun q v hq => kd7 _ _ (HKR.out q v hq))
          clear s1 s2 r1 r2 hi1 hi2 ne hnn hna kd6 kd kd7 hb6 hb7 SE SZ
          go_wp2_with fail
          go_roundw
          case rel =>
            have q := HNX.out
            refine ⟨j + 1, by go_num, by omega, ?_, by omega, HB7.out⟩
            rw [q]
            go_num
          case measure => simp [intOf]; omega
        · have hlti : ¬ (j : Int) < (L.length : Int) := by omega
          have hb := HB3.out.trans (hbr.mono HB3.out.size)
          have LV := lives_any wr (HH.out.keeps (Keeps.below hb))
          go_wp2_with fail
          refine LV.mono ?_
          rintro en w13 ⟨rfl, hb13⟩
          go_wp2_with fail
          go_ret
          exact ⟨rfl, hb.trans (hb13.mono hb.size)⟩
end Go.Proofs.YtmcdjkfmfhbbnaaDoor
