/- hoardref07.Segment: the Magic, and the entries that can be. -/
import Derived.Test.YtmcdjkfmfhbbnaaDoorFrameWholeW
namespace Go.Proofs.YtmcdjkfmfhbbnaaDoor
open Go Go.RowKit

def SegO (B : Nat) (v : Value) (l : List (BitVec 8)) (w : World) : Prop := Owns w B 5 v l
theorem SegO.lt {B : Nat} {v : Value} {l : List (BitVec 8)} {w : World} (h : SegO B v l w) {k : Nat} (hk : v.ownBlock = some k) : B ≤ k ∧ k < w.heap.size := row_lt h hk
theorem SegO.touch {F : Nat → Prop} {B : Nat} {v : Value} {l : List (BitVec 8)} {w w' : World} (h : SegO B v l w) (t : Touch F w w') (hv : ∀ k, v.ownBlock = some k → ¬ F k) : SegO B v l w' := t.row h hv
theorem wpList_append_sego {P : Program} {w : World} {ops : Array Oper} {rest : List Oper} {o : Oper} {act : Act} {Q : Exit → Act → World → Prop} {t : TypeId} (T : ByteSlice P t 5)
    (hgd : o.guard = none) (s x : Operand) (ho : o.op = .call { callee := .builtin .append, args := #[s, x], argTypes := #[t, t] })
    (B : Nat) (v : Value) (l : List (BitVec 8)) (hs : act.eval s = v) (hown : SegO B v l w)
    (a : Option Addr) (cap : Nat) (m : List (BitVec 8)) (hx : act.eval x = .slice a m.length cap) (hm : Reads w a cap m) (_hm0 : 0 < m.length)
    (hlen : l.length + m.length ≤ 140737488355328) (hbase : B ≤ w.heap.size)
    (h : ∀ v' w', SegO B v' (l ++ m) w' → w.grownBy w' v.ownBlock → (v'.ownBlock = v.ownBlock ∨ ∀ k, v'.ownBlock = some k → w.heap.size ≤ k) → wpList P ops Q rest (act.put o.dst v') w') : wpList P ops Q (o :: rest) act w := by
  refine wpList_append_bytes_at T hgd s x ho B v l hs hown a cap m hx hm hlen hbase ?_
  intro v' w' r1 r2 r3
  refine h v' w' r1 r2 ?_
  rcases r3 with e | e
  · exact .inl e
  · exact .inr fun k hk => by rw [e] at hk; injection hk with hk; omega
theorem magic_own (w : World) : Calls Tryd.prog 39 #[] w fun e w' => ∃ v, e = .returned v ∧ SegO w.heap.size v magicL w' ∧ Below w.heap.size w w' := by
  go_enter Tryd.func39, Tryd.ntmps39
  go_wp2_with fail
  go_ret
  exact ⟨_, rfl, ⟨rfl, .inr ⟨w.heap.size, 8, _, rfl, Nat.le_refl _, heap_alloc_new _ _, Nat.le_refl _, by unfold maxLen; omega, rfl, rfl⟩⟩, (Below.refl _ _).alloc (Nat.le_refl _) _⟩
def PackO (w1 : World) (I : List Item) (vb vg i : Value) (wr : World) : Prop :=
  ∃ k : Nat, i = .int .i64 k ∧ k ≤ I.length ∧ (packs ((GoodI I k).map Item.ent)).length ≤ k * 16425 ∧ SegO w1.heap.size vb (magicL ++ packs ((GoodI I k).map Item.ent)) wr ∧ OwnsIts wr w1.heap.size 26 34 vg (GoodI I k) ∧ (∀ g, vb.ownBlock = some g → vg.ownBlock ≠ some g) ∧ Below w1.heap.size w1 wr
def SegPost (w1 : World) (I : List Item) (e : Ending) (w' : World) : Prop :=
  ∃ vb vg, e = .returned (.tuple #[vb, vg]) ∧ Owns w' w1.heap.size 5 vb (magicL ++ packs ((GoodI I I.length).map Item.ent)) ∧ OwnsIts w' w1.heap.size 26 34 vg (GoodI I I.length) ∧ (∀ g, vb.ownBlock = some g → vg.ownBlock ≠ some g) ∧ Below w1.heap.size w1 w'
set_option maxHeartbeats 2000000 in
set_option maxRecDepth 40000 in
theorem segment_any (a1 : Option Addr) (c1 : Nat) (I : List Item) (w1 : World) (hI : Its 34 w1 a1 c1 I) (hIl : I.length ≤ 12) (hID : ∀ it ∈ I, it.ent.data.length ≤ 200) (hIX : ∀ it ∈ I, it.x = []) (hIA : ∀ it ∈ I, ∀ ad, it.a = some ad → ad.block < w1.heap.size) :
    Calls Tryd.prog 25 #[.slice a1 I.length c1] w1 (SegPost w1 I) := by
  have HI := Lib.hid hI
  have HID := Lib.hid hID
  have HIX := Lib.hid hIX
  have HIA := Lib.hid hIA
  have MO := magic_own w1
  clear hI hID hIX hIA
  go_enter Tryd.func25, Tryd.ntmps25
  go_wp2_with fail
  refine MO.mono ?_
  rintro en w0 ⟨v0, rfl, ho0, hb0⟩
  have HO0 := Lib.hid (show SegO w1.heap.size v0 (magicL ++ packs ((GoodI I 0).map Item.ent)) w0 by simpa [GoodI, packs] using ho0)
  have HB0 := Lib.hid hb0
  clear ho0 hb0 MO
  go_wp2_with fail
  go_loopw [4, 5, 6] (fun vb vg i wr => PackO w1 I vb vg i wr) (fun _ _ i _ => I.length - (intOf i).toNat)
  case atStart => exact ⟨0, rfl, Nat.zero_le _, by simp [GoodI, packs], HO0.out, ownsIts_nil _ _ _ _, fun g _ => by simp [Value.ownBlock], HB0.out⟩
  case round =>
    obtain ⟨k, rfl, hk, hpl, hseg, hown, hap, hbr⟩ := hrel
    by_cases hlt : k < I.length
    · obtain ⟨b, off, rfl, hrows⟩ := HI.out.rows.resolve_left (fun e => by rw [e] at hlt; simp at hlt)
      have hmem : itAt I k ∈ I := by rw [itAt_lt hlt]; exact List.getElem_mem hlt
      have hit := hrows k hlt
      have hkey := hit.key
      have hdat := hit.data
      have hrng := hit.range
      have hx := HIX.out _ hmem
      have hal := HIA.out _ hmem
      have hdl := HID.out _ hmem
      have hgy := fun (h : chk (itAt I k).ent = 0) => goodI_yes hlt h
      have hgn := fun (h : chk (itAt I k).ent ≠ 0) => goodI_no hlt h
      have hgl := goodI_len I k
      clear hit hrows
      generalize itAt I k = it at *
      have EN := rencode_any it.ent it.a it.cap hkey (by omega) wr (hdat.keeps (Keeps.below hbr))
      unfold EncPost at EN
      have hlC := length_entC (e := it.ent) (dv := it.dv) hkey
      have hiC : (Tryd.prog.info? 26).map (·.size) = some (entC it.ent it.dv).length := by rw [hlC]; kernel_rfl
      have HO1 := Lib.hid (one_entC it.ent it.a it.ent.data.length it.cap)
      have hCx : it.cells = entC it.ent it.dv := by unfold Item.cells; rw [hx, List.append_nil]
      have hdv : it.dv = .slice it.a it.ent.data.length it.cap := rfl
      rw [← hdv] at EN HO1
      have HDT := Lib.hid (fun (W : World) (h : Below w1.heap.size w1 W) => hdat.keeps (Keeps.below h))
      have RG := fun (W : World) (h : Below w1.heap.size w1 W) => (show W.rangeAt b (off + k * 34) (entC it.ent it.dv) from fun j v hv => Keeps.below h _ _ (hrng j v hv))
      have HGL := Lib.hid hgl
      have HAL := Lib.hid hal
      have HKEY := Lib.hid hkey
      have HLC := Lib.hid hlC
      have HPL := Lib.hid hpl
      have HMEM := Lib.hid hmem
      have hrngr := RG wr hbr
      obtain ⟨C, hC⟩ : ∃ C, entC it.ent it.dv = C := ⟨_, rfl⟩
      rw [hC] at hCx hiC EN HO1 HLC hrngr
      simp only [hC] at RG
      have HRG := Lib.hid RG
      have HCX := Lib.hid hCx
      have HSEG := Lib.hid hseg
      have HOWN := Lib.hid hown
      have HAP := Lib.hid hap
      have HBR := Lib.hid hbr
      clear hx hal hkey hlC hdat hrng hpl hgl hC hdv hCx RG hseg hown hap hbr hmem
      by_cases hck : chk it.ent = 0
      · have hg := hgy hck
        have HG := Lib.hid hg
        have HCK := Lib.hid hck
        rw [hck] at EN
        have hBe : enc it.ent = encB it.ent := by unfold enc; rw [if_pos hck]
        have hBl : (encB it.ent).length = size it.ent := length_encB HKEY.out hck
        have hB9 := (parts it.ent HKEY.out hck).size9
        have hBM := size_le it.ent
        rw [hBe] at EN
        rw [← hBl] at hB9 hBM
        obtain ⟨EB, hEB⟩ : ∃ EB, encB it.ent = EB := ⟨_, rfl⟩
        rw [hEB] at EN hB9 hBM
        have HEB := Lib.hid hEB
        clear hg hgy hgn hck hBe hBl hEB
        go_wp2_with (with_reducible refine at_load 26 ?_; go_must (refine wpList_load_mid rfl 26 _ rfl b (off + k * 34) rfl C _ hrngr Tryd.underlying26 rfl hiC ?_))
        refine EN.mono ?_
        rintro en w5 ⟨v5, rfl, o5, hb5⟩
        obtain ⟨a5, c5, rfl, R5⟩ := o5.reads
        have seg5 := HSEG.out.touch (F := fun _ => False) (.of_below hb5) (fun _ _ h => h)
        have own5 := HOWN.out.below hb5
        have HB5 := Lib.hid (HBR.out.trans (hb5.mono HBR.out.size))
        have HLT5 := Lib.hid (fun (q : Nat) (e : Value.ownBlock u5 = some q) => (row_lt own5.row e).2)
        clear o5 hb5 EN hrngr
        go_wp2_with (with_reducible refine hold_append ?_)
        intro _
        have hbs5 := HB5.out.size
        have hplen : (magicL ++ packs ((GoodI I k).map Item.ent)).length + EB.length ≤ 140737488355328 := by
          have h8 : magicL.length = 8 := rfl
          have := HPL.out
          rw [List.length_append, h8]
          omega
        go_wp2_with (at_builtin; go_must (refine wpList_append_sego byteSlice rfl _ _ rfl w1.heap.size _ _ rfl seg5 a5 c5 EB rfl R5 (by omega) hplen hbs5 ?_))
        intro v6 w6 seg6 hg6 hp6
        have t6 : Touch (fun q => Value.ownBlock u4 = some q) w5 w6 := .of_grown hg6 fun k hk => hk
        have own6 := own5.touch t6 (fun q e f => HAP.out q f e) (fun x hx ad e f => by
          have q1 := HIA.out x (goodI_mem hx).1 ad e
          have q2 := (HSEG.out.lt f).1
          omega)
        have hb6 := HB5.out.trans (t6.below (fun q e => (HSEG.out.lt e).1) hbs5)
        have HAP6 : Hid (∀ g, v6.ownBlock = some g → Value.ownBlock u5 ≠ some g) := Lib.hid (by
          intro g h f
          rcases hp6 with e | e
          · exact HAP.out g (e ▸ h) f
          · have q1 := e g h
            have q2 := HLT5.out g f
            omega)
        have hrng6 := HRG.out w6 hb6
        have HB6 := Lib.hid hb6
        have HSEG6 := Lib.hid seg6
        have HOWN6 := Lib.hid own6
        clear t6 hp6 hg6 hb6 own6 seg6 own5 seg5 R5 hplen hbs5 HSEG HOWN HAP HLT5 HBR
        go_wp2_with (first
          | (with_reducible refine at_load 26 ?_; go_must (refine wpList_load_mid rfl 26 _ rfl b (off + k * 34) rfl C _ hrng6 Tryd.underlying26 rfl hiC ?_))
          | (with_reducible refine at_lit 27 ?_; go_must (refine wpList_item_lit Tryd.underlying27 entry_info ent_zsize rfl _ rfl C rfl HLC.out (by decide) (by decide) ?_))
          | (with_reducible refine hold_append ?_))
        intro _
        have hrow := rangeAt_row (heap_alloc_new w6 (.cells C.toArray 26))
        rw [List.toList_toArray] at hrow
        have hba : Below w6.heap.size w6 (w6.alloc (.cells C.toArray 26)) := (Below.refl _ _).alloc (Nat.le_refl _) _
        have hb7 := HB6.out.trans (hba.mono HB6.out.size)
        have HO7 := HOWN6.out.below hba
        have HSEG7 := Lib.hid (HSEG6.out.touch (F := fun _ => False) (.of_below hba) (fun _ _ h => h))
        have d7 := HDT.out _ hb7
        have hs67 := hba.size
        have hbl7 := hb7.size
        clear hrng6 hba
        generalize w6.alloc (.cells C.toArray 26) = w7 at *
        obtain ⟨g6, hg6⟩ : ∃ g, w6.heap.size = g := ⟨_, rfl⟩
        rw [hg6] at hrow ⊢
        have HS67 := Lib.hid hs67
        have HG6 := Lib.hid hg6
        clear hg6 hs67
        have hgl := HGL.out
        go_wp2_with (at_builtin; go_must (refine wpList_append_item Tryd.underlying27 entry_info ent_zsize (by decide) rfl _ _ rfl w1.heap.size _ (GoodI I k) rfl HO7 it ⟨g6, 0, none⟩ 1 rfl ?c1 ?c2 ?c3 ?c4 d7 ?c6 (by omega) (by omega) hbl7 ?_))
        case c1 => intro j u hu; rw [HCX.out] at hu; rw [Addr.add_lit]; exact hrow j u hu
        case c2 => rw [HCX.out]; exact HO1.out
        case c3 => rw [HCX.out]; exact HLC.out
        case c4 => exact HKEY.out
        case c6 =>
          intro p e
          have q := HAL.out p e
          refine ⟨fun f => ?_, by omega⟩
          have := (row_lt HO7.row f).1
          omega
        intro v8 w8 ho8 hg8 hp8
        have t8 : Touch (fun q => Value.ownBlock u5 = some q) w7 w8 := .of_grown hg8 fun k hk => hk
        have seg8 := HSEG7.out.touch t8 (fun q e f => HAP6.out q e f)
        have hb8 := hb7.trans (t8.below (fun q e => (row_lt HO7.row e).1) hbl7)
        have HAP8 : Hid (∀ g, v6.ownBlock = some g → v8.ownBlock ≠ some g) := Lib.hid (by
          intro g h f
          rcases hp8 with e | e
          · exact HAP6.out g h (e ▸ f)
          · rw [e] at f
            injection f with f
            have q1 := (HSEG7.out.lt h).2
            omega)
        have HSEG8 := Lib.hid seg8
        have HO8 := Lib.hid ho8
        have HB8 := Lib.hid hb8
        clear t8 hp8 hg8 ho8 seg8 hb8 HO7 d7 hrow hb7 hbl7 hgl
        go_wp2_with fail
        go_roundw
        case rel =>
          have e1 : magicL ++ packs ((GoodI I (k + 1)).map Item.ent) = (magicL ++ packs ((GoodI I k).map Item.ent)) ++ EB := by
            rw [HG.out, List.map_append, List.map_singleton, packs_snoc, HEB.out, List.append_assoc]
          refine ⟨k + 1, by go_num, by omega, ?_, by rw [e1]; exact HSEG8.out, by rw [HG.out]; exact HO8.out, HAP8.out, HB8.out⟩
          have q := HPL.out
          rw [HG.out, List.map_append, List.map_singleton, packs_snoc, List.length_append, HEB.out]
          omega
        case measure => simp [intOf]; omega
      · have hg := hgn hck
        have HG := Lib.hid hg
        have hck1 : (chk it.ent != 0) = true := by simpa using hck
        have hck2 : (chk it.ent == 0) = false := by simpa using hck
        generalize chk it.ent = ck at *
        generalize enc it.ent = EB at *
        clear hg hgy hgn hck
        go_wp2_with (with_reducible refine at_load 26 ?_; go_must (refine wpList_load_mid rfl 26 _ rfl b (off + k * 34) rfl C _ hrngr Tryd.underlying26 rfl hiC ?_))
        refine EN.mono ?_
        rintro en w5 ⟨v5, rfl, o5, hb5⟩
        obtain ⟨a5, c5, rfl, R5⟩ := o5.reads
        have seg5 := HSEG.out.touch (F := fun _ => False) (.of_below hb5) (fun _ _ h => h)
        have own5 := HOWN.out.below hb5
        have HB5 := Lib.hid (HBR.out.trans (hb5.mono HBR.out.size))
        have HSEG5 := Lib.hid seg5
        have HOWN5 := Lib.hid own5
        clear o5 hb5 EN hrngr seg5 own5 R5
        go_wp2_with fail
        go_roundw
        case rel =>
          have q := HPL.out
          exact ⟨k + 1, by go_num, by omega, by rw [HG.out]; omega, by rw [HG.out]; exact HSEG5.out, by rw [HG.out]; exact HOWN5.out, HAP.out, HB5.out⟩
        case measure => simp [intOf]; omega
    · obtain rfl : k = I.length := by omega
      have hkl : ¬ (I.length : Int) < (I.length : Int) := by omega
      go_wp2
      go_ret2
      exact ⟨_, _, rfl, hseg, hown, hap, hbr⟩
end Go.Proofs.YtmcdjkfmfhbbnaaDoor
