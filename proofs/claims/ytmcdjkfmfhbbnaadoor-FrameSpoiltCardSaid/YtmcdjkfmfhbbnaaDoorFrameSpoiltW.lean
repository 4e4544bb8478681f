/- The law's walk: FrameSpoilt. -/
import Derived.Test.YtmcdjkfmfhbbnaaDoorSpoilt
import Derived.Test.YtmcdjkfmfhbbnaaDoorBurst
import Derived.Test.YtmcdjkfmfhbbnaaDoorAppLit
namespace Go.Proofs.YtmcdjkfmfhbbnaaDoor
open Go Go.RowKit

theorem within_at0 (x hi : Int) (h : 0 ≤ hi) : ∃ p : Nat, within x 0 hi = p ∧ (p : Int) ≤ hi := by
  refine ⟨(within x 0 hi).toNat, ?_, ?_⟩ <;> unfold within <;> split <;> (try split) <;> omega
theorem scan_at {a : Option Addr} {cap n : Nat} (l : List (BitVec 8)) (w : World) (hn : l.length = n) (hh : Half w) (hr : Reads w a cap l) (hlen : n ≤ 1000000) :
    Calls Tryd.prog 24 #[.slice a n cap] w (ScanTop w l) := by
  subst hn; exact scan_any a cap l w hh hr hlen
def FromRel (L : List Ent) (p : Nat) (w2 : World) (from_ i : Value) (wr : World) : Prop :=
  ∃ j : Nat, i = .int .i64 j ∧ j ≤ p ∧ from_ = .int .i64 (startAt L j) ∧ startAt L j ≤ 8 + j * 16425 ∧ Below w2.heap.size w2 wr
def LastRel (N : Nat) (w10 : World) (i : Value) (wr : World) : Prop := ∃ x : Nat, i = .int .i64 x ∧ x ≤ N ∧ Below w10.heap.size w10 wr
set_option maxHeartbeats 1000000 in
set_option maxRecDepth 40000 in
theorem frameSpoilt_walk (a : Option Addr) (cap : Nat) (its : List Item) (at_ k_ : Int) (by_ : BitVec 8) (w : World) (hh : Half w) (hi : Its 34 w a cap its) (_hx : ∀ it ∈ its, it.x = [])
    (_h1 : -9223372036854775808 ≤ at_ ∧ at_ ≤ 9223372036854775807) (_h2 : -9223372036854775808 ≤ k_ ∧ k_ ≤ 9223372036854775807) :
    Calls Tryd.prog 9 #[.slice a its.length cap, .int .i64 at_, .int .i64 k_, U8 by_] w fun e w' => e = .returned (.bool true) ∧ Below w.heap.size w w' := by
  have FW := few_any a cap its 10 100 w (by decide) (by decide) hi
  have hc := fun (w : World) (cs : Array Value) (E : TypeId) (len cap : Nat) => conv_lit (P := Tryd.prog) w 24 5 cs E len cap (by kernel_rfl) (by kernel_rfl)
  have HH := Lib.hid hh
  have HCV := Lib.hid hc
  clear hh hi
  go_enter Tryd.func9, Tryd.ntmps9
  go_wp2_with fail
  refine FW.mono ?_
  rintro en w1 ⟨v1, I, rfl, ho1, hm1, hf1, hb1⟩
  have hIl : I.length ≤ 10 := by
    have := congrArg List.length hm1
    simp only [List.length_map, List.length_take] at this
    omega
  have hID : ∀ it ∈ I, it.ent.data.length ≤ 200 := by
    intro it hit
    have : it.ent ∈ I.map Item.ent := List.mem_map_of_mem hit
    rw [hm1] at this
    obtain ⟨x, _, e⟩ := List.mem_map.1 this
    rw [← e]
    show (x.ent.data.take 100).length ≤ 200
    rw [List.length_take]; omega
  obtain ⟨a1, c1, rfl, hI, hIo⟩ := ho1.form
  have SG := segment_any a1 c1 I w1 hI (by omega) hID (fun it h => (hf1 it h).1) (fun it h ad e => (ho1.apart it h ad e).2)
  have HID := Lib.hid hID
  have HIK := Lib.hid ho1.key
  have HIA := Lib.hid (fun (it : Item) (h : it ∈ I) (ad : Addr) (e : it.a = some ad) => (ho1.apart it h ad e).2)
  have HB1 := Lib.hid hb1
  clear FW ho1 hm1 hf1 hb1 hI hIo hID
  go_wp2_with fail
  refine SG.mono ?_
  rintro en w2 ⟨vb, vg, rfl, hob, hog, hap, hb2⟩
  obtain ⟨L, hL⟩ : ∃ L, (GoodI I I.length).map Item.ent = L := ⟨_, rfl⟩
  have hgood : ∀ e ∈ L, Good e := by
    intro e he
    rw [← hL] at he
    obtain ⟨x, hx, rfl⟩ := List.mem_map.1 he
    exact ⟨HIK.out x (goodI_mem hx).1, (goodI_mem hx).2⟩
  have hdl : ∀ e ∈ L, e.data.length ≤ 200 := by
    intro e he
    rw [← hL] at he
    obtain ⟨x, hx, rfl⟩ := List.mem_map.1 he
    exact HID.out x (goodI_mem hx).1
  rw [hL] at hob
  obtain ⟨ag, cg, rfl, hG, hgo⟩ := hog.form
  have hLN : (GoodI I I.length).length = L.length := by rw [← hL, List.length_map]
  have hgl := goodI_len I I.length
  have hent : ∀ j, j < L.length → (itAt (GoodI I I.length) j).ent = L.getD j zeroEnt := by
    intro j hj
    rw [itAt_lt (by omega), List.getD_eq_getElem?_getD, List.getElem?_eq_getElem hj]
    simp only [← hL, List.getElem_map, Option.getD_some]
  have hB1 := HB1.out.trans (hb2.mono HB1.out.size)
  have hBl : (magicL ++ packs L).length ≠ 0 := by
    have h8 : magicL.length = 8 := rfl
    rw [List.length_append, h8]; omega
  have hblM : (magicL ++ packs L).length ≤ 200000 := by
    have h8 : magicL.length = 8 := rfl
    have := packs_le L hgood
    rw [List.length_append, h8]; omega
  have HSA := Lib.hid (fun (j q : Nat) (c : BitVec 8) (h : j < L.length) => spoilt_ahead L j q c h)
  have HSB := Lib.hid (fun (j q : Nat) (c : BitVec 8) (h : j < L.length) => spoilt_behind L j q c h hgood)
  have HSL := Lib.hid (start_le L)
  obtain ⟨B, hB⟩ : ∃ B, magicL ++ packs L = B := ⟨_, rfl⟩
  rw [hB] at hBl hblM HSA HSB HSL hob
  clear hB
  obtain ⟨g, cb, rfl, hrow, hg1, hg2⟩ := hob.row hBl
  have HB2 := Lib.hid hB1
  have HENT := Lib.hid hent
  have HGOOD := Lib.hid hgood
  have HDL := Lib.hid hdl
  have HHG := Lib.hid hG
  have HAP := Lib.hid hap
  have HOB := Lib.hid hob
  have HG1 := Lib.hid hg1
  have HG2 := Lib.hid hg2
  rw [hLN]
  have HLN := Lib.hid hLN
  have hln : L.length ≤ 10 := by omega
  clear hog hap hb2 hL hG hgl hLN hent hB1 hgood hdl hob hgo hrow hg1 hg2 SG
  by_cases hN0 : L.length = 0
  · have hN0' : ((L.length : Int) == 0) = true := by simpa using hN0
    have LV := lives_any w2 (HH.out.keeps (Keeps.below HB2.out))
    go_wp2_with fail
    refine LV.mono ?_
    rintro en w13 ⟨rfl, hb13⟩
    go_wp2_with fail
    go_ret
    exact ⟨rfl, HB2.out.trans (hb13.mono HB2.out.size)⟩
  · have hN0' : ((L.length : Int) == 0) = false := by rw [beq_eq_false_iff_ne]; omega
    go_wp2_with fail
    refine (within_any _ _ _ _).mono ?_
    rintro e w' ⟨rfl, rfl⟩
    obtain ⟨p, ep, hp⟩ := within_at0 at_ ((L.length : Int) - 1) (by omega)
    rw [ep]; clear ep
    have hpN : p < L.length := by omega
    obtain ⟨gb, gf, rfl, grows⟩ := HHG.out.rows.resolve_left (fun e => by have h := HLN.out; rw [e] at h; simp at h; omega)
    have GA : ∀ j (hj : j < L.length), ∃ a' c', w2.rangeAt gb (gf + j * 34) (entC L[j] (.slice a' L[j].data.length c')) ∧ Reads w2 a' c' L[j].data ∧ ∀ ad, a' = some ad → ad.block < w1.heap.size := by
      intro j hj
      have it := grows j (by rw [HLN.out]; exact hj)
      have en := HENT.out j hj
      rw [List.getD_eq_getElem?_getD, List.getElem?_eq_getElem hj, Option.getD_some] at en
      refine ⟨(itAt (GoodI I I.length) j).a, (itAt (GoodI I I.length) j).cap, ?_, ?_, ?_⟩
      · have g2 := it.range
        unfold Item.dv at g2
        rwa [en] at g2
      · have d2 := it.data
        rwa [en] at d2
      · have hm : itAt (GoodI I I.length) j ∈ GoodI I I.length := by rw [itAt_lt (by rw [HLN.out]; exact hj)]; exact List.getElem_mem _
        exact HIA.out _ (goodI_mem hm).1
    have HGA := Lib.hid GA
    clear grows GA
    go_wp2_with fail
    go_loopw [11, 12] (fun f i wr => FromRel L p w2 f i wr) (fun _ i _ => p - (intOf i).toNat)
    case atStart => exact ⟨0, rfl, Nat.zero_le _, rfl, by simp [startAt, packs], Below.refl _ _⟩
    case round =>
      clear hc
      obtain ⟨j, rfl, hj, rfl, hst, hbr⟩ := hrel
      have hjL : j < L.length := by omega
      obtain ⟨a', c', hrg, hdt, _⟩ := HGA.out j hjL
      have hgd := HGOOD.out L[j] (List.getElem_mem hjL)
      have hdlj := HDL.out L[j] (List.getElem_mem hjL)
      have hnx := start_next hjL HGOOD.out
      have hszM := size_le L[j]
      have hsz9 := (parts L[j] hgd.1 hgd.2).size9
      have SZ := size_any L[j] a' c' hgd.1 (by omega)
      have l2 := length_entC (e := L[j]) (dv := .slice a' L[j].data.length c') hgd.1
      have hi2 : (Tryd.prog.info? 26).map (·.size) = some (entC L[j] (.slice a' L[j].data.length c')).length := by rw [l2]; kernel_rfl
      have hrgr : wr.rangeAt gb (gf + j * 34) (entC L[j] (.slice a' L[j].data.length c')) := fun o v hv => Keeps.below hbr _ _ (hrg o v hv)
      have HBR := Lib.hid hbr
      have HLJ := Lib.hid hgd
      clear hrg hdt hgd hdlj l2 hbr
      generalize entC L[j] (.slice a' L[j].data.length c') = C2 at *
      obtain ⟨sz, hsz⟩ : ∃ sz, size L[j] = sz := ⟨_, rfl⟩
      obtain ⟨st, hstE⟩ : ∃ st, startAt L j = st := ⟨_, rfl⟩
      rw [hsz] at hszM hsz9 SZ hnx
      rw [hstE] at hst hnx ⊢
      have HNX := Lib.hid hnx
      have HSTE := Lib.hid hstE
      clear hsz hnx hstE
      by_cases hjp : j < p
      · have hjpi : (j : Int) < (p : Int) := by omega
        go_wp2_with (with_reducible refine at_load 26 ?_; go_must (refine wpList_load_mid rfl 26 _ rfl gb (gf + j * 34) rfl C2 _ hrgr Tryd.underlying26 rfl hi2 ?_))
        refine (SZ wr).mono ?_
        rintro en w6 ⟨rfl, hb6⟩
        have HB6 := Lib.hid (HBR.out.trans (hb6.mono HBR.out.size))
        clear SZ hb6 hrgr
        go_wp2_with fail
        go_roundw
        case rel =>
          have q := HNX.out
          refine ⟨j + 1, by go_num, by omega, ?_, by omega, HB6.out⟩
          rw [q]
          go_num
        case measure => simp [intOf]; omega
      · obtain rfl : j = p := by omega
        clear hjp hj
        have hjpi : ¬ (j : Int) < (j : Int) := by omega
        go_wp2_with (with_reducible refine at_load 26 ?_; go_must (refine wpList_load_mid rfl 26 _ rfl gb (gf + j * 34) rfl C2 _ hrgr Tryd.underlying26 rfl hi2 ?_))
        refine (SZ wr).mono ?_
        rintro en w6 ⟨rfl, hb6⟩
        have HB6 := Lib.hid (HBR.out.trans (hb6.mono HBR.out.size))
        clear SZ hb6 hrgr
        go_wp2_with fail
        refine (within_any _ _ _ _).mono ?_
        rintro e w' ⟨rfl, rfl⟩
        obtain ⟨q, eq, hq⟩ := within_at0 k_ ((sz : Int) - 1) (by omega)
        rw [eq]; clear eq
        have hq1 : q < sz := by omega
        have hnj := HNX.out
        have hsl := HSL.out (j + 1)
        have hob6 := HOB.out.below HB6.out
        rw [hnj] at hsl
        clear hnj
        obtain ⟨g1, cp, e1, hrow, _, _⟩ := hob6.row hBl
        injection e1 with e1 _ e3
        subst e3
        have hgg : g = g1 := by injection e1 with e1; injection e1
        subst hgg
        have hstq : st + q < B.length := by omega
        have hcell := hrow.cell (st + q) hstq
        have hth := hrow.thawed (st + q)
        have HROW := Lib.hid hrow
        clear hob6 hrow e1
        generalize hcb : byteAt B (st + q) = cb0 at *
        have hgb : gb ≠ g := by
          intro e
          have hx := HAP.out g rfl
          subst e
          exact hx rfl
        have hg1 := HG1.out
        have hww1 := HB1.out.size
        have T7 : Touch (fun x => x = g) w6 (w6.setCell ⟨g, st + q, none⟩ (U8 (cb0 ^^^ by_))) := Touch.set (F := fun x => x = g) w6 g (st + q) _ rfl
        have hb6 := HB2.out.trans (HB6.out.mono HB2.out.size)
        have HB7 := Lib.hid (hb6.trans (T7.below (fun x e => by have e : x = g := e; omega) hb6.size))
        have HGA7 : Hid (∀ i (hi : i < L.length), ∃ a' c', (w6.setCell ⟨g, st + q, none⟩ (U8 (cb0 ^^^ by_))).rangeAt gb (gf + i * 34) (entC L[i] (.slice a' L[i].data.length c')) ∧ Reads (w6.setCell ⟨g, st + q, none⟩ (U8 (cb0 ^^^ by_))) a' c' L[i].data) := Lib.hid (by
          intro i hi
          obtain ⟨a2, c2, h1, h2, h3⟩ := HGA.out i hi
          refine ⟨a2, c2, rangeAt_touch T7 (fun o v hv => Keeps.below HB6.out _ _ (h1 o v hv)) hgb, T7.reads (h2.keeps (Keeps.below HB6.out)) fun ad e f => ?_⟩
          have := h3 ad e
          have f : ad.block = g := f
          omega)
        have hrow7 := HROW.out.set (st + q) (cb0 ^^^ by_)
        have SC := scan_at (B.set (st + q) (cb0 ^^^ by_)) _ (List.length_set) (HH.out.keeps (Keeps.below HB7.out)) hrow7.reads (by omega)
        obtain ⟨rest, hrest⟩ := HSA.out j (st + q) (cb0 ^^^ by_) hjL (by rw [HSTE.out]; omega)
        have hbehind := HSB.out j (st + q) (cb0 ^^^ by_) hjL (by rw [HNX.out]; omega)
        rw [HNX.out] at hbehind
        have hgt : ∀ e ∈ L.take j, Good e := fun e he => HGOOD.out e (List.mem_of_mem_take he)
        obtain ⟨X, hX⟩ := scanT_ahead (L.take j) rest hgt
        rw [← hrest] at hX
        unfold ScanTop at SC
        generalize scanT (B.set (st + q) (cb0 ^^^ by_)) = R at *
        obtain ⟨LA, n1, e1⟩ := R
        simp only at hX SC
        have HX := Lib.hid hX
        have HBEH := Lib.hid hbehind
        have HROW7 := Lib.hid hrow7
        clear hX hbehind hrow7 hrest hgt T7 hb6 hgb hg1 hww1 hcb
        go_wp2_with fail
        generalize w6.setCell ⟨g, st + q, none⟩ (U8 (cb0 ^^^ by_)) = w7 at *
        have HB7L := Lib.hid (show (B.set (st + q) (cb0 ^^^ by_)).length = B.length from List.length_set)
        generalize B.set (st + q) (cb0 ^^^ by_) = B7 at *
        refine SC.mono ?_
        rintro en w8 ⟨vf, FA, rfl, hFA⟩
        obtain ⟨aA, cA, rfl, IA, MA, hb8⟩ := hFA.seen
        have HHA := Lib.hid IA
        have HMA := Lib.hid MA
        have HB8 := Lib.hid (HB7.out.trans (hb8.mono HB7.out.size))
        have HROW8 := Lib.hid (HROW7.out.reads.keeps (Keeps.below hb8))
        have HGA8 : Hid (∀ i (hi : i < L.length), ∃ a' c', w8.rangeAt gb (gf + i * 34) (entC L[i] (.slice a' L[i].data.length c')) ∧ Reads w8 a' c' L[i].data) := Lib.hid (fun i hi => by
          obtain ⟨a2, c2, h1, h2⟩ := HGA7.out i hi
          exact ⟨a2, c2, fun o v hv => Keeps.below hb8 _ _ (h1 o v hv), h2.keeps (Keeps.below hb8)⟩)
        clear SC hFA IA MA hb8
        have hc := HCV.out
        have hsl8 := fun W => run_slice_from (P := Tryd.prog) byteSlice W (some ⟨g, 0, none⟩) B.length cb .i64 (st + sz) ((st : Int) + (sz : Int)) (by omega) hsl
        obtain ⟨ad, had⟩ : ∃ ad, dropAddr (some ⟨g, 0, none⟩) cb (st + sz) = some ad := by
          unfold dropAddr
          split <;> exact ⟨_, rfl⟩
        simp only [had] at hsl8
        have HRD := Lib.hid (HROW8.out.drop (st + sz) (by rw [HB7L.out]; exact hsl))
        rw [had, HBEH.out] at HRD
        have hPl : (packs (L.drop (j + 1))).length = B.length - (st + sz) := by
          rw [← HBEH.out, List.length_drop, HB7L.out]
        have HPL := Lib.hid hPl
        have HM8 := Lib.hid (fun (o : Obj) => (Below.refl w8.heap.size w8).alloc (Nat.le_refl _) o)
        have hgd2 : ∀ e ∈ L.drop (j + 1), Good e := fun e he => HGOOD.out e (List.mem_of_mem_drop he)
        have HST := Lib.hid (scanT_packs (L.drop (j + 1)) hgd2)
        have HPT := Lib.hid (places_length (L.drop (j + 1)) 8)
        clear hPl hgd2 had
        obtain ⟨PB, hPB⟩ : ∃ PB, packs (L.drop (j + 1)) = PB := ⟨_, rfl⟩
        rw [hPB] at HRD HPL HST
        clear hPB
        go_wp2_with (with_reducible refine hold_append ?_)
        intro _
        obtain ⟨MP, hMP⟩ : ∃ MP, magicL ++ PB = MP := ⟨_, rfl⟩
        have HMP := Lib.hid hMP
        clear hMP
        go_wp2_with (at_builtin; go_must (refine wpList_append_lit byteSlice rfl _ _ rfl w8.heap.size magicL 8 rfl rfl (by simp) (reads_lit w8 _ _ _ magicL rfl (by decide)) ad (B.length - (st + sz)) (cb - (st + sz)) PB HPL.out rfl (HRD.out.keeps (Keeps.alloc _ _)) (by omega) MP HMP.out ?_))
        intro w9 a9 c9 R9 hb9
        have hb89 := (HM8.out _).trans (hb9.mono (Nat.le_succ _))
        have hb9w := HB8.out.trans (hb89.mono HB8.out.size)
        have hMPl : MP.length ≤ 300000 := by
          have h8 : magicL.length = 8 := rfl
          rw [← HMP.out, List.length_append, h8, HPL.out]
          omega
        rw [HMP.out] at HST
        have SC2 := scan_any a9 c9 MP w9 (HH.out.keeps (Keeps.below hb9w)) R9 (by omega)
        unfold ScanTop at SC2
        rw [HST.out] at SC2
        simp only at SC2
        have HB89 := Lib.hid hb89
        have HB9 := Lib.hid hb9w
        clear R9 hb9 hb89 hb9w HRD hsl8 hc
        go_wp2_with fail
        refine SC2.mono ?_
        rintro en w10 ⟨vf2, FB, rfl, hFB⟩
        obtain ⟨aB, cB, rfl, IB, MB, hb10⟩ := hFB.seen
        have hNB0 : (places 8 (L.drop (j + 1))).length = L.length - (j + 1) := by rw [HPT.out, List.length_drop]
        rw [hNB0]
        obtain ⟨NB, hNB⟩ : ∃ NB, L.length - (j + 1) = NB := ⟨_, rfl⟩
        rw [hNB] at hNB0 ⊢
        have HNB := Lib.hid hNB
        have HNB0 := Lib.hid hNB0
        have hLA : j ≤ LA.length := by
          rw [HX.out, List.length_append, places_length, List.length_take]
          omega
        have t1 : decide ((LA.length : Int) < (j : Int)) = false := decide_eq_false (by omega)
        have t2 : ((NB : Int) != (L.length : Int) - (j : Int) - 1) = false := by
          rw [bne_eq_false_iff_eq]; omega
        have t3 : ¬ ((LA.length : Int) < (j : Int)) := by omega
        have t4 : decide (LA.length < j) = false := decide_eq_false (by omega)
        have HHB := Lib.hid IB
        have HMB := Lib.hid MB
        have HB810 := Lib.hid (HB89.out.trans (hb10.mono HB89.out.size))
        have HB10 := Lib.hid (HB9.out.trans (hb10.mono HB9.out.size))
        have HLA := Lib.hid hLA
        clear SC2 hFB IB MB hb10 hNB hNB0 hLA
        go_wp2_with fail
        obtain ⟨wo, rfl⟩ : ∃ wo : World, wo = wr := ⟨_, rfl⟩
        go_loopw [20] (fun i wr => LastRel L.length w10 i wr) (fun i _ => L.length - (intOf i).toNat)
        case atStart => exact ⟨0, rfl, Nat.zero_le _, Below.refl _ _⟩
        case round =>
          obtain ⟨x, rfl, hx, hbr⟩ := hrel
          by_cases hlt : x < L.length
          · have hlti : (x : Int) < (L.length : Int) := by omega
            rcases Nat.lt_trichotomy x j with hxj | hxj | hxj
            · have hxl : x < LA.length := Nat.lt_of_lt_of_le hxj HLA.out
              have e1 : decide ((x : Int) < (j : Int)) = true := decide_eq_true (by omega)
              have e2 : decide ((j : Int) < (x : Int)) = false := decide_eq_false (by omega)
              have e3 : (x : Int) < (j : Int) := by omega
              have e5 : decide (j < x) = false := decide_eq_false (by omega)
              have e6 : decide (x < j) = true := decide_eq_true hxj
              have e4 : ¬ (j : Int) < (x : Int) := by omega
              obtain ⟨a2, c2, g2, d2⟩ := HGA8.out x hlt
              have hkE := (HGOOD.out L[x] (List.getElem_mem hlt)).1
              have kr : Keeps w8 wr := Keeps.below (HB810.out.trans (hbr.mono HB810.out.size))
              have kr10 : Keeps w10 wr := Keeps.below hbr
              obtain ⟨fb, fo, rfl, frows⟩ := HHA.out.rows.resolve_left (fun e => by have h := HMA.out.length; rw [e] at h; simp only [List.length_nil] at h; omega)
              have itF := frows x (by rw [HMA.out.length]; exact hxl)
              have enF := (HMA.out.at x hxl).1
              rw [ahead_ent HX.out hxj (by omega) HGOOD.out hxl] at enF
              have d1 := itF.data.keeps kr
              have g1 := itF.range
              unfold Item.dv at g1
              rw [enF] at d1 g1
              have SE := sameEntry_yes L[x] (itAt FA x).a (itAt FA x).cap a2 c2 hkE
              have l1 := length_entC (e := L[x]) (dv := .slice (itAt FA x).a L[x].data.length (itAt FA x).cap) hkE
              have l2 := length_entC (e := L[x]) (dv := .slice a2 L[x].data.length c2) hkE
              have hi1 : (Tryd.prog.info? 26).map (·.size) = some (entC L[x] (.slice (itAt FA x).a L[x].data.length (itAt FA x).cap)).length := by rw [l1]; kernel_rfl
              have hi2 : (Tryd.prog.info? 26).map (·.size) = some (entC L[x] (.slice a2 L[x].data.length c2)).length := by rw [l2]; kernel_rfl
              have D1k := Lib.hid d1
              have D2k := Lib.hid (d2.keeps kr)
              have r1 : ∀ W, Keeps wr W → W.rangeAt fb (fo + x * 36) (entC L[x] (.slice (itAt FA x).a L[x].data.length (itAt FA x).cap)) := fun W hW o v hv => hW _ _ (kr _ _ (g1 o v hv))
              have r2 : ∀ W, Keeps wr W → W.rangeAt gb (gf + x * 34) (entC L[x] (.slice a2 L[x].data.length c2)) := fun W hW o v hv => hW _ _ (kr _ _ (g2 o v hv))
              have kd : Keeps wr wr.drew := Keeps.drewN wr 1
              have ne : Nonempty (Of (Keeps wr)) := of_ne kd
              have HBR := Lib.hid hbr
              clear itF enF d1 d2 g1 g2 hkE frows l1 l2 hxl kr kr10 hbr
              generalize entC L[x] (.slice (itAt FA x).a L[x].data.length (itAt FA x).cap) = C1 at *
              generalize entC L[x] (.slice a2 L[x].data.length c2) = C2 at *
              go_wp2_with fail
              refine wp_region_plan [([0, 1, 2, 3, 4, 5, 6, 7, 8, 9, 10, 11, 12], some 13), ([14, 15, 16, 17, 18, 19, 20, 21, 22, 23, 24, 25, 26, 27, 28, 29, 30, 31, 32], some 33), ([34, 35, 36], none)] (fun w' => ∃ y : Of (Keeps wr), w' = y.to) (by kernel_rfl) (by kernel_rfl) (fun _ _ d _ _ h => by cases d <;> exact h) (of_mk kd) ?_
              refine plan_some (show wpQuiet _ _ _ _ (_ :: _ :: _ :: _ :: _ :: _ :: _ :: _ :: _ :: _ :: _ :: _ :: _ :: []) _ from ?_)
              repeat (first
                | (go_big_quiet_want; refine quiet_mid_of (fun w' e => (show w'.rangeAt fb (fo + x * 36) C1 from by obtain ⟨y, rfl⟩ := e; exact r1 _ y.ok)) Tryd.underlying26 rfl hi1 rfl rfl ?_; simp only [Act.put, List.setIfInBounds_toArray, List.set_cons_succ, List.set_cons_zero]; go_big_quiet_on)
                | (go_big_quiet_want; refine quiet_mid_of (fun w' e => (show w'.rangeAt gb (gf + x * 34) C2 from by obtain ⟨y, rfl⟩ := e; exact r2 _ y.ok)) Tryd.underlying26 rfl hi2 rfl rfl ?_; simp only [Act.put, List.setIfInBounds_toArray, List.set_cons_succ, List.set_cons_zero]; go_big_quiet_on)
                | go_big_quiet_step (fail)
                | quiet_step (fail))
              refine wpQuiet_nil (show wpList _ _ _ (_ :: []) _ _ from ?_)
              go_wp2_with fail
              refine (SE _ (D1k.out.keeps kd) (D2k.out.keeps kd)).mono ?_
              rintro en w6' ⟨rfl, hb6'⟩
              have kd6 : Keeps wr w6' := fun q v hq => Keeps.below hb6' _ _ (kd q v hq)
              have HB6' := Lib.hid (HBR.out.trans ((show Below wr.heap.size wr w6' from (Below.refl _ _).drew.trans hb6').mono HBR.out.size))
              go_wp2_with fail
              refine late_normal (fun _ h => h) (of_mk kd6) ?_
              refine plan_some (show wpQuiet _ _ _ _ (_ :: _ :: _ :: _ :: _ :: _ :: _ :: _ :: _ :: _ :: _ :: _ :: _ :: _ :: _ :: _ :: _ :: _ :: _ :: []) _ from ?_)
              repeat (first
                | go_big_quiet_step (fail)
                | quiet_step (fail)
                | (simp only [gt_iff_lt, e2]))
              refine wpQuiet_nil (show wpList _ _ _ (_ :: []) _ _ from ?_)
              go_wp2_with fail
              refine late_normal (fun _ h => h) (of_mk kd6) ?_
              refine plan_none (show wpQuiet _ _ _ _ (_ :: _ :: _ :: []) _ from ?_)
              repeat (first
                | go_big_quiet_step (fail)
                | quiet_step (fail))
              refine wpQuiet_nil ?_
              refine plan_nil ?_
              clear r1 r2 hi1 hi2 ne kd6 kd hb6' SE
              go_wp2_with fail
              go_roundw
              case rel => exact ⟨x + 1, by go_num, by omega, HB6'.out⟩
              case measure => simp [intOf]; omega
            · subst hxj
              have e1 : decide ((x : Int) < (x : Int)) = false := decide_eq_false (by omega)
              have e5 : decide (x < x) = false := decide_eq_false (by omega)
              have kd : Keeps wr wr.drew := Keeps.drewN wr 1
              have ne : Nonempty (Of (Keeps wr)) := of_ne kd
              have HBR := Lib.hid hbr
              have HB6' := Lib.hid (hbr.trans ((show Below wr.heap.size wr wr.drew from (Below.refl _ _).drew).mono hbr.size))
              clear hbr
              go_wp2_with fail
              refine wp_region_plan [([0, 1, 2, 3, 4, 5, 6, 7, 8, 9, 10, 11, 12], some 13), ([14, 15, 16, 17, 18, 19, 20, 21, 22, 23, 24, 25, 26, 27, 28, 29, 30, 31, 32], some 33), ([34, 35, 36], none)] (fun w' => ∃ y : Of (Keeps wr), w' = y.to) (by kernel_rfl) (by kernel_rfl) (fun _ _ d _ _ h => by cases d <;> exact h) (of_mk kd) ?_
              refine plan_some (show wpQuiet _ _ _ _ (_ :: _ :: _ :: _ :: _ :: _ :: _ :: _ :: _ :: _ :: _ :: _ :: _ :: []) _ from ?_)
              repeat (first
                | go_big_quiet_step (fail)
                | quiet_step (fail)
                | (simp only [gt_iff_lt, e1]))
              refine wpQuiet_nil (show wpList _ _ _ (_ :: []) _ _ from ?_)
              go_wp2_with fail
              refine late_normal (fun _ h => h) (of_mk kd) ?_
              refine plan_some (show wpQuiet _ _ _ _ (_ :: _ :: _ :: _ :: _ :: _ :: _ :: _ :: _ :: _ :: _ :: _ :: _ :: _ :: _ :: _ :: _ :: _ :: _ :: []) _ from ?_)
              repeat (first
                | go_big_quiet_step (fail)
                | quiet_step (fail)
                | (simp only [gt_iff_lt, e1]))
              refine wpQuiet_nil (show wpList _ _ _ (_ :: []) _ _ from ?_)
              go_wp2_with fail
              refine late_normal (fun _ h => h) (of_mk kd) ?_
              refine plan_none (show wpQuiet _ _ _ _ (_ :: _ :: _ :: []) _ from ?_)
              repeat (first
                | go_big_quiet_step (fail)
                | quiet_step (fail))
              refine wpQuiet_nil ?_
              refine plan_nil ?_
              clear ne kd
              go_wp2_with fail
              go_roundw
              case rel => exact ⟨x + 1, by go_num, by omega, HB6'.out⟩
              case measure => simp [intOf]; omega
            · obtain ⟨y, hy⟩ : ∃ y, x - j - 1 = y := ⟨_, rfl⟩
              have hyi : (x : Int) - (j : Int) - 1 = (y : Int) := by omega
              have hyP : y < (places 8 (L.drop (j + 1))).length := by rw [HNB0.out]; have := HNB.out; omega
              have hyN : y < NB := by have := HNB0.out; omega
              have e1 : decide ((x : Int) < (j : Int)) = false := decide_eq_false (by omega)
              have e2 : decide ((j : Int) < (x : Int)) = true := decide_eq_true (by omega)
              have e5 : decide (x < j) = false := decide_eq_false (by omega)
              have e6 : decide (j < x) = true := decide_eq_true hxj
              obtain ⟨a2, c2, g2, d2⟩ := HGA8.out x hlt
              have hkE := (HGOOD.out L[x] (List.getElem_mem hlt)).1
              have kr : Keeps w8 wr := Keeps.below (HB810.out.trans (hbr.mono HB810.out.size))
              have kr10 : Keeps w10 wr := Keeps.below hbr
              obtain ⟨fb, fo, rfl, frows⟩ := HHB.out.rows.resolve_left (fun e => by have h := HMB.out.length; rw [e] at h; simp only [List.length_nil] at h; omega)
              have itF := frows y (by rw [HMB.out.length]; exact hyP)
              have enF := (HMB.out.at y hyP).1
              have be := behind_ent hxj hlt HGOOD.out (by rw [hy]; exact hyP)
              simp only [hy] at be
              rw [be] at enF
              have d1 := itF.data.keeps kr10
              have g1 := itF.range
              unfold Item.dv at g1
              rw [enF] at d1 g1
              generalize itAt _ y = IY at *
              have SE := sameEntry_yes L[x] IY.a IY.cap a2 c2 hkE
              have l1 := length_entC (e := L[x]) (dv := .slice IY.a L[x].data.length IY.cap) hkE
              have l2 := length_entC (e := L[x]) (dv := .slice a2 L[x].data.length c2) hkE
              have hi1 : (Tryd.prog.info? 26).map (·.size) = some (entC L[x] (.slice IY.a L[x].data.length IY.cap)).length := by rw [l1]; kernel_rfl
              have hi2 : (Tryd.prog.info? 26).map (·.size) = some (entC L[x] (.slice a2 L[x].data.length c2)).length := by rw [l2]; kernel_rfl
              have D1k := Lib.hid d1
              have D2k := Lib.hid (d2.keeps kr)
              have r1 : ∀ W, Keeps wr W → W.rangeAt fb (fo + y * 36) (entC L[x] (.slice IY.a L[x].data.length IY.cap)) := fun W hW o v hv => hW _ _ (kr10 _ _ (g1 o v hv))
              have r2 : ∀ W, Keeps wr W → W.rangeAt gb (gf + x * 34) (entC L[x] (.slice a2 L[x].data.length c2)) := fun W hW o v hv => hW _ _ (kr _ _ (g2 o v hv))
              have kd : Keeps wr wr.drew := Keeps.drewN wr 1
              have ne : Nonempty (Of (Keeps wr)) := of_ne kd
              have HBR := Lib.hid hbr
              clear itF enF d1 d2 g1 g2 hkE frows l1 l2 kr kr10 hbr be hyP
              generalize entC L[x] (.slice IY.a L[x].data.length IY.cap) = C1 at *
              generalize entC L[x] (.slice a2 L[x].data.length c2) = C2 at *
              go_wp2_with fail
              refine wp_region_plan [([0, 1, 2, 3, 4, 5, 6, 7, 8, 9, 10, 11, 12], some 13), ([14, 15, 16, 17, 18, 19, 20, 21, 22, 23, 24, 25, 26, 27, 28, 29, 30, 31, 32], some 33), ([34, 35, 36], none)] (fun w' => ∃ y : Of (Keeps wr), w' = y.to) (by kernel_rfl) (by kernel_rfl) (fun _ _ d _ _ h => by cases d <;> exact h) (of_mk kd) ?_
              refine plan_some (show wpQuiet _ _ _ _ (_ :: _ :: _ :: _ :: _ :: _ :: _ :: _ :: _ :: _ :: _ :: _ :: _ :: []) _ from ?_)
              repeat (first
                | go_big_quiet_step (fail)
                | quiet_step (fail)
                | (simp only [gt_iff_lt, e1]))
              refine wpQuiet_nil (show wpList _ _ _ (_ :: []) _ _ from ?_)
              go_wp2_with fail
              refine late_normal (fun _ h => h) (of_mk kd) ?_
              refine plan_some (show wpQuiet _ _ _ _ (_ :: _ :: _ :: _ :: _ :: _ :: _ :: _ :: _ :: _ :: _ :: _ :: _ :: _ :: _ :: _ :: _ :: _ :: _ :: []) _ from ?_)
              repeat (first
                | (go_big_quiet_want; refine quiet_mid_of (fun w' e => (show w'.rangeAt fb (fo + y * 36) C1 from by obtain ⟨y, rfl⟩ := e; exact r1 _ y.ok)) Tryd.underlying26 rfl hi1 rfl rfl ?_; simp only [Act.put, List.setIfInBounds_toArray, List.set_cons_succ, List.set_cons_zero]; go_big_quiet_on)
                | (go_big_quiet_want; refine quiet_mid_of (fun w' e => (show w'.rangeAt gb (gf + x * 34) C2 from by obtain ⟨y, rfl⟩ := e; exact r2 _ y.ok)) Tryd.underlying26 rfl hi2 rfl rfl ?_; simp only [Act.put, List.setIfInBounds_toArray, List.set_cons_succ, List.set_cons_zero]; go_big_quiet_on)
                | go_big_quiet_step (fail)
                | quiet_step (fail)
                | (simp only [gt_iff_lt, e2]))
              refine wpQuiet_nil (show wpList _ _ _ (_ :: []) _ _ from ?_)
              go_wp2_with fail
              refine (SE _ (D1k.out.keeps kd) (D2k.out.keeps kd)).mono ?_
              rintro en w6' ⟨rfl, hb6'⟩
              have kd6 : Keeps wr w6' := fun q v hq => Keeps.below hb6' _ _ (kd q v hq)
              have HB6' := Lib.hid (HBR.out.trans ((show Below wr.heap.size wr w6' from (Below.refl _ _).drew.trans hb6').mono HBR.out.size))
              go_wp2_with fail
              refine late_normal (fun _ h => h) (of_mk kd6) ?_
              refine plan_none (show wpQuiet _ _ _ _ (_ :: _ :: _ :: []) _ from ?_)
              repeat (first
                | go_big_quiet_step (fail)
                | quiet_step (fail))
              refine wpQuiet_nil ?_
              refine plan_nil ?_
              clear r1 r2 hi1 hi2 ne kd6 kd hb6' SE
              go_wp2_with fail
              go_roundw
              case rel => exact ⟨x + 1, by go_num, by omega, HB6'.out⟩
              case measure => simp [intOf]; omega
          · have hlti : ¬ (x : Int) < (L.length : Int) := by omega
            have hb := HB10.out.trans (hbr.mono HB10.out.size)
            have LV := lives_any wr (HH.out.keeps (Keeps.below hb))
            go_wp2_with fail
            refine LV.mono ?_
            rintro en w13 ⟨rfl, hb13⟩
            go_wp2_with fail
            go_ret
            exact ⟨rfl, hb.trans (hb13.mono hb.size)⟩
end Go.Proofs.YtmcdjkfmfhbbnaaDoor
