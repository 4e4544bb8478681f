/- The law's walk: TableCopies. -/
import Derived.Test.YtahmnpbfjfllmaaPlayed
import Derived.Test.YtahmnpbfjfllmaaTCopy
import Derived.Test.YtahmnpbfjfllmaaRSameKeys
namespace Go.Proofs.Ytahmnpbfjfllmaa
open Go Go.RowKit

def CopRel (w : World) (h b0 m : Nat) (x : Value) (wr : World) : Prop :=
  ∃ (i b c : Nat) (S : Nat → SlotI) (n g : Nat), i ≤ m ∧ x = .int .i64 i ∧ TabAt wr h b c S n g ∧ n ≤ 60 + i ∧ (b = b0 ∨ w.heap.size ≤ b) ∧ Touch (fun y => y = h ∨ y = b0) w wr
theorem rise_eq {S : Nat → SlotI} {c : Nat} {L M : List SlotI} (h : RiseOf S c L) (k : RiseOf S c M) : L = M :=
  rise_unique (fun s : SlotI => s.key) h.key k.key h.up k.up fun x => (h.mem x).trans (k.mem x).symm
theorem rise_keys {S : Nat → SlotI} {c : Nat} {L : List SlotI} (h : RiseOf S c L) : ∀ k ∈ L.map (·.key), k.length = 32 := fun k hk => by
  obtain ⟨x, hx, rfl⟩ := List.mem_map.1 hk
  exact h.key x hx
set_option maxHeartbeats 4000000 in
set_option maxRecDepth 40000 in
theorem tableCopies_walk (a : Option Addr) (cap : Nat) (l0 : List Call) (a2 : Option Addr) (cap2 : Nat) (m0 : List Call) (w : World) (hd : Dos w a cap l0) (hm : Dos w a2 cap2 m0) :
    Calls Try.prog 9 #[.slice a l0.length cap, .slice a2 m0.length cap2] w fun e w' => e = .returned (.bool true) ∧ Below w.heap.size w w' := by
  have PL := played_any a cap l0 60 (by decide) w hd
  have HD := Lib.hid hd
  have HM0 := Lib.hid hm
  clear hd hm
  go_enter Try.func9, Try.ntmps9
  go_wp2_with fail
  refine PL.mono ?_
  rintro e w1 ⟨h, b, c, S, n, g, rfl, t1, hiff, hn, hh, hb, hb1⟩
  have CP := copy_any t1
  have hl1 := t1.head.lt
  have hl2 := t1.look.rows.lt
  have HIFF := Lib.hid hiff
  have HT1 := Lib.hid t1
  have HB1 := Lib.hid hb1
  clear PL hiff t1 hb1
  go_wp2_with fail
  refine CP.mono ?_
  rintro e w2 ⟨h', b', rfl, c2, hh', hb', hb2⟩
  have FW := few_any a2 cap2 m0 60 60 w2 rfl (HM0.out.keeps (Keeps.below (HB1.out.trans (hb2.mono HB1.out.size)))) (by decide)
  have hl3 := c2.head.lt
  have hl4 := c2.look.rows.lt
  have hne' := c2.look.ne
  have HT2 := Lib.hid (HT1.out.below hb2)
  have HB2 := Lib.hid (HB1.out.trans (hb2.mono HB1.out.size))
  have HM := Lib.hid (HM0.out.take 60)
  have hlen : (m0.take 60).length ≤ 60 := by rw [List.length_take]; omega
  have hs2 := hb2.size
  clear CP hb2 HT1 HB1 HM0
  generalize m0.take 60 = mm at *
  go_wp2_with fail
  refine FW.mono ?_
  rintro e w' ⟨rfl, rfl⟩
  have LE := len_any c2
  have LE' := len_any HT2.out
  have CA := cap_any c2
  have CA' := cap_any HT2.out
  have DE := dead_any c2
  have DE' := dead_any HT2.out
  have KE := keys_any c2
  have HC2 := Lib.hid c2
  clear FW c2
  go_wp2_with fail
  refine LE.mono ?_
  rintro e w' ⟨rfl, rfl⟩
  go_wp2_with fail
  refine LE'.mono ?_
  rintro e w' ⟨rfl, rfl⟩
  go_wp2_with fail
  refine CA.mono ?_
  rintro e w' ⟨rfl, rfl⟩
  go_wp2_with fail
  refine CA'.mono ?_
  rintro e w' ⟨rfl, rfl⟩
  go_wp2_with fail
  refine DE.mono ?_
  rintro e w' ⟨rfl, rfl⟩
  go_wp2_with fail
  refine DE'.mono ?_
  rintro e w' ⟨rfl, rfl⟩
  clear LE LE' CA CA' DE DE'
  go_wp2_with fail
  refine KE.mono ?_
  rintro e w3 ⟨ka, kc, R, rfl, hR, hK, hb3, _⟩
  have HT3 := Lib.hid (HT2.out.below hb3)
  have HC3 := Lib.hid (HC2.out.below hb3)
  have HB3 := Lib.hid (HB2.out.trans (hb3.mono HB2.out.size))
  have hs3 := hb3.size
  have KE' := keys_any HT3.out
  have HK := Lib.hid hK
  clear KE HT2 HC2 HB2 hb3 hK
  go_wp2_with fail
  refine KE'.mono ?_
  rintro e w4 ⟨ka', kc', R', rfl, hR', hK', hb4, _⟩
  obtain rfl := rise_eq hR hR'
  have SK := sameKeys_any w4 ka ka' kc kc' (R.map (·.key)) (rise_keys hR) (HK.out.below hb4) hK'
  rw [List.length_map] at SK
  have HT4 := Lib.hid (HT3.out.below hb4)
  have HC4 := Lib.hid (HC3.out.below hb4)
  have HB4 := Lib.hid (HB3.out.trans (hb4.mono HB3.out.size))
  have hs4 := hb4.size
  have HR := Lib.hid hR
  clear KE' HT3 HC3 HB3 hb4 hK' HK hR hR'
  go_wp2_with fail
  refine SK.mono ?_
  rintro e w5 ⟨rfl, hb5⟩
  have HT5 := Lib.hid (HT4.out.below hb5)
  have HC5 := Lib.hid (HC4.out.below hb5)
  have HB5 := Lib.hid (HB4.out.trans (hb5.mono HB4.out.size))
  have hs5 := hb5.size
  have KE := keys_any HT5.out
  clear SK HT4 HC4 HB4 hb5
  go_wp2_with fail
  refine KE.mono ?_
  rintro e w6 ⟨ak, ck, L, rfl, hL, hKL, hb6, hak⟩
  obtain rfl := rise_eq HR.out hL
  have HT6 := Lib.hid (HT5.out.below hb6)
  have HB6 := Lib.hid (HB5.out.trans (hb6.mono HB5.out.size))
  have HKL := Lib.hid hKL
  have HAK := Lib.hid hak
  have c6 := HC5.out.below hb6
  have hs6 := hb6.size
  clear KE HT5 HC5 HB5 hb6 hKL hL hak
  go_wp2_with fail
  go_loopw [8] (fun y wr => CopRel w6 h' b' mm.length y wr) (fun y _ => mm.length - (intOf y).toNat)
  case atStart => exact ⟨0, b', c, S, n, g, Nat.zero_le _, rfl, c6, by omega, .inl rfl, Touch.refl _ _⟩
  case round =>
    clear c6
    obtain ⟨i, bb, cc, T, nn, gg, hi, rfl, tc, hnn, hbb, htr⟩ := hrel
    have HBR := Lib.hid (HB6.out.trans (htr.below (B := w.heap.size) (fun y e => by rcases e with e | e <;> omega) HB6.out.size))
    have hdr := HM.out.keeps (Keeps.below HBR.out)
    have hmfit := hdr.fits
    have hmroom := hdr.room
    by_cases hlt : i < mm.length
    · have hkey := hdr.key i hlt
      obtain ⟨b0, off, rfl, hrows⟩ := hdr.rows.resolve_left (fun e => by rw [e] at hlt; simp at hlt)
      have hr := hrows i hlt
      have ck := rangeAt_cell hr (callC_kind _)
      have cv := rangeAt_cell hr (callC_val hkey)
      have ckey := rangeAt_part hr 1 32
      rw [callC_key hkey] at ckey
      rw [Nat.add_zero] at ck
      have hiM : (Try.prog.info? 23).map (·.size) = some ((callAt mm i).key.map U8).length := by rw [List.length_map, hkey]; kernel_rfl
      have HTR := Lib.hid htr
      have hhlt := tc.head.lt
      clear hr hrows hdr htr
      generalize callAt mm i = d at *
      by_cases hk1 : d.kind = 1
      · have hkb : (d.kind == 1) = true := by simp [hk1]
        have DEL : Calls Try.prog 34 #[.pointer (some ⟨h', 0, none⟩), .agg (d.key.map U8).toArray] wr fun e w' => ∃ r, e = .returned (.bool r) ∧ ∃ b' c' S' n' g', TabAt w' h' b' c' S' n' g' ∧ n' ≤ nn ∧ (b' = bb ∨ wr.heap.size ≤ b') ∧ Touch (fun y => y = h' ∨ y = bb) wr w' := by
          by_cases hex : ∃ v, Tab.Has T cc d.key v
          · obtain ⟨v, hv⟩ := hex
            exact (del_hit tc d.key hkey v hv (by omega)).mono fun e w' ⟨h1, b', c', S', n', g', q1, _, q3, q4, q5⟩ => ⟨true, h1, b', c', S', n', g', q1, q3, q4, q5⟩
          · exact (del_miss tc d.key hkey fun v hv => hex ⟨v, hv⟩).mono fun e w' ⟨h1, h2⟩ => ⟨false, h1, bb, cc, T, nn, gg, tc.below h2, Nat.le_refl _, .inl rfl, .of_below h2⟩
        clear cv
        generalize (d.key.map U8) = M at *
        go_wp2_with (with_reducible refine at_load 23 ?_; go_must (refine wpList_load_mid rfl 23 _ rfl b0 (off + i * 34 + 1) rfl M _ ckey Try.underlying23 rfl hiM ?_))
        refine DEL.mono ?_
        rintro e w7 ⟨r, rfl, b9, c9, S9, n9, g9, t9, hn9, hb9, ht9⟩
        go_wp2
        go_roundw
        case rel => exact ⟨i + 1, b9, c9, S9, n9, g9, by omega, by go_num, t9, by omega, (by have := HTR.out.size; rcases hb9 with e | e <;> omega), HTR.out.trans' ht9 fun y e => (by rcases e with e | e; exact .inl (.inl e); rcases hbb with e2 | e2; exact .inl (.inr (e.trans e2)); exact .inr (by omega))⟩
        case measure => simp [intOf]; omega
      · have hkb : (d.kind == 1) = false := by simpa using hk1
        have PUT := fun (w' : World) (q : TabAt w' h' bb cc T nn gg) (v : Int) => put_any q d.key hkey v (by omega)
        generalize (d.key.map U8) = M at *
        go_wp2_with fail
        refine wp_region_mid 12 (by kernel_rfl) (by kernel_rfl) rfl ?_
        simp only [List.take_succ_cons, List.take_zero, List.drop_zero]
        repeat (first
          | (go_big_quiet_want; refine quiet_mid_of (fun w' e => (show w'.rangeAt b0 (off + i * 34 + 1) M from by obtain ⟨_, rfl⟩ := e; exact ckey)) Try.underlying23 rfl hiM rfl rfl ?_; simp only [Act.put, List.setIfInBounds_toArray, List.set_cons_succ, List.set_cons_zero]; go_big_quiet_on)
          | go_big_quiet_step (fail)
          | quiet_step (fail))
        refine wpQuiet_nil ?_
        intro jj
        have tj : Touch (fun _ => False) wr (wr.drewN jj) := (Touch.refl _ _).drewN jj
        have PUTJ := PUT _ (tc.touch tj id id)
        clear PUT ck cv ckey
        go_wp2_with fail
        refine (PUTJ _).mono ?_
        rintro e w7 ⟨rfl, b9, c9, S9, n9, g9, t9, _, hn9, hb9, ht9⟩
        go_wp2_with fail
        refine midPost_normal (rest_quiet (by kernel_rfl) ?_)
        simp only [List.drop_succ_cons, List.drop_nil]
        refine wpQuiet_nil ?_
        intro j2
        go_wp2
        go_roundw
        case rel =>
          have hsz : (wr.drewN jj).heap.size = wr.heap.size := rfl
          have tk : Touch (fun _ => False) w7 (w7.drewN j2) := (Touch.refl _ _).drewN j2
          have htj := (HTR.out.trans' (tj.mono (G := fun y => y = h' ∨ y = bb) fun _ e => e.elim) fun y e => (by rcases e with e | e; exact .inl (.inl e); rcases hbb with e2 | e2; exact .inl (.inr (e.trans e2)); exact .inr (by omega)))
          refine ⟨i + 1, b9, c9, S9, n9, g9, by omega, by go_num, t9.touch tk id id, by omega, (by have := HTR.out.size; rcases hb9 with e | e <;> omega), (htj.trans' ht9 fun y e => (by rcases e with e | e; exact .inl (.inl e); rcases hbb with e2 | e2; exact .inl (.inr (e.trans e2)); exact .inr (by omega))).drewN j2⟩
        case measure => simp [intOf]; omega
    · obtain rfl : i = mm.length := by omega
      have HTR := Lib.hid htr
      have T8 := Lib.hid (HT6.out.touch htr (by omega) (by omega))
      have HK8 := Lib.hid (show RowsC keyC 32 wr ak ck (R.map (·.key)) from HKL.out.touch htr fun ad e => by have := HAK.out ad e; omega)
      have PL := played_any a cap l0 60 (by decide) wr (HD.out.keeps (Keeps.below HBR.out))
      clear hdr tc htr HT6 HKL HTR
      clear hmfit hmroom hlt hbb HM hi
      go_wp2_with fail
      refine PL.mono ?_
      rintro e w9 ⟨h9, b9, c9, S9, n9, g9, rfl, t9, hiff9, hn9, hh9, hb9, hbw9⟩
      have T9 := Lib.hid (T8.out.below hbw9)
      have HK9 := Lib.hid (HK8.out.below hbw9)
      have TA := Lib.hid t9
      have HI9 := Lib.hid hiff9
      have HB9 := Lib.hid (HBR.out.trans (hbw9.mono HBR.out.size))
      have hfit := HK8.out.fits
      have hroom := HK8.out.room
      rw [List.length_map] at hfit
      clear PL t9 hiff9 hbw9 T8 HK8 HBR
      go_wp2_with fail
      go_loopw [10] (fun y wr => SamRel w9 R.length y wr) (fun y _ => R.length - (intOf y).toNat)
      case atStart => exact ⟨0, Nat.zero_le _, rfl, Below.refl _ _⟩
      case round =>
        obtain ⟨i, hi, rfl, hbr⟩ := hrel
        by_cases hlt : i < R.length
        · obtain ⟨bk, ok, rfl, hkrows⟩ := (HK9.out.below hbr).rows.resolve_left (fun e => by
            have := congrArg List.length e
            rw [List.length_map] at this
            simp at this
            rw [this] at hlt
            simp at hlt)
          have hkr : wr.rangeAt bk (ok + i * 32) (R[i].key.map U8) := by
            have := hkrows i (by rw [List.length_map]; exact hlt)
            rw [List.getElem_map] at this
            exact this
          have hkey := HR.out.key R[i] (List.getElem_mem hlt)
          obtain ⟨p, hp, hst, hpe⟩ := (HR.out.mem R[i]).1 (List.getElem_mem hlt)
          obtain ⟨V, hV⟩ : ∃ V, lastOf (l0.take 60) R[i].key = some V := ⟨(S p).val, (HIFF.out _ _).1 ⟨p, hp, hst, by rw [hpe], rfl⟩⟩
          have G1 := get_any (T9.out.below hbr) R[i].key hkey (some V) fun v => by rw [HIFF.out, hV]
          have G2 := fun (w' : World) (q : TabAt w' h9 b9 c9 S9 n9 g9) => get_any q R[i].key hkey (some V) fun v => by rw [HI9.out, hV]
          have hiM : (Try.prog.info? 23).map (·.size) = some (R[i].key.map U8).length := by rw [List.length_map, hkey]; kernel_rfl
          have HBR := Lib.hid hbr
          clear hkrows hkey hpe hV hbr
          generalize R[i].key.map U8 = M at *
          go_wp2_with (with_reducible refine at_load 23 ?_; go_must (refine wpList_load_mid rfl 23 _ rfl bk (ok + i * 32) rfl M _ hkr Try.underlying23 rfl hiM ?_))
          refine G1.mono ?_
          rintro e w10 ⟨rfl, hb10⟩
          have HB10 := Lib.hid (HBR.out.trans (hb10.mono HBR.out.size))
          have hkr2 : w10.rangeAt bk (ok + i * 32) M := fun o v hv => Keeps.below hb10 _ _ (hkr o v hv)
          have G3 := G2 w10 (TA.out.below HB10.out)
          clear G1 G2 hb10 hkr HBR
          go_wp2_with (with_reducible refine at_load 23 ?_; go_must (refine wpList_load_mid rfl 23 _ rfl bk (ok + i * 32) rfl M _ hkr2 Try.underlying23 rfl hiM ?_))
          refine G3.mono ?_
          rintro e w11 ⟨rfl, hb11⟩
          have HB11 := Lib.hid (HB10.out.trans (hb11.mono HB10.out.size))
          clear G3 hb11 hkr2
          go_wp2
          go_roundw
          case rel => exact ⟨i + 1, by omega, by go_num, HB11.out⟩
          case measure => simp [intOf]; omega
        · obtain rfl : i = R.length := by omega
          have KE := keys_any (T9.out.below hbr)
          have HBR := Lib.hid (HB9.out.trans (hbr.mono HB9.out.size))
          have HKR := Lib.hid (HK9.out.below hbr)
          clear hbr hlt hi
          go_wp2_with fail
          refine KE.mono ?_
          rintro e w12 ⟨ae, ce, E, rfl, hE, hKE, hb12, _⟩
          obtain rfl := rise_eq HR.out hE
          have SK := sameKeys_any w12 ae ak ce ck (R.map (·.key)) (rise_keys hE) hKE (HKR.out.below hb12)
          rw [List.length_map] at SK
          have HB12 := Lib.hid (HBR.out.trans (hb12.mono HBR.out.size))
          clear KE hE hKE hb12
          go_wp2_with fail
          refine SK.mono ?_
          rintro e w13 ⟨rfl, hb13⟩
          go_wp2_with fail
          refine (lives_any w13).mono ?_
          rintro e w14 ⟨rfl, hb14⟩
          go_wp2
          go_ret
          have q := HB12.out.trans (hb13.mono HB12.out.size)
          exact ⟨rfl, q.trans (hb14.mono q.size)⟩
end Go.Proofs.Ytahmnpbfjfllmaa
