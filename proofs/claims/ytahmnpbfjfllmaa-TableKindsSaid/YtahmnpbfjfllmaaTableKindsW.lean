/- The law's walk: TableKinds. -/
import Derived.Test.YtahmnpbfjfllmaaKinds
import Derived.Test.YtahmnpbfjfllmaaTLives
namespace Go.Proofs.Ytahmnpbfjfllmaa
open Go Go.RowKit

def farKey : List (BitVec 8) := 255#8 :: 254#8 :: 253#8 :: 252#8 :: 251#8 :: List.replicate 27 0#8
theorem built_far : Program.built Try.prog 23 [(0, .int .u8 255), (1, .int .u8 254), (2, .int .u8 253), (3, .int .u8 252), (4, .int .u8 251)] = some (farKey.map U8).toArray := by kernel_rfl
def KindsRel (w : World) (l0 : List (List (BitVec 8))) (l1 l2 : List (List Int)) (hA hB : Nat) (x : Value) (wr : World) : Prop :=
  ∃ (i : Nat) (bA cA : Nat) (SA : Nat → Pl.SlotI) (gA bB cB : Nat) (SB : Nat → Co.SlotI) (gB n : Nat), i ≤ l0.length ∧ i ≤ l1.length ∧ i ≤ l2.length ∧ i ≤ 50 ∧ x = .int .i64 i ∧ Pl.TabAt wr hA bA cA SA n gA ∧ Co.TabAt wr hB bB cB SB n gB ∧
    (∀ k, (∃ v, Tab.Has SA cA k v) ↔ (∃ v, Tab.Has SB cB k v)) ∧ n ≤ i ∧ hA ≠ bB ∧ bA ≠ hB ∧ bA ≠ bB ∧ w.heap.size ≤ bA ∧ w.heap.size ≤ bB ∧ Below w.heap.size w wr
set_option maxHeartbeats 4000000 in
set_option maxRecDepth 40000 in
theorem tableKinds_walk (a0 : Option Addr) (cap0 : Nat) (l0 : List (List (BitVec 8))) (a1 : Option Addr) (cap1 : Nat) (l1 : List (List Int)) (a2 : Option Addr) (cap2 : Nat) (l2 : List (List Int)) (w : World)
    (h0 : Keys w a0 cap0 l0) (h1 : Places w a1 cap1 l1) (h2 : Counts w a2 cap2 l2) :
    Calls Try.prog 4 #[.slice a0 l0.length cap0, .slice a1 l1.length cap1, .slice a2 l2.length cap2] w fun e w' => e = .returned (.bool true) ∧ Below w.heap.size w w' := by
  go_enter Try.func4, Try.ntmps4
  go_wp2_with fail
  refine (Pl.tnew_any w).mono ?_
  rintro e w1 ⟨hA, bA, rfl, tA, hhA, hbA, hbw1⟩
  go_wp2_with fail
  refine (Co.tnew_any w1).mono ?_
  rintro e w2 ⟨hB, bB, rfl, tB, hhB, hbB, hbw2⟩
  have la1 := heap_lt tA.head
  have la2 := tA.look.rows.lt
  have tA2 := tA.below hbw2
  have hB2 := hbw1.trans (hbw2.mono hbw1.size)
  have hsz := hbw1.size
  have f0 := h0.fits
  have f1 := h1.fits
  have f2 := h2.fits
  have r0 := h0.room
  have r1 := h1.room
  have r2 := h2.room
  have H0 := Lib.hid h0
  have H1 := Lib.hid h1
  have H2 := Lib.hid h2
  have HAB : Hid (hA ≠ hB ∧ w.heap.size ≤ hA ∧ w.heap.size ≤ hB) := Lib.hid ⟨by omega, hhA, by omega⟩
  have START := Lib.hid (show KindsRel w l0 l1 l2 hA hB (.int .i64 ((0 : Nat) : Int)) w2 from ⟨0, bA, 8, _, 0, bB, 8, _, 0, 0, by omega, by omega, by omega, by omega, rfl, tA2, tB, fun k => ⟨fun ⟨v, q⟩ => (Tab.has_empty _ rfl 8 k v q).elim, fun ⟨v, q⟩ => (Tab.has_empty _ rfl 8 k v q).elim⟩, by omega, by omega, by omega, by omega, by omega, by omega, hB2⟩)
  clear tA tB hhA hbA hbw1 hhB hbB hbw2 la1 la2 tA2 hB2 hsz h0 h1 h2
  go_wp2_with fail
  go_loopw [9] (fun x wr => KindsRel w l0 l1 l2 hA hB x wr) (fun x _ => 50 - (intOf x).toNat)
  case atStart => exact START.out
  case round =>
    clear START
    obtain ⟨i, bA, cA, SA, gA, bB, cB, SB, gB, n, i0, i1, i2, i3, rfl, tA, tB, hiff, hn, q1, q2, q3, q4, q5, hbr⟩ := hrel
    by_cases hall : i < l0.length ∧ i < l1.length ∧ i < l2.length ∧ i < 50
    · obtain ⟨c0, c1, c2, c3⟩ := hall
      obtain ⟨b0, o0, rfl, rw0⟩ := H0.out.rows.resolve_left (fun e => by rw [e] at c0; simp at c0)
      obtain ⟨b1, o1, rfl, rw1⟩ := H1.out.rows.resolve_left (fun e => by rw [e] at c1; simp at c1)
      obtain ⟨b2, o2, rfl, rw2⟩ := H2.out.rows.resolve_left (fun e => by rw [e] at c2; simp at c2)
      have hk : (l0.getD i []).length = 32 := H0.out.ok i c0
      have hp : (l1.getD i []).length = 3 := H1.out.ok i c1
      have hc : (l2.getD i []).length = 2 := H2.out.ok i c2
      have CK := fun (W : World) (hb : Below w.heap.size w W) => (show W.rangeAt b0 (o0 + i * 32) ((l0.getD i []).map U8) from fun j v hv => Keeps.below hb _ _ (rw0 i c0 j v hv))
      have CP := fun (W : World) (hb : Below w.heap.size w W) => (show W.rangeAt b1 (o1 + i * 3) (Pl.ints (l1.getD i [])) from fun j v hv => Keeps.below hb _ _ (rw1 i c1 j v hv))
      have CC := fun (W : World) (hb : Below w.heap.size w W) => (show W.rangeAt b2 (o2 + i * 2) (Co.ints (l2.getD i [])) from fun j v hv => Keeps.below hb _ _ (rw2 i c2 j v hv))
      clear rw0 rw1 rw2
      generalize l0.getD i [] = k at *
      generalize l1.getD i [] = pv at *
      generalize l2.getD i [] = cv at *
      have hik : (Try.prog.info? 23).map (·.size) = some (k.map U8).length := by rw [List.length_map, hk]; kernel_rfl
      have hip : (Try.prog.info? 33).map (·.size) = some (Pl.ints pv).length := by rw [Pl.ints, List.length_map, hp]; kernel_rfl
      have hic : (Try.prog.info? 37).map (·.size) = some (Co.ints cv).length := by rw [Co.ints, List.length_map, hc]; kernel_rfl
      have PUTA := fun (W : World) (q : Pl.TabAt W hA bA cA SA n gA) => Pl.put_exact q k hk pv hp (by omega)
      have PUTB := fun (W : World) (q : Co.TabAt W hB bB cB SB n gB) => Co.put_exact q k hk cv hc (by omega)
      have GETA := fun (W : World) (b c n g : Nat) (S : Nat → Pl.SlotI) (q : Pl.TabAt W hA b c S n g) (h : ∀ v, Tab.Has S c k v ↔ some pv = some v) => Pl.get_any q k hk (some pv) h
      have GETB := fun (W : World) (b c n g : Nat) (S : Nat → Co.SlotI) (q : Co.TabAt W hB b c S n g) (h : ∀ v, Tab.Has S c k v ↔ some cv = some v) => Co.get_any q k hk (some cv) h
      simp only [Option.getD_some, Option.isSome_some] at GETA GETB
      have NP := run_neq_place pv hp
      have NC := run_neq_count cv hc
      have hiZ := Pl.val_size pv hp
      have hoZ : (Pl.ints pv).toArray.all (·.oneCell') = true := all_oneCell_toArray (Pl.one_ints _)
      have hzZ : (Pl.ints Pl.zeroVal).toArray.size = (Pl.ints pv).toArray.size := by rw [List.size_toArray, List.size_toArray, Pl.ints, Pl.ints, List.length_map, List.length_map, hp]; rfl
      have hz := Pl.zero_val
      have hiY := Co.val_size cv hc
      have hoY : (Co.ints cv).toArray.all (·.oneCell') = true := all_oneCell_toArray (Co.one_ints _)
      have hzY : (Co.ints Co.zeroVal).toArray.size = (Co.ints cv).toArray.size := by rw [List.size_toArray, List.size_toArray, Co.ints, Co.ints, List.length_map, List.length_map, hc]; rfl
      have hy := Co.zero_val
      generalize k.map U8 = M at *
      generalize Pl.ints pv = PV at *
      generalize Co.ints cv = CV at *
      generalize (Pl.ints Pl.zeroVal).toArray = Z at *
      generalize (Co.ints Co.zeroVal).toArray = Y at *
      have HNP := Lib.hid NP
      have HNC := Lib.hid NC
      have HZ := Lib.hid (And.intro hiZ (And.intro hoZ (And.intro hzZ hz)))
      have HY := Lib.hid (And.intro hiY (And.intro hoY (And.intro hzY hy)))
      have HIFF := Lib.hid hiff
      have GA := Lib.hid GETA
      have GB := Lib.hid GETB
      have HCC := Lib.hid CC
      have HCP := Lib.hid CP
      have HCK := Lib.hid CK
      have PB := Lib.hid PUTB
      clear NP NC hiZ hoZ hzZ hz hiY hoY hzY hy hiff GETA GETB CC CP CK PUTB hk hp hc
      have ck := HCK.out _ hbr
      have cp := HCP.out _ hbr
      go_wp2_with fail
      refine wp_region_mid 9 (by kernel_rfl) (by kernel_rfl) rfl ?_
      simp only [List.take_succ_cons, List.take_zero, List.drop_zero]
      repeat (first
        | (go_big_quiet_want; refine quiet_mid_of (fun w' e => (show w'.rangeAt b0 (o0 + i * 32) M from by obtain ⟨_, rfl⟩ := e; exact ck)) Try.underlying23 rfl hik rfl rfl ?_; simp only [Act.put, List.setIfInBounds_toArray, List.set_cons_succ, List.set_cons_zero]; go_big_quiet_on)
        | (go_big_quiet_want; refine quiet_mid_of (fun w' e => (show w'.rangeAt b1 (o1 + i * 3) PV from by obtain ⟨_, rfl⟩ := e; exact cp)) Try.underlying33 rfl hip rfl rfl ?_; simp only [Act.put, List.setIfInBounds_toArray, List.set_cons_succ, List.set_cons_zero]; go_big_quiet_on)
        | go_big_quiet_step (fail)
        | quiet_step (fail))
      refine wpQuiet_nil ?_
      intro jj
      have tj : Touch (fun _ => False) wr (wr.drewN jj) := (Touch.refl _ _).drewN jj
      have PA := PUTA _ (tA.touch tj id id)
      have tBj := Lib.hid (tB.touch tj id id)
      have HBJ := Lib.hid (below_drewN hbr jj)
      have hltA := heap_lt tA.head
      have hltB := heap_lt tB.head
      have hltb := tB.look.rows.lt
      have hsz0 : (wr.drewN jj).heap.size = wr.heap.size := rfl
      clear PUTA ck cp hbr tA tB tj
      go_wp2_with fail
      refine PA.mono ?_
      rintro e w3 ⟨rfl, bA', cA', SA', nA, gA', tA', hiffA, hnA, hbA', htA, hnumA⟩
      go_wp2_with fail
      refine midPost_normal (rest_quiet (by kernel_rfl) ?_)
      simp only [List.drop_succ_cons, List.drop_nil]
      refine wpQuiet_nil ?_
      intro j2
      have tk : Touch (fun _ => False) w3 (w3.drewN j2) := (Touch.refl _ _).drewN j2
      have hAB := HAB.out.1
      have tA4 := Lib.hid (tA'.touch tk id id)
      have tB4 := (tBj.out.touch htA (by rintro (e | e) <;> omega) (by rintro (e | e) <;> omega)).touch tk id id
      have hb4 : Below w.heap.size w (w3.drewN j2) := below_drewN (HBJ.out.trans (htA.below (fun y e => by have := HAB.out; rcases e with e | e <;> omega) HBJ.out.size)) j2
      have q3' : bA' ≠ hB ∧ bA' ≠ bB ∧ w.heap.size ≤ bA' := by
        have := HBJ.out.size
        rcases hbA' with rfl | e
        · exact ⟨q2, q3, q4⟩
        · exact ⟨by omega, by omega, by omega⟩
      have HA1 := Lib.hid hiffA
      have HNA := Lib.hid hnumA
      have HQ := Lib.hid q3'
      clear tA' tBj htA tk hiffA hnumA HBJ hbA' q3' PA hltA hltB hltb hsz0
      generalize w3.drewN j2 = w4 at *
      have ck := HCK.out _ hb4
      have cc := HCC.out _ hb4
      have HB4 := Lib.hid hb4
      have PBB := PB.out
      clear PB
      go_wp2_with fail
      refine wp_region_mid 9 (by kernel_rfl) (by kernel_rfl) rfl ?_
      simp only [List.take_succ_cons, List.take_zero, List.drop_zero]
      repeat (first
        | (go_big_quiet_want; refine quiet_mid_of (fun w' e => (show w'.rangeAt b0 (o0 + i * 32) M from by obtain ⟨_, rfl⟩ := e; exact ck)) Try.underlying23 rfl hik rfl rfl ?_; simp only [Act.put, List.setIfInBounds_toArray, List.set_cons_succ, List.set_cons_zero]; go_big_quiet_on)
        | (go_big_quiet_want; refine quiet_mid_of (fun w' e => (show w'.rangeAt b2 (o2 + i * 2) CV from by obtain ⟨_, rfl⟩ := e; exact cc)) Try.underlying37 rfl hic rfl rfl ?_; simp only [Act.put, List.setIfInBounds_toArray, List.set_cons_succ, List.set_cons_zero]; go_big_quiet_on)
        | go_big_quiet_step (fail)
        | quiet_step (fail))
      refine wpQuiet_nil ?_
      intro jj
      have tj : Touch (fun _ => False) w4 (w4.drewN jj) := (Touch.refl _ _).drewN jj
      have PB5 := PBB _ (tB4.touch tj id id)
      have tA5 := Lib.hid (tA4.out.touch tj id id)
      have HBJ := Lib.hid (below_drewN HB4.out jj)
      have hltA := heap_lt tA4.out.head
      have hltB := heap_lt tB4.head
      have hlta := tA4.out.look.rows.lt
      have hltb := tB4.look.rows.lt
      have hsz0 : (w4.drewN jj).heap.size = w4.heap.size := rfl
      clear PBB ck cc tA4 tB4 tj HB4 hb4
      go_wp2_with fail
      refine PB5.mono ?_
      rintro e w5 ⟨rfl, bB', cB', SB', nB, gB', tB', hiffB, hnB, hbB', htB, hnumB⟩
      go_wp2_with fail
      refine midPost_normal (rest_quiet (by kernel_rfl) ?_)
      simp only [List.drop_succ_cons, List.drop_nil]
      refine wpQuiet_nil ?_
      intro j3
      have tk : Touch (fun _ => False) w5 (w5.drewN j3) := (Touch.refl _ _).drewN j3
      have hq := HQ.out
      have tB6 := tB'.touch tk id id
      have tA6 := (tA5.out.touch htB (by rintro (e | e) <;> omega) (by rintro (e | e) <;> omega)).touch tk id id
      have hb6 : Below w.heap.size w (w5.drewN j3) := below_drewN (HBJ.out.trans (htB.below (fun y e => by have := HAB.out; rcases e with e | e <;> omega) HBJ.out.size)) j3
      have q6 : hA ≠ bB' ∧ bA' ≠ hB ∧ bA' ≠ bB' ∧ w.heap.size ≤ bA' ∧ w.heap.size ≤ bB' := by
        have := HBJ.out.size
        rcases hbB' with rfl | e
        · exact ⟨q1, hq.1, hq.2.1, hq.2.2, q5⟩
        · exact ⟨by omega, hq.1, by omega, hq.2.2, by omega⟩
      have hnn : nA = nB ∧ nA ≤ i + 1 := by
        refine ⟨?_, by omega⟩
        by_cases hx : ∃ v, Tab.Has SA cA k v
        · rw [(HNA.out.1 hx).1, (hnumB.1 ((HIFF.out k).1 hx)).1]
        · rw [(HNA.out.2 hx).1, (hnumB.2 (fun q => hx ((HIFF.out k).2 q))).1]
      have hif : ∀ k', (∃ v, Tab.Has SA' cA' k' v) ↔ (∃ v, Tab.Has SB' cB' k' v) := fun k' => by
        by_cases hk' : k' = k
        · exact ⟨fun _ => ⟨cv, (hiffB _ _).2 (.inl ⟨hk', rfl⟩)⟩, fun _ => ⟨pv, (HA1.out _ _).2 (.inl ⟨hk', rfl⟩)⟩⟩
        · refine ⟨fun ⟨v, q⟩ => ?_, fun ⟨v, q⟩ => ?_⟩
          · obtain ⟨v', q'⟩ := (HIFF.out k').1 ⟨v, (((HA1.out _ _).1 q).resolve_left fun e => hk' e.1).2⟩
            exact ⟨v', (hiffB _ _).2 (.inr ⟨hk', q'⟩)⟩
          · obtain ⟨v', q'⟩ := (HIFF.out k').2 ⟨v, (((hiffB _ _).1 q).resolve_left fun e => hk' e.1).2⟩
            exact ⟨v', (HA1.out _ _).2 (.inr ⟨hk', q'⟩)⟩
      have GA6 := GA.out _ _ _ _ _ _ tA6 fun v => (HA1.out k v).trans ⟨fun e => by rcases e with e | e; exact congrArg some e.2.symm; exact (e.1 rfl).elim, fun e => .inl ⟨rfl, (Option.some.inj e).symm⟩⟩
      have GBF : ∀ v, Tab.Has SB' cB' k v ↔ some cv = some v := fun v => (hiffB k v).trans ⟨fun e => by rcases e with e | e; exact congrArg some e.2.symm; exact (e.1 rfl).elim, fun e => .inl ⟨rfl, (Option.some.inj e).symm⟩⟩
      have HNN := Lib.hid hnn
      have HIF := Lib.hid hif
      have HQ6 := Lib.hid q6
      have HGBF := Lib.hid GBF
      clear hnn hif q6 GBF tB' tA5 htB tk hiffB hnumB HBJ hbB' PB5 hltA hltB hlta hltb hsz0 HIFF HNA HA1 HQ hq GA hnA hnB q1 q2 q3 q4 q5
      obtain ⟨rfl, hni⟩ := HNN.out
      clear HNN
      generalize w5.drewN j3 = w6 at *
      have ck := HCK.out _ hb6
      have HB6 := Lib.hid hb6
      have TA6 := Lib.hid tA6
      have TB6 := Lib.hid tB6
      clear hb6 tA6 tB6
      go_wp2_with (with_reducible refine at_load 23 ?_; go_must (refine wpList_load_mid rfl 23 _ rfl b0 (o0 + i * 32) rfl M _ ck Try.underlying23 rfl hik ?_))
      refine GA6.mono ?_
      rintro e w7 ⟨rfl, hb7⟩
      obtain ⟨hiZ, hoZ, hzZ, hz⟩ := HZ.out
      have hnew := heap_alloc_new w7 (.cells Z 33)
      obtain ⟨m8, n8⟩ := made_row w7 33 Z PV.toArray
      have hb8 := HB6.out.trans (hb7.mono HB6.out.size)
      have hb9 := hb8.trans (n8.mono hb8.size)
      have h67 := hb7.trans (n8.mono hb7.size)
      have ck9 := HCK.out _ hb9
      have GB9 := GB.out _ _ _ _ _ _ (TB6.out.below h67) HGBF.out
      clear ck GA6 hb8 n8 hb7
      go_wp2_with (first
        | (with_reducible refine at_store 33 ?_; go_must (refine wpList_store_row rfl 33 _ _ rfl w7.heap.size PV.toArray rfl rfl _ Z hnew hiZ hzZ hoZ ?_))
        | (with_reducible refine at_load 23 ?_; go_must (refine wpList_load_mid rfl 23 _ rfl b0 (o0 + i * 32) rfl M _ ck9 Try.underlying23 rfl hik ?_)))
      generalize (w7.alloc (.cells Z 33)).setRow w7.heap.size PV.toArray = w9 at *
      refine GB9.mono ?_
      rintro e w10 ⟨rfl, hb10⟩
      obtain ⟨hiY, hoY, hzY, hy⟩ := HY.out
      have hnew2 := heap_alloc_new w10 (.cells Y 37)
      obtain ⟨m11, n11⟩ := made_row w10 37 Y CV.toArray
      have h911 := hb10.trans (n11.mono hb10.size)
      have HB11 := Lib.hid (hb9.trans (h911.mono hb9.size))
      have TA11 := Lib.hid ((TA6.out.below h67).below h911)
      have TB11 := Lib.hid ((TB6.out.below h67).below h911)
      have m8 := (h911.block _ (heap_lt m8)).trans m8
      clear hiZ hoZ hzZ hz hnew GB9 ck9 hb9 h67 hb10 n11 h911 TA6 TB6 HGBF HZ
      go_wp2_with (with_reducible refine at_store 37 ?_; go_must (refine wpList_store_row rfl 37 _ _ rfl w10.heap.size CV.toArray rfl rfl _ Y hnew2 hiY hzY hoY ?_))
      generalize (w10.alloc (.cells Y 37)).setRow w10.heap.size CV.toArray = w11 at *
      have cp := HCP.out _ HB11.out
      have cc := HCC.out _ HB11.out
      have LA : ∀ m, Calls Try.prog 20 #[.pointer (some ⟨hA, 0, none⟩)] (w11.drewN m) fun e w'' => e = .returned (.int .i64 nA) ∧ ∃ q, w'' = w11.drewN q :=
        fun m => (Pl.len_any (TA11.out.touch ((Touch.refl (fun _ => False) w11).drewN m) id id)).mono fun _ _ ⟨e, h⟩ => ⟨e, m, h.symm⟩
      have LB : ∀ m, Calls Try.prog 21 #[.pointer (some ⟨hB, 0, none⟩)] (w11.drewN m) fun e w'' => e = .returned (.int .i64 nA) ∧ ∃ q, w'' = w11.drewN q :=
        fun m => (Co.len_any (TB11.out.touch ((Touch.refl (fun _ => False) w11).drewN m) id id)).mono fun _ _ ⟨e, h⟩ => ⟨e, m, h.symm⟩
      have np := HNP.out
      have nc := HNC.out
      have hiP : (Try.prog.info? 33).map (·.size) = some PV.toArray.size := by rw [List.size_toArray]; exact hip
      have hiC : (Try.prog.info? 37).map (·.size) = some CV.toArray.size := by rw [List.size_toArray]; exact hic
      clear hiY hoY hzY hy HY
      refine wp_region_quiet_lit (by kernel_rfl) (by kernel_rfl) ?_
      repeat (first
        | (go_big_quiet_want; refine quiet_mid_of (fun w' e => (show w'.rangeAt b1 (o1 + i * 3) PV from by obtain ⟨_, rfl⟩ := e; exact cp)) Try.underlying33 rfl hip rfl rfl ?_; simp only [Act.put, List.setIfInBounds_toArray, List.set_cons_succ, List.set_cons_zero]; go_big_quiet_on)
        | (go_big_quiet_want; refine quiet_mid_of (fun w' e => (show w'.rangeAt b2 (o2 + i * 2) CV from by obtain ⟨_, rfl⟩ := e; exact cc)) Try.underlying37 rfl hic rfl rfl ?_; simp only [Act.put, List.setIfInBounds_toArray, List.set_cons_succ, List.set_cons_zero]; go_big_quiet_on)
        | (go_big_quiet_want; refine quiet_row_of (fun w' e => (show w'.heap[w7.heap.size]? = some (.cells PV.toArray 33 (0, 0)) from by obtain ⟨_, rfl⟩ := e; exact m8)) Try.underlying33 rfl hiP rfl rfl ?_; simp only [Act.put, List.setIfInBounds_toArray, List.set_cons_succ, List.set_cons_zero]; go_big_quiet_on)
        | (go_big_quiet_want; refine quiet_row_of (fun w' e => (show w'.heap[w10.heap.size]? = some (.cells CV.toArray 37 (0, 0)) from by obtain ⟨_, rfl⟩ := e; exact m11)) Try.underlying37 rfl hiC rfl rfl ?_; simp only [Act.put, List.setIfInBounds_toArray, List.set_cons_succ, List.set_cons_zero]; go_big_quiet_on)
        | go_big_quiet_step (((first | (go_at_call 20; exact LA _) | (go_at_call 21; exact LB _))))
        | quiet_step (((first | (go_at_call 20; exact LA _) | (go_at_call 21; exact LB _)))))
      refine wpQuiet_nil ?_
      rintro _ ⟨nq, rfl⟩
      clear LA LB np nc cp cc m8 m11
      go_wp2_with fail
      go_roundw
      case rel =>
        have tq : Touch (fun _ => False) w11 (w11.drewN nq) := (Touch.refl _ _).drewN nq
        have q6 := HQ6.out
        exact ⟨i + 1, bA', cA', SA', gA', bB', cB', SB', gB', nA, by omega, by omega, by omega, by omega, by go_num, TA11.out.touch tq id id, TB11.out.touch tq id id, HIF.out, hni, q6.1, q6.2.1, q6.2.2.1, q6.2.2.2.1, q6.2.2.2.2, below_drewN HB11.out nq⟩
      case measure => simp [intOf]; omega
    · have hout : (¬ i < l0.length) ∨ (i < l0.length ∧ ¬ i < l1.length) ∨ (i < l0.length ∧ i < l1.length ∧ ¬ i < l2.length) ∨ (i < l0.length ∧ i < l1.length ∧ i < l2.length ∧ ¬ i < 50) := by omega
      clear hall
      obtain ⟨V, hV⟩ := tA.look.inv.look farKey
      obtain ⟨U, hU⟩ : ∃ U, Pl.ints (V.getD Pl.zeroVal) = U := ⟨_, rfl⟩
      have hvl : (V.getD Pl.zeroVal).length = 3 := by
        cases V with
        | none => rfl
        | some v =>
          obtain ⟨p, hp, _, _, e⟩ := (hV v).2 rfl
          rw [Option.getD_some, ← e]
          exact tA.look.rows.vlen p hp
      have hiU := Pl.val_size _ hvl
      have hoU : (Pl.ints (V.getD Pl.zeroVal)).toArray.all (·.oneCell') = true := all_oneCell_toArray (Pl.one_ints _)
      have hzU : (Pl.ints Pl.zeroVal).toArray.size = (Pl.ints (V.getD Pl.zeroVal)).toArray.size := by rw [List.size_toArray, List.size_toArray, Pl.ints, Pl.ints, List.length_map, List.length_map, hvl]; rfl
      have hz := Pl.zero_val
      have GET := Pl.get_any tA farKey rfl V hV
      have hpos : V.isSome = true → 0 < n := fun e => by
        obtain ⟨v, rfl⟩ := Option.isSome_iff_exists.1 e
        rw [← tA.nf]
        exact Tab.has_fulls ((hV v).2 rfl)
      rw [hU] at hiU hoU hzU GET
      clear hvl hU hV hiff i0 i1 i2 i3 hn
      generalize (Pl.ints Pl.zeroVal).toArray = Z at *
      have hbf := built_far
      generalize farKey.map U8 = FK at *
      generalize V.isSome = ok at *
      have HBR := Lib.hid hbr
      have HPOS := Lib.hid hpos
      have TA := Lib.hid tA
      have TB := Lib.hid tB
      clear hbr hpos tA tB q1 q2 q3 q4 q5
      rcases hout with d0 | ⟨d0, d1⟩ | ⟨d0, d1, d2⟩ | ⟨d0, d1, d2, d3⟩
      all_goals
        go_wp2_with (with_reducible refine at_build 23 ?_; go_must (refine wpList_built' rfl 23 _ rfl FK.toArray (by go_simp) ?_))
        refine GET.mono ?_
        rintro e w3 ⟨rfl, hb3⟩
        have hnew := heap_alloc_new w3 (.cells Z 33)
        obtain ⟨m9, n9⟩ := made_row w3 33 Z U.toArray
        have hb4 := hb3.trans (n9.mono hb3.size)
        have LA := Pl.len_any (TA.out.below hb4)
        have LB := Co.len_any (TB.out.below hb4)
        have HB4 := Lib.hid hb4
        clear m9 n9 hb3 hb4 GET hbf
        cases ok
        · go_wp2_with (first
            | (with_reducible refine at_store 33 ?_; go_must (refine wpList_store_row rfl 33 _ _ rfl w3.heap.size U.toArray rfl rfl _ Z hnew hiU hzU hoU ?_))
            | (go_at_call 20; refine LA.mono ?_; rintro e w' ⟨rfl, rfl⟩)
            | (go_at_call 21; refine LB.mono ?_; rintro e w' ⟨rfl, rfl⟩)
            | (go_at_call 13; refine (lives_any _).mono ?_; rintro e w5 ⟨rfl, hb5⟩))
          go_ret
          have hb6 := HBR.out.trans (HB4.out.mono HBR.out.size)
          exact ⟨rfl, hb6.trans (hb5.mono hb6.size)⟩
        · have hgt : 0 < n := HPOS.out rfl
          go_wp2_with (first
            | (with_reducible refine at_store 33 ?_; go_must (refine wpList_store_row rfl 33 _ _ rfl w3.heap.size U.toArray rfl rfl _ Z hnew hiU hzU hoU ?_))
            | (go_at_call 20; refine LA.mono ?_; rintro e w' ⟨rfl, rfl⟩)
            | (go_at_call 21; refine LB.mono ?_; rintro e w' ⟨rfl, rfl⟩)
            | (go_at_call 13; refine (lives_any _).mono ?_; rintro e w5 ⟨rfl, hb5⟩))
          go_ret
          have hb6 := HBR.out.trans (HB4.out.mono HBR.out.size)
          exact ⟨rfl, hb6.trans (hb5.mono hb6.size)⟩
end Go.Proofs.Ytahmnpbfjfllmaa
