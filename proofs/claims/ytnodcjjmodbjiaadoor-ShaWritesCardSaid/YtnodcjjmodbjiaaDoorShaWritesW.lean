/- The law's walk: ShaWrites. -/
import Derived.Test.YtnodcjjmodbjiaaDoorRows2
namespace Go.Proofs.YtnodcjjmodbjiaaDoor
open Go Go.RowKit

theorem run_ne_id (k m : List (BitVec 8)) (hk : k.length = 32) (hm : m.length = 32) (w : World) :
    (binOp .neq 26 (.agg (k.map U8).toArray) (.agg (m.map U8).toArray)).run Tryd.prog w = .ok (.bool (!(k == m))) w := by
  have h := run_equalIn_bytes (P := Tryd.prog) w 9998 26 5 32 Tryd.underlying26 Tryd.underlying5 (fun w => by kernel_rfl) (k.map ub) (m.map ub) (by simpa using hk) (by simpa using hm)
  rw [map_cell, map_cell, map_ub_beq] at h
  have h2 : (Op.equal 26 (.agg (k.map U8).toArray) (.agg (m.map U8).toArray)).run Tryd.prog w = .ok (k == m) w := h
  simp only [binOp, Sem.run_bind, h2, Result.andThen_ok, Sem.run_pure]
/-- A row whose bytes are turned, one by one. -/
def SpoilRel (w : World) (B : Nat) (v : Value) (n : Nat) (i : Value) (wv : World) : Prop :=
  ∃ (k : Nat) (f : List (BitVec 8)), k ≤ n ∧ i = .int .i64 k ∧ f.length = n ∧ Owns wv B 5 v f ∧ Touch (fun q => v.ownBlock = some q) w wv
def WritesRel (n8 B b : Nat) (w : World) (s i : Value) (wr : World) : Prop :=
  ∃ (j : Nat) (v : Value) (T : List (BitVec 8)), j ≤ n8 ∧ j ≤ 8 ∧ i = .int .i64 j ∧ Hasher wr B b v T ∧ Owns wr B 5 s T ∧ (∀ q, s.ownBlock = some q → q ≠ b ∧ v.ownBlock ≠ some q) ∧ T.length ≤ 150 * j ∧ Below B w wr
set_option maxRecDepth 40000 in
set_option maxHeartbeats 4000000 in
theorem shaWrites_walk (a : Option Addr) (cap : Nat) (ls : Rows) (at_ : Int) (a2 : Option Addr) (cap2 : Nat) (l2 : List (BitVec 8)) (w : World) (hk : KTab w) (hr : RR w a cap ls) (_hat : -9223372036854775808 ≤ at_ ∧ at_ ≤ 9223372036854775807) (hr2 : Reads w a2 cap2 l2) :
    Calls Tryd.prog 5 #[.slice a ls.length cap, .int .i64 at_, .slice a2 l2.length cap2] w fun e w' => e = .returned (.bool true) ∧ Below w.heap.size w w' := by
  have hfit := hr.fits
  have hroom := hr.room
  go_enter Tryd.func5, Tryd.ntmps5
  go_wp2_with fail
  refine (new_any w).mono ?_
  rintro e w1 ⟨b, rfl, hb0, hh0, hbl0⟩
  go_wp2_with fail
  refine (cut_any _ _ l2 70 _ _ rfl (hr2.keeps (Keeps.below hbl0)) (by decide)).mono ?_
  rintro e w' ⟨rfl, rfl⟩
  have hm2 := hr2.take 70
  have hlt2 : l2.take 70 ≠ [] → ∀ ad, a2 = some ad → ad.block < w.heap.size := fun h => hm2.lt h
  have hlen2 : (l2.take 70).length ≤ 70 := by rw [List.length_take]; omega
  generalize l2.take 70 = m2 at *
  have hBk := hk.lt
  obtain ⟨B, hB⟩ : ∃ B, w.heap.size = B := ⟨_, rfl⟩
  rw [hB] at hb0 hh0 hbl0 hlt2 hBk
  go_wp2
  go_loopw [8, 9] (fun s i wr => WritesRel ls.length B b w s i wr) (fun _ i _ => 8 - (intOf i).toNat)
  case atStart => exact ⟨0, _, [], by omega, by omega, rfl, hh0, owns_nil _ _ _, fun q hq => by simp [Value.ownBlock] at hq, by simp, hbl0⟩
  case round =>
    clear hb0 hh0 hbl0
    obtain ⟨j, v, T, hjn, hj8, rfl, hh, hso, hap, hTl, hbw⟩ := hrel
    have hBs : B ≤ wr.heap.size := hB ▸ hbw.size
    by_cases hgo : j < ls.length ∧ j < 8
    · obtain ⟨hg1, hg2⟩ := hgo
      obtain ⟨gb, goff, rfl, hcell⟩ := hr.rows.resolve_left (fun e => by rw [e] at hg1; simp at hg1)
      obtain ⟨ai, ci, hc0, hri0⟩ := hcell j hg1
      have hc := Keeps.below (hB.symm ▸ hbw) _ _ hc0
      have hri := hri0.keeps (Keeps.below (hB.symm ▸ hbw))
      have CU := cut_any ai ci (rowOf ls j) 150 150 wr rfl hri (by decide)
      have hx := hri.take 150
      have hxl : ((rowOf ls j).take 150).length ≤ 150 := by rw [List.length_take]; omega
      generalize (rowOf ls j).take 150 = x at *
      generalize rowOf ls j = row at *
      have hjj : (j : Int) < 8 := by omega
      have hjc : (j : Int) < ls.length := by omega
      have HK2' := Lib.hid (hk.keeps (Keeps.below (hB.symm ▸ hbw)))
      have HBW := Lib.hid hbw
      obtain ⟨aa, ac, rfl, hra⟩ := hso.reads
      have HSO : Hid (∀ q, (Value.slice aa T.length ac).ownBlock = some q → q < wr.heap.size) := Lib.hid fun q hq => (row_lt hso hq).2
      have HL := Lib.hid hh.lt
      have HAP := Lib.hid hap
      clear hcell hc0 hri0 hri hap
      go_wp2_with fail
      refine CU.mono ?_
      rintro e w' ⟨rfl, rfl⟩
      have CO := copy_any ai ci x wr hx (by omega)
      clear CU
      go_wp2_with fail
      refine CO.mono ?_
      rintro e w2 ⟨v10, rfl, hn2, hb2⟩
      obtain ⟨a10, c10, rfl, hr10⟩ := hn2.reads
      have hBw2 : B ≤ w2.heap.size := Nat.le_trans hBs hb2.size
      have hs2 := hb2.size
      have hh2 := hh.below hb2
      have ho2 := hso.below hb2
      have hk2 := HK2'.out.keeps (Keeps.below hb2)
      have hbw2 := hbw.trans (hb2.mono hBs)
      have HH := Lib.hid hh2
      have HO := Lib.hid ho2
      have HV := Lib.hid hn2
      have HK2 := Lib.hid hk2
      have HR10 := Lib.hid hr10
      have HG10 : Hid (∀ q, (Value.slice a10 x.length c10).ownBlock = some q → wr.heap.size ≤ q ∧ q < w2.heap.size) := Lib.hid fun q hq => row_lt hn2 hq
      have HB2 := Lib.hid hb2
      have hra2 := hra.keeps (Keeps.below hb2)
      have hm2w := hm2.keeps (Keeps.below (hB.symm ▸ hbw2))
      clear CO hc hx hn2 hr10 hso hra hh hbw hb2 ho2
      by_cases hat : (j : Int) = at_
      · have hateq : ((j : Int) == at_) = true := by simp [hat]
        have CPY := hcopy_any hh2
        clear hh2 hat
        go_wp2_with fail
        refine CPY.mono ?_
        rintro e w3 ⟨b3, v3, rfl, hh3, hb3⟩
        have hs3 := hb3.size
        have hk3 := hk2.keeps (Keeps.below hb3)
        have WRc := hwrite_any hh3 hs3 (by omega) hk3 a2 cap2 m2 (hm2w.keeps (Keeps.below hb3)) (by omega) (fun hne ad e => ⟨by have := hlt2 hne ad e; have := hh3.low; omega, fun e2 => by have := hlt2 hne ad e; have := (hh3.lt.2 _ e2).1; omega⟩)
        have h3l := hh3.lt
        have h3low := hh3.low
        clear CPY hk3 hh3
        go_wp2_with fail
        refine WRc.mono ?_
        rintro e w4 ⟨v4, rfl, hh4, ht4, _⟩
        have hb34 : Below w2.heap.size w3 w4 := ht4.below (fun q e => by
          rcases e with e | e
          · omega
          · exact (h3l.2 q e).1) hs3
        have hb24 := hb3.trans hb34
        have hs4 := hb24.size
        obtain ⟨X, hX⟩ : ∃ q, T ++ m2 = q := ⟨_, rfl⟩
        rw [hX] at hh4
        have hXl : X.length = T.length + m2.length := by rw [← hX, List.length_append]
        have hXb : X.length ≤ 2000 := by omega
        have hnl : ((X.length : Int) != (T.length : Int) + m2.length) = false := by rw [hXl]; simp
        have HSc := hsum_any hh4 hs4 (by omega) (hk2.keeps (Keeps.below hb24)) (by omega)
        have LNc := fun w' (h : Below w4.heap.size w4 w') => hlen_any (hh4.below h)
        have RSc := fun w' av cv (h : Reads w' av cv X) => rsum_any av cv X w' h (by omega)
        have hne := fun w => run_ne_id (Sha.sum X) (Sha.sum X) (sum_length X) (sum_length X) w
        rw [beq_self_eq_true, Bool.not_true] at hne
        generalize Sha.sum X = D at *
        have HX := Lib.hid hX
        have HXL := Lib.hid hXl
        clear WRc ht4 hb34 hX hXl hh4
        go_wp2_with fail
        refine HSc.mono ?_
        rintro e w41 ⟨rfl, hb41⟩
        have hb241 := hb24.trans (hb41.mono hs4)
        have CO2 := copy_any aa ac T w41 (hra2.keeps (Keeps.below hb241)) (by omega)
        clear HSc
        go_wp2_with fail
        refine CO2.mono ?_
        rintro e w42 ⟨v42, rfl, ho42, hb42⟩
        have hs41 := hb42.size
        have hm42 := (hm2w.keeps (Keeps.below hb241)).keeps (Keeps.below hb42)
        have hlen42 : T.length + m2.length ≤ 140737488355328 := by omega
        clear CO2
        go_wp2_with (at_builtin; refine wpList_append_bytes_at byteSlice rfl _ _ rfl w41.heap.size v42 T rfl ho42 a2 cap2 m2 rfl hm42 hlen42 hs41 ?_; intro v43 w43 ho43 hg43 _)
        have hb43 : Below w41.heap.size w41 w43 := hb42.trans ((Touch.of_grown (F := fun k => v42.ownBlock = some k) hg43 fun k hk => hk).below (fun k hk => (row_lt ho42 hk).1) hs41)
        rw [HX.out] at ho43
        obtain ⟨av, cv, rfl, hrv⟩ := ho43.reads
        have RS := RSc w43 av cv hrv
        clear RSc hm42 ho42 hg43 ho43
        go_wp2_with fail
        refine RS.mono ?_
        rintro e w5 ⟨rfl, hb5⟩
        have hs41' := hb41.size
        have hb45 := hb41.trans ((hb43.trans (hb5.mono hb43.size)).mono hs41')
        have LN := LNc w5 hb45
        have hb25 := hb24.trans (hb45.mono hs4)
        clear RS LNc hrv
        go_wp2_with fail
        refine LN.mono ?_
        rintro e w' ⟨rfl, rfl⟩
        clear LN hb5 hb43 hb42 hb41 hb45 hb241 hb24 hb3 h3l
        have hh5 := HH.out.below hb25
        have ho5 := HO.out.below hb25
        have hv5 := HV.out.below hb25
        have hs5 := hb25.size
        have hk5 := HK2.out.keeps (Keeps.below hb25)
        have hr5 : Reads w5 a10 c10 x := HR10.out.keeps (Keeps.below hb25)
        have hB5 : B ≤ w5.heap.size := by omega
        have WR := hwrite_any hh5 hB5 hBk hk5 a10 c10 x hr5 (by omega) (fun _ ad e => ⟨fun e2 => by have := (HG10.out ad.block (by rw [e]; rfl)).1; have := HL.out.1; omega, fun e2 => by have := (HG10.out ad.block (by rw [e]; rfl)).1; have := (HL.out.2 _ e2).2; omega⟩)
        clear hr5 hk5
        go_wp2_with fail
        refine WR.mono ?_
        rintro e w6 ⟨v6, rfl, hh6, ht6, hv6⟩
        have hs6 := ht6.size
        have ho6 : Owns w6 B 5 (.slice aa T.length ac) T := ht6.owns ho5 (fun q hq e => by
          rcases e with e | e
          · exact (HAP.out q hq).1 e
          · exact (HAP.out q hq).2 e)
        have hn6 : Owns w6 wr.heap.size 5 (.slice a10 x.length c10) x := ht6.owns hv5 (fun q hq e => by
          have := (HG10.out q hq).1
          rcases e with e | e
          · have := HL.out.1; omega
          · have := (HL.out.2 q e).2; omega)
        have hx6 : Reads w6 a10 c10 x := by
          obtain ⟨q1, q2, e1, r1⟩ := hn6.reads
          injection e1 with e1 e2 e3
          rw [e1, e3]; exact r1
        have hlen6 : T.length + x.length ≤ 140737488355328 := by omega
        have hB6 : B ≤ w6.heap.size := by omega
        have HH6 := Lib.hid hh6
        have HN6 := Lib.hid hn6
        have HT6 := Lib.hid ht6
        have HA6 := Lib.hid ho6
        have hsz6 : wr.heap.size ≤ w6.heap.size := by omega
        clear WR hh5 ho5 hv5 hh6 ht6 hn6
        go_wp2_with (at_builtin; refine wpList_append_bytes_at byteSlice rfl _ _ rfl B (.slice aa T.length ac) T rfl ho6 a10 c10 x rfl hx6 hlen6 hB6 ?_; intro s9 w7 ho7 hg7 hb7)
        have t7 : Touch (fun q => (Value.slice aa T.length ac).ownBlock = some q) w6 w7 := .of_grown hg7 fun k hk => hk
        have hown : ∀ q, (Value.slice aa T.length ac).ownBlock = some q → q < wr.heap.size := fun q hq => HSO.out q hq
        have h67 : ∀ q, v6.ownBlock = some q → v.ownBlock = some q ∨ w5.heap.size ≤ q := hv6
        have hh7 : Hasher w7 B b v6 (T ++ x) := HH6.out.touch t7 (fun e => (HAP.out _ e).1 rfl) (fun q hq e => by
          rcases h67 q hq with e2 | e2
          · exact (HAP.out q e).2 e2
          · have := hown q e; omega)
        have hn7 : Owns w7 wr.heap.size 5 (.slice a10 x.length c10) x := t7.owns HN6.out (fun q hq e => by have := (HG10.out q hq).1; have := hown q e; omega)
        have hap7 : ∀ q, s9.ownBlock = some q → q ≠ b ∧ v6.ownBlock ≠ some q ∧ (∀ g, (Value.slice a10 x.length c10).ownBlock = some g → q ≠ g) := fun q hq => by
          have hbl := HL.out.1
          rcases hb7 with e | e
          · rw [e] at hq
            have h1 := hown q hq
            refine ⟨(HAP.out q hq).1, fun e2 => ?_, fun g hg => ?_⟩
            · rcases h67 q e2 with e3 | e3
              · exact (HAP.out q hq).2 e3
              · omega
            · have := (HG10.out g hg).1; omega
          · rw [e] at hq
            injection hq with hq
            refine ⟨by omega, fun e2 => ?_, fun g hg => ?_⟩
            · have := (HH6.out.lt.2 q e2).2; omega
            · have := (HG10.out g hg).2; omega
        have hbw7 : Below B w w7 := ((HBW.out.trans (HB2.out.mono (by omega))).trans (hb25.mono (by omega))).trans ((HT6.out.below (fun q e => by
          rcases e with e | e
          · have := HH6.out.low; omega
          · exact (HL.out.2 q e).1) hB5).trans (t7.below (fun q e => (row_lt ho6 e).1) hB6))
        have hv6g : ∀ g, (Value.slice a10 x.length c10).ownBlock = some g → g ≠ b ∧ v6.ownBlock ≠ some g := fun g hg => by
          have h1 := HG10.out g hg
          refine ⟨by have := HL.out.1; omega, fun e => ?_⟩
          rcases h67 g e with e2 | e2
          · have := (HL.out.2 g e2).2; omega
          · omega
        obtain ⟨T2, hT2⟩ : ∃ q, T ++ x = q := ⟨_, rfl⟩
        rw [hT2] at hh7 ho7
        have hT2l : T2.length ≤ 150 * (j + 1) := by rw [← hT2, List.length_append]; omega
        have HT2 := Lib.hid hT2
        obtain ⟨sa, sc, rfl, _⟩ := ho7.reads
        have HH7 := Lib.hid hh7
        have HO7 := Lib.hid ho7
        have HAP7 := Lib.hid hap7
        have HBW7 := Lib.hid hbw7
        have HV7 := Lib.hid hv6g
        clear hT2 hh7 ho7 hap7 hbw7 hv6g t7 hown hg7 hb7 ho6 hx6
        go_wp2
        go_loopw [12] (fun i wv => SpoilRel w7 wr.heap.size (.slice a10 x.length c10) x.length i wv) (fun i _ => x.length - (intOf i).toNat)
        case atStart => exact ⟨0, x, Nat.zero_le _, rfl, rfl, hn7, Touch.refl _ _⟩
        case round =>
          clear hn7
          obtain ⟨i, f, hi, rfl, hfl, hbo, hto⟩ := hrel
          by_cases hin : i < x.length
          · obtain ⟨gb, gc, e1, hrow, _⟩ := hbo.row (by omega)
            rw [hfl] at e1 hrow
            injection e1 with e1 _ e3
            subst e1 e3
            have hc := hrow.cell i hin
            have hf := hrow.thawed i
            have HR := Lib.hid hrow
            have HTO := Lib.hid hto
            clear hrow hto hbo
            generalize byteAt f i = y at *
            go_wp2
            go_roundw
            case rel => exact ⟨i + 1, f.set i (y + 1#8), by omega, by go_num, by simp [hfl], (HR.out.set i _).owns, HTO.out.trans (Touch.set _ _ _ _ rfl)⟩
            case measure => simp [intOf]; omega
          · have hh8 := HH7.out.touch hto (fun e => (HV7.out _ e).1 rfl) (fun q hq e => (HV7.out _ e).2 hq)
            have ho8 := hto.owns HO7.out (fun q hq e => (HAP7.out q hq).2.2 q e rfl)
            have hs7 := HBW7.out.size
            have hbw8 := HBW7.out.trans (hto.below (fun q e => by have := (HG10.out q e).1; omega) (by omega))
            have hk8 := hk.keeps (Keeps.below (hB.symm ▸ hbw8))
            have hs8 := hbw8.size
            have HS := hsum_any hh8 (by omega) hBk hk8 (by omega)
            have LN := fun w' (h : Below wr.heap.size wr w') => hlen_any (hh8.below h)
            obtain ⟨_, _, e1, hra⟩ := ho8.reads
            injection e1 with e1 e2 e3
            subst e1 e3
            have RS := fun w' (h : Reads w' sa sc T2) => rsum_any sa sc T2 w' h (by omega)
            have hne := fun w => run_ne_id (Sha.sum T2) (Sha.sum T2) (sum_length T2) (sum_length T2) w
            rw [beq_self_eq_true, Bool.not_true] at hne
            generalize Sha.sum T2 = D at *
            have HH8 := Lib.hid hh8
            have HO8 := Lib.hid ho8
            have HBW8 := Lib.hid hbw8
            clear hh8 ho8 hbw8 hto hbo
            go_wp2_with fail
            refine HS.mono ?_
            rintro e w9 ⟨rfl, hb9⟩
            go_wp2_with fail
            refine (RS w9 (hra.keeps (Keeps.below hb9))).mono ?_
            rintro e w10 ⟨rfl, hb10⟩
            have hb19 := hb9.trans (hb10.mono hb9.size)
            have hL := LN w10 hb19
            have hnl : ((T2.length : Int) != T2.length) = false := by simp
            clear HS RS LN hra
            go_wp2_with fail
            refine hL.mono ?_
            rintro e w' ⟨rfl, rfl⟩
            have HH9 := Lib.hid (HH8.out.below hb19)
            have HO9 := Lib.hid (HO8.out.below hb19)
            have HBW9 := Lib.hid (HBW8.out.trans (hb19.mono (by omega)))
            clear hL hb9 hb10 hb19
            go_wp2
            go_roundw
            case rel => exact ⟨j + 1, v6, T2, by omega, by omega, by go_num, HH9.out, HO9.out, fun q hq => ⟨(HAP7.out q hq).1, (HAP7.out q hq).2.1⟩, hT2l, HBW9.out⟩
            case measure => simp [intOf]; omega
      · have hateq : ((j : Int) == at_) = false := by simpa using hat
        have hb25 : Below w2.heap.size w2 w2 := Below.refl _ _
        clear hat hh2
        have hh5 := HH.out.below hb25
        have ho5 := HO.out.below hb25
        have hv5 := HV.out.below hb25
        have hs5 := hb25.size
        have hk5 := HK2.out.keeps (Keeps.below hb25)
        have hr5 : Reads w2 a10 c10 x := HR10.out.keeps (Keeps.below hb25)
        have hB5 : B ≤ w2.heap.size := by omega
        have WR := hwrite_any hh5 hB5 hBk hk5 a10 c10 x hr5 (by omega) (fun _ ad e => ⟨fun e2 => by have := (HG10.out ad.block (by rw [e]; rfl)).1; have := HL.out.1; omega, fun e2 => by have := (HG10.out ad.block (by rw [e]; rfl)).1; have := (HL.out.2 _ e2).2; omega⟩)
        clear hr5 hk5
        go_wp2_with fail
        refine WR.mono ?_
        rintro e w6 ⟨v6, rfl, hh6, ht6, hv6⟩
        have hs6 := ht6.size
        have ho6 : Owns w6 B 5 (.slice aa T.length ac) T := ht6.owns ho5 (fun q hq e => by
          rcases e with e | e
          · exact (HAP.out q hq).1 e
          · exact (HAP.out q hq).2 e)
        have hn6 : Owns w6 wr.heap.size 5 (.slice a10 x.length c10) x := ht6.owns hv5 (fun q hq e => by
          have := (HG10.out q hq).1
          rcases e with e | e
          · have := HL.out.1; omega
          · have := (HL.out.2 q e).2; omega)
        have hx6 : Reads w6 a10 c10 x := by
          obtain ⟨q1, q2, e1, r1⟩ := hn6.reads
          injection e1 with e1 e2 e3
          rw [e1, e3]; exact r1
        have hlen6 : T.length + x.length ≤ 140737488355328 := by omega
        have hB6 : B ≤ w6.heap.size := by omega
        have HH6 := Lib.hid hh6
        have HN6 := Lib.hid hn6
        have HT6 := Lib.hid ht6
        have HA6 := Lib.hid ho6
        have hsz6 : wr.heap.size ≤ w6.heap.size := by omega
        clear WR hh5 ho5 hv5 hh6 ht6 hn6
        go_wp2_with (at_builtin; refine wpList_append_bytes_at byteSlice rfl _ _ rfl B (.slice aa T.length ac) T rfl ho6 a10 c10 x rfl hx6 hlen6 hB6 ?_; intro s9 w7 ho7 hg7 hb7)
        have t7 : Touch (fun q => (Value.slice aa T.length ac).ownBlock = some q) w6 w7 := .of_grown hg7 fun k hk => hk
        have hown : ∀ q, (Value.slice aa T.length ac).ownBlock = some q → q < wr.heap.size := fun q hq => HSO.out q hq
        have h67 : ∀ q, v6.ownBlock = some q → v.ownBlock = some q ∨ w2.heap.size ≤ q := hv6
        have hh7 : Hasher w7 B b v6 (T ++ x) := HH6.out.touch t7 (fun e => (HAP.out _ e).1 rfl) (fun q hq e => by
          rcases h67 q hq with e2 | e2
          · exact (HAP.out q e).2 e2
          · have := hown q e; omega)
        have hn7 : Owns w7 wr.heap.size 5 (.slice a10 x.length c10) x := t7.owns HN6.out (fun q hq e => by have := (HG10.out q hq).1; have := hown q e; omega)
        have hap7 : ∀ q, s9.ownBlock = some q → q ≠ b ∧ v6.ownBlock ≠ some q ∧ (∀ g, (Value.slice a10 x.length c10).ownBlock = some g → q ≠ g) := fun q hq => by
          have hbl := HL.out.1
          rcases hb7 with e | e
          · rw [e] at hq
            have h1 := hown q hq
            refine ⟨(HAP.out q hq).1, fun e2 => ?_, fun g hg => ?_⟩
            · rcases h67 q e2 with e3 | e3
              · exact (HAP.out q hq).2 e3
              · omega
            · have := (HG10.out g hg).1; omega
          · rw [e] at hq
            injection hq with hq
            refine ⟨by omega, fun e2 => ?_, fun g hg => ?_⟩
            · have := (HH6.out.lt.2 q e2).2; omega
            · have := (HG10.out g hg).2; omega
        have hbw7 : Below B w w7 := ((HBW.out.trans (HB2.out.mono (by omega))).trans (hb25.mono (by omega))).trans ((HT6.out.below (fun q e => by
          rcases e with e | e
          · have := HH6.out.low; omega
          · exact (HL.out.2 q e).1) hB5).trans (t7.below (fun q e => (row_lt ho6 e).1) hB6))
        have hv6g : ∀ g, (Value.slice a10 x.length c10).ownBlock = some g → g ≠ b ∧ v6.ownBlock ≠ some g := fun g hg => by
          have h1 := HG10.out g hg
          refine ⟨by have := HL.out.1; omega, fun e => ?_⟩
          rcases h67 g e with e2 | e2
          · have := (HL.out.2 g e2).2; omega
          · omega
        obtain ⟨T2, hT2⟩ : ∃ q, T ++ x = q := ⟨_, rfl⟩
        rw [hT2] at hh7 ho7
        have hT2l : T2.length ≤ 150 * (j + 1) := by rw [← hT2, List.length_append]; omega
        have HT2 := Lib.hid hT2
        obtain ⟨sa, sc, rfl, _⟩ := ho7.reads
        have HH7 := Lib.hid hh7
        have HO7 := Lib.hid ho7
        have HAP7 := Lib.hid hap7
        have HBW7 := Lib.hid hbw7
        have HV7 := Lib.hid hv6g
        clear hT2 hh7 ho7 hap7 hbw7 hv6g t7 hown hg7 hb7 ho6 hx6
        go_wp2
        go_loopw [12] (fun i wv => SpoilRel w7 wr.heap.size (.slice a10 x.length c10) x.length i wv) (fun i _ => x.length - (intOf i).toNat)
        case atStart => exact ⟨0, x, Nat.zero_le _, rfl, rfl, hn7, Touch.refl _ _⟩
        case round =>
          clear hn7
          obtain ⟨i, f, hi, rfl, hfl, hbo, hto⟩ := hrel
          by_cases hin : i < x.length
          · obtain ⟨gb, gc, e1, hrow, _⟩ := hbo.row (by omega)
            rw [hfl] at e1 hrow
            injection e1 with e1 _ e3
            subst e1 e3
            have hc := hrow.cell i hin
            have hf := hrow.thawed i
            have HR := Lib.hid hrow
            have HTO := Lib.hid hto
            clear hrow hto hbo
            generalize byteAt f i = y at *
            go_wp2
            go_roundw
            case rel => exact ⟨i + 1, f.set i (y + 1#8), by omega, by go_num, by simp [hfl], (HR.out.set i _).owns, HTO.out.trans (Touch.set _ _ _ _ rfl)⟩
            case measure => simp [intOf]; omega
          · have hh8 := HH7.out.touch hto (fun e => (HV7.out _ e).1 rfl) (fun q hq e => (HV7.out _ e).2 hq)
            have ho8 := hto.owns HO7.out (fun q hq e => (HAP7.out q hq).2.2 q e rfl)
            have hs7 := HBW7.out.size
            have hbw8 := HBW7.out.trans (hto.below (fun q e => by have := (HG10.out q e).1; omega) (by omega))
            have hk8 := hk.keeps (Keeps.below (hB.symm ▸ hbw8))
            have hs8 := hbw8.size
            have HS := hsum_any hh8 (by omega) hBk hk8 (by omega)
            have LN := fun w' (h : Below wr.heap.size wr w') => hlen_any (hh8.below h)
            obtain ⟨_, _, e1, hra⟩ := ho8.reads
            injection e1 with e1 e2 e3
            subst e1 e3
            have RS := fun w' (h : Reads w' sa sc T2) => rsum_any sa sc T2 w' h (by omega)
            have hne := fun w => run_ne_id (Sha.sum T2) (Sha.sum T2) (sum_length T2) (sum_length T2) w
            rw [beq_self_eq_true, Bool.not_true] at hne
            generalize Sha.sum T2 = D at *
            have HH8 := Lib.hid hh8
            have HO8 := Lib.hid ho8
            have HBW8 := Lib.hid hbw8
            clear hh8 ho8 hbw8 hto hbo
            go_wp2_with fail
            refine HS.mono ?_
            rintro e w9 ⟨rfl, hb9⟩
            go_wp2_with fail
            refine (RS w9 (hra.keeps (Keeps.below hb9))).mono ?_
            rintro e w10 ⟨rfl, hb10⟩
            have hb19 := hb9.trans (hb10.mono hb9.size)
            have hL := LN w10 hb19
            have hnl : ((T2.length : Int) != T2.length) = false := by simp
            clear HS RS LN hra
            go_wp2_with fail
            refine hL.mono ?_
            rintro e w' ⟨rfl, rfl⟩
            have HH9 := Lib.hid (HH8.out.below hb19)
            have HO9 := Lib.hid (HO8.out.below hb19)
            have HBW9 := Lib.hid (HBW8.out.trans (hb19.mono (by omega)))
            clear hL hb9 hb10 hb19
            go_wp2
            go_roundw
            case rel => exact ⟨j + 1, v6, T2, by omega, by omega, by go_num, HH9.out, HO9.out, fun q hq => ⟨(HAP7.out q hq).1, (HAP7.out q hq).2.1⟩, hT2l, HBW9.out⟩
            case measure => simp [intOf]; omega
    · have hkr := hk.keeps (Keeps.below (hB.symm ▸ hbw))
      have hj1 : ¬ ((j : Int) < ls.length) ∨ ((j : Int) < ls.length ∧ ¬ ((j : Int) < 8)) := by omega
      clear hso hap hh hgo
      rcases hj1 with hj1 | ⟨hj1, hj2⟩
      · go_wp2_with fail
        refine (lives_any _ hkr).mono ?_
        rintro e w6 ⟨rfl, hb6⟩
        go_wp2
        go_ret
        exact ⟨rfl, by rw [hB]; exact hbw.trans (hb6.mono hBs)⟩
      · go_wp2_with fail
        refine (lives_any _ hkr).mono ?_
        rintro e w6 ⟨rfl, hb6⟩
        go_wp2
        go_ret
        exact ⟨rfl, by rw [hB]; exact hbw.trans (hb6.mono hBs)⟩
end Go.Proofs.YtnodcjjmodbjiaaDoor
