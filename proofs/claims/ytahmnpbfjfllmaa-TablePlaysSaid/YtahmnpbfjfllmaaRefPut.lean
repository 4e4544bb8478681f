/- The document's own Put, where the key is there already; where it is not. -/
import Derived.Test.YtahmnpbfjfllmaaRefTab
import Derived.Test.YtahmnpbfjfllmaaTPut
namespace Go.Proofs.Ytahmnpbfjfllmaa
open Go Go.RowKit

theorem built_kv' (v : Int) (c0 c1 c2 c3 c4 c5 c6 c7 c8 c9 c10 c11 c12 c13 c14 c15 c16 c17 c18 c19 c20 c21 c22 c23 c24 c25 c26 c27 c28 c29 c30 c31 : BitVec 8) : Program.built Try.prog 67 [(0, .agg (([c0, c1, c2, c3, c4, c5, c6, c7, c8, c9, c10, c11, c12, c13, c14, c15, c16, c17, c18, c19, c20, c21, c22, c23, c24, c25, c26, c27, c28, c29, c30, c31] : List (BitVec 8)).map U8).toArray), (1, .int .i64 v)] = some (kvC ⟨[c0, c1, c2, c3, c4, c5, c6, c7, c8, c9, c10, c11, c12, c13, c14, c15, c16, c17, c18, c19, c20, c21, c22, c23, c24, c25, c26, c27, c28, c29, c30, c31], v⟩).toArray := by kernel_rfl
theorem built_kv (k : List (BitVec 8)) (hk : k.length = 32) (v : Int) : Program.built Try.prog 67 [(0, .agg (k.map U8).toArray), (1, .int .i64 v)] = some (kvC ⟨k, v⟩).toArray := by
  match k, hk with
  | [c0, c1, c2, c3, c4, c5, c6, c7, c8, c9, c10, c11, c12, c13, c14, c15, c16, c17, c18, c19, c20, c21, c22, c23, c24, c25, c26, c27, c28, c29, c30, c31], _ => exact built_kv' v c0 c1 c2 c3 c4 c5 c6 c7 c8 c9 c10 c11 c12 c13 c14 c15 c16 c17 c18 c19 c20 c21 c22 c23 c24 c25 c26 c27 c28 c29 c30 c31
theorem kv_info : (Try.prog.info? 67).map (fun i => (i.zero, i.size, i.bytes)) = some (some (.agg (kvC ⟨zeroKey, 0⟩).toArray), 33, 40) := by kernel_rfl
/-- What stands behind the document's Put. -/
def RPutPost (w : World) (x : Nat) (L : List KV) (cap dead : Nat) (k : List (BitVec 8)) (v : Int) (e : Ending) (w' : World) : Prop :=
  e = .returned (.tuple #[]) ∧ ∃ a' cp' L' cap' dead', RefAt w' x a' cp' L' cap' dead' ∧ PutSpec L k v L' ∧ Tab.PutNums cap L.length dead cap' L'.length dead' (∃ p ∈ L, p.key = k) ∧ (∀ ad, a' = some ad → w.heap.size ≤ ad.block) ∧ Touch (fun y => y = x) w w'
def SameRel (w : World) (B : Nat) (M : List KV) (i0 : Nat) (o d x : Value) (wr : World) : Prop :=
  ∃ i : Nat, i ≤ M.length ∧ x = .int .i64 i ∧ d = .bool (decide (i0 < i)) ∧ OwnsC kvC 33 wr B 67 o (M.take i) ∧ Below B w wr
set_option maxHeartbeats 4000000 in
set_option maxRecDepth 40000 in
theorem rput_same {w : World} {x : Nat} {a : Option Addr} {cp : Nat} {L : List KV} {cap dead : Nat} (h : RefAt w x a cp L cap dead) (k : List (BitVec 8)) (hk : k.length = 32) (v : Int) (hex : ∃ p ∈ L, p.key = k) (hL : L.length ≤ 100000) :
    Calls Try.prog 33 #[.pointer (some ⟨x, 0, none⟩), .agg (k.map U8).toArray, .int .i64 v] w (RPutPost w x L cap dead k v) := by
  have row : (w.alloc (.cells (k.map U8).toArray 23)).heap[w.heap.size]? = some (.cells (k.map U8).toArray 23 (0, 0)) := heap_alloc_new w _
  have hb : Below w.heap.size w (w.alloc (.cells (k.map U8).toArray 23)) := (Below.refl _ _).alloc (Nat.le_refl _) _
  have h1 := h.below hb
  have hik : (Try.prog.info? 23).map (·.size) = some (k.map U8).toArray.size := by rw [List.size_toArray, List.length_map, hk]; kernel_rfl
  have AT := at_any h1 k hk
  have hfit := h.rows.fits
  have hroom := h.rows.room
  have hbuilt := built_kv k hk v
  have hxs := heap_lt h.head
  have hkk := hk
  have HKV := Lib.hid (length_kvC (p := ⟨k, v⟩) hk)
  have HONE := Lib.hid (one_kvC ⟨k, v⟩)
  clear h
  generalize hCV : kvC ⟨k, v⟩ = CV at *
  have HCV := Lib.hid hCV
  clear hCV
  generalize hKE : (k.map U8).toArray = K at *
  clear hKE
  go_enter Try.func33, Try.ntmps33
  go_wp2_with (with_reducible refine at_load 23 ?_; refine wpList_load_row rfl 23 _ rfl w.heap.size rfl _ K _ _ row Try.underlying23 rfl hik ?_)
  generalize w.alloc (.cells K 23) = w1 at *
  refine AT.mono ?_
  rintro e w2 ⟨⟨r, rfl, hat⟩, hb2⟩
  obtain ⟨i0, hi0, rfl, hk0⟩ : ∃ i : Nat, ∃ h : i < L.length, r = i ∧ L[i].key = k := by
    rcases hat with ⟨_, hno⟩ | q
    · obtain ⟨p, hp, e⟩ := hex
      exact (hno p hp e).elim
    · exact q
  have H2 := Lib.hid (h1.below hb2)
  have row2 := (hb2.block _ (heap_lt row)).trans row
  have HB2 := Lib.hid (hb.trans (hb2.mono hb.size))
  have hx2 : x < w2.heap.size := heap_lt H2.out.head
  have HK0 := Lib.hid hk0
  have HEX := Lib.hid hex
  clear AT h1 hat hb hb2 row hk0 hex
  obtain ⟨M, hM⟩ : ∃ M, L.set i0 ⟨k, v⟩ = M := ⟨_, rfl⟩
  have hMl : M.length = L.length := by rw [← hM, List.length_set]
  have HM := Lib.hid hM
  clear hM
  go_wp2_with fail
  go_loopw [7, 8, 9] (fun o d x wr => SameRel w2 w2.heap.size M i0 o d x wr) (fun _ _ x _ => M.length - (intOf x).toNat)
  case atStart => exact ⟨0, Nat.zero_le _, rfl, by simp, ownsC_nil _ _ _, Below.refl _ _⟩
  case round =>
    obtain ⟨i, hi, rfl, rfl, HO, hbr⟩ := hrel
    have Hr := H2.out.below hbr
    have c0r := Hr.head.c0
    obtain ⟨av, cv, rfl, _, _⟩ := HO.form
    have hszr := hbr.size
    by_cases hlt : i < L.length
    · have hltM : i < M.length := by omega
      have hf1 : M.take (i + 1) = M.take i ++ [M[i]] := List.take_succ_eq_append_getElem hltM
      have hfl : (M.take i).length + 1 ≤ 1048576 := by rw [List.length_take]; omega
      by_cases hi0 : i = i0
      · subst hi0
        have hMi : M[i] = ⟨k, v⟩ := by simp only [← HM.out, List.getElem_set_self]
        rw [hMi] at hf1
        have rowr := (hbr.block _ (heap_lt row2)).trans row2
        have e0 : decide (i < i) = false := decide_eq_false (by omega)
        have HBR := Lib.hid hbr
        have HO := Lib.hid HO
        have HF1 := Lib.hid hf1
        clear Hr hbr hf1 hMi
        generalize hFL : M.take i = FL at *
        have HFL := Lib.hid hFL
        clear hFL
        go_wp2_with (first
          | (with_reducible refine at_load 23 ?_; go_must (refine wpList_load_row rfl 23 _ rfl w.heap.size rfl _ K _ _ rowr Try.underlying23 rfl hik ?_))
          | (with_reducible refine at_build 67 ?_; go_must (refine wpList_built' rfl 67 _ rfl CV.toArray (by go_simp) ?_))
          | (with_reducible refine at_slit 61 ?_; go_must (refine wpList_lit_append Try.underlying61 kv_info rfl (by decide) (by decide) rfl _ rfl rfl _ _ rfl w2.heap.size _ FL HO.out ⟨k, v⟩ CV HCV.out rfl rfl rfl HONE.out HKV.out hfl (by decide) hszr ?_)))
        intro v5 w5 HO5 T5 hv5
        have HB5 := Lib.hid (touch_own HBR.out (Nat.le_refl _) HO.out T5)
        have HO5 := Lib.hid HO5
        clear T5 hv5
        go_wp2
        go_roundw
        case rel => exact ⟨i + 1, by omega, by go_num, by simp, by rw [HF1.out]; exact HO5.out, HB5.out⟩
        case measure => simp [intOf]; omega
      · have hne : ((i : Int) == (i0 : Int)) = false := by rw [beq_eq_false_iff_ne]; omega
        have hMi : M[i] = L[i] := by
          simp only [← HM.out]
          rw [List.getElem_set_ne (by omega)]
        rw [hMi] at hf1
        obtain ⟨b0, off, rfl, hrows⟩ := Hr.rows.rows.resolve_left (fun e => by rw [e] at hlt; simp at hlt)
        have hC3 : wr.drew.rangeAt b0 (off + i * 33) (kvC L[i]) := hrows i hlt
        have c03 : wr.drew.cell? ⟨x, 0, none⟩ = some (.slice (some ⟨b0, off, none⟩) L.length cp) := c0r
        have hkey := Hr.key L[i] (List.getElem_mem hlt)
        have HLC := Lib.hid (length_kvC hkey)
        have hiC : (Try.prog.info? 67).map (·.size) = some (kvC L[i]).length := by rw [HLC.out]; kernel_rfl
        have HONEi := Lib.hid (one_kvC L[i])
        have kd : Keeps wr wr.drew := Keeps.drewN wr 1
        have ne : Nonempty (Of (Keeps wr)) := of_ne kd
        have HB3 := Lib.hid (hbr.trans ((show Below wr.heap.size wr wr.drew from (Below.refl _ _).drew).mono hbr.size))
        have HO3 := Lib.hid (HO.drewN 1)
        rw [show wr.drewN 1 = wr.drew from rfl] at HO3
        have HF1 := Lib.hid hf1
        have hi0n : i < i0 ∨ i0 < i := by omega
        clear Hr hbr hf1 hMi HO hrows hkey
        generalize hFL : M.take i = FL at *
        have HFL := Lib.hid hFL
        clear hFL
        generalize L[i] = li at *
        generalize hC : kvC li = C at *
        have HC := Lib.hid hC
        clear hC
        have ei : decide ((i0 : Int) < 0) = false := decide_eq_false (by omega)
        have ei2 : ¬ ((i0 : Int) < 0) := by omega
        rcases hi0n with hlo | hlo
        · have hdn : decide (i0 < i) = false := decide_eq_false (by omega)
          have hdn1 : decide (i0 < i + 1) = false := decide_eq_false (by omega)
          go_wp2_with fail
          refine wp_region_plan [([0, 1, 2, 3, 4, 5, 6, 7, 8, 9, 10, 11, 12, 13, 14, 15], some 16), ([17], none)] (fun w' => ∃ y : Of (Keeps wr), w' = y.to) (by kernel_rfl) (by kernel_rfl) (fun _ _ d _ _ h => by cases d <;> exact h) (of_mk kd) ?_
          refine plan_some (show wpQuiet _ _ _ _ (_ :: _ :: _ :: _ :: _ :: _ :: _ :: _ :: _ :: _ :: _ :: _ :: _ :: _ :: _ :: _ :: []) _ from ?_)
          repeat (first
            | go_big_quiet_step (fail)
            | quiet_step (fail))
          refine wpQuiet_nil (show wpList _ _ _ (_ :: []) _ _ from ?_)
          go_wp2_with fail
          refine late_normal (fun _ h => h) (of_mk kd) ?_
          refine plan_none (show wpQuiet _ _ _ _ (_ :: []) _ from ?_)
          repeat (first
            | go_big_quiet_step (fail)
            | quiet_step (fail))
          refine wpQuiet_nil ?_
          refine plan_nil ?_
          clear kd ne c0r
          generalize wr.drew = w3 at *
          go_wp2_with (first
            | (with_reducible refine at_load 67 ?_; go_must (refine wpList_load_mid rfl 67 _ rfl b0 (off + i * 33) rfl C _ hC3 Try.underlying67 rfl hiC ?_))
            | (with_reducible refine at_slit 61 ?_; go_must (refine wpList_lit_append Try.underlying61 kv_info rfl (by decide) (by decide) rfl _ rfl rfl _ _ rfl w2.heap.size _ FL HO3.out li C HC.out rfl rfl rfl HONEi.out HLC.out hfl (by decide) HB3.out.size ?_)))
          intro v5 w5 HO5 T5 hv5
          have HB5 := Lib.hid (touch_own HB3.out (Nat.le_refl _) HO3.out T5)
          have HO5 := Lib.hid HO5
          clear T5 hv5 hC3 c03
          go_wp2
          go_roundw
          case rel => exact ⟨i + 1, by omega, by go_num, by rw [hdn1], by rw [HF1.out]; exact HO5.out, HB5.out⟩
          case measure => simp [intOf]; omega
        · have hdn : decide (i0 < i) = true := decide_eq_true (by omega)
          have hdn1 : decide (i0 < i + 1) = true := decide_eq_true (by omega)
          go_wp2_with fail
          refine wp_region_plan [([0, 1, 2, 3, 4, 5, 6, 7, 8, 9, 10, 11, 12, 13, 14, 15], some 16), ([17], none)] (fun w' => ∃ y : Of (Keeps wr), w' = y.to) (by kernel_rfl) (by kernel_rfl) (fun _ _ d _ _ h => by cases d <;> exact h) (of_mk kd) ?_
          refine plan_some (show wpQuiet _ _ _ _ (_ :: _ :: _ :: _ :: _ :: _ :: _ :: _ :: _ :: _ :: _ :: _ :: _ :: _ :: _ :: _ :: []) _ from ?_)
          repeat (first
            | go_big_quiet_step (fail)
            | quiet_step (fail))
          refine wpQuiet_nil (show wpList _ _ _ (_ :: []) _ _ from ?_)
          go_wp2_with fail
          refine late_normal (fun _ h => h) (of_mk kd) ?_
          refine plan_none (show wpQuiet _ _ _ _ (_ :: []) _ from ?_)
          repeat (first
            | go_big_quiet_step (fail)
            | quiet_step (fail))
          refine wpQuiet_nil ?_
          refine plan_nil ?_
          clear kd ne c0r
          generalize wr.drew = w3 at *
          go_wp2_with (first
            | (with_reducible refine at_load 67 ?_; go_must (refine wpList_load_mid rfl 67 _ rfl b0 (off + i * 33) rfl C _ hC3 Try.underlying67 rfl hiC ?_))
            | (with_reducible refine at_slit 61 ?_; go_must (refine wpList_lit_append Try.underlying61 kv_info rfl (by decide) (by decide) rfl _ rfl rfl _ _ rfl w2.heap.size _ FL HO3.out li C HC.out rfl rfl rfl HONEi.out HLC.out hfl (by decide) HB3.out.size ?_)))
          intro v5 w5 HO5 T5 hv5
          have HB5 := Lib.hid (touch_own HB3.out (Nat.le_refl _) HO3.out T5)
          have HO5 := Lib.hid HO5
          clear T5 hv5 hC3 c03
          go_wp2
          go_roundw
          case rel => exact ⟨i + 1, by omega, by go_num, by rw [hdn1], by rw [HF1.out]; exact HO5.out, HB5.out⟩
          case measure => simp [intOf]; omega
    · obtain rfl : i = M.length := by omega
      have hd : decide (i0 < M.length) = true := decide_eq_true (by omega)
      have ei : decide ((i0 : Int) < 0) = false := decide_eq_false (by omega)
      have ei2 : ¬ ((i0 : Int) < 0) := by omega
      rw [List.take_of_length_le (Nat.le_refl _)] at HO ⊢
      have HF := Lib.hid HO.form
      have HB3 := Lib.hid hbr
      have HR := Lib.hid Hr.head
      have c1r := Hr.head.c1
      have c2r := Hr.head.c2
      clear HO Hr hbr
      go_wp2_with fail
      go_quiet (fail)
      have td : Touch (fun _ => False) wr (wr.drewN nq) := (Touch.refl _ _).drewN nq
      have hH3 := HR.out.touch td id
      have c03 := hH3.c0
      have th3 := hH3.thawed
      have HH3 := Lib.hid hH3
      have HTD := Lib.hid td
      clear c0r c1r c2r td hH3
      generalize wr.drewN nq = w3 at *
      go_wp2_with fail
      refine bodyPost_end (results_none rfl _ _ _) rfl ?_
      obtain ⟨av', cv', e, hR, hown⟩ := HF.out
      injection e with e1 _ e3
      subst e1 e3
      have hbw : ∀ ad, av = some ad → w2.heap.size ≤ ad.block ∧ ad.block < wr.heap.size := fun ad e => by
        rcases hown with ⟨_, e2, _⟩ | ⟨gb, e2, _, q1, q2, _⟩
        · rw [e2] at e; cases e
        · rw [e2] at e; injection e with e; subst e; exact ⟨q1, q2⟩
      have hap : ∀ ad, av = some ad → ad.block ≠ x := fun ad e => by have := (hbw ad e).1; omega
      have TS : Touch (fun y => y = x) w3 (w3.setCell ⟨x, 0, none⟩ (.slice av L.length cv)) := Touch.set (F := fun y => y = x) _ x 0 _ rfl
      have hsz3 : wr.heap.size ≤ w3.heap.size := HTD.out.size
      refine ⟨rfl, av, cv, M, cap, dead, ⟨by rw [hMl]; exact HH3.out.set0 av L.length cv, ((hR.touch HTD.out fun _ _ => id).touch TS hap), fun p hp => ?_, fun ad e => ⟨hap ad e, by have := (hbw ad e).2; have := TS.size; omega⟩⟩, .inl ⟨i0, hi0, HK0.out, HM.out.symm⟩, ⟨fun _ => ⟨hMl, rfl, rfl⟩, fun q => (q HEX.out).elim⟩, fun ad e => Nat.le_trans HB2.out.size (hbw ad e).1, ?_⟩
      · rw [← HM.out] at hp
        rcases List.mem_or_eq_of_mem_set hp with hp | rfl
        · exact H2.out.key p hp
        · exact hkk
      · exact ((Touch.of_below (HB2.out.trans (HB3.out.mono HB2.out.size))).trans (HTD.out.mono fun _ e => e.elim)).trans TS
end Go.Proofs.Ytahmnpbfjfllmaa
