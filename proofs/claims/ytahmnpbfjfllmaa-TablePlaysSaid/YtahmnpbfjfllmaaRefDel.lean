/- The document's own Delete. -/
import Derived.Test.YtahmnpbfjfllmaaRefPutN
import Derived.Test.YtahmnpbfjfllmaaOwn2
namespace Go.Proofs.Ytahmnpbfjfllmaa
open Go Go.RowKit

theorem rdel_miss {w : World} {x : Nat} {a : Option Addr} {cp : Nat} {L : List KV} {cap dead : Nat} (h : RefAt w x a cp L cap dead) (k : List (BitVec 8)) (hk : k.length = 32) (hno : ∀ p ∈ L, p.key ≠ k) :
    Calls Try.prog 35 #[.pointer (some ⟨x, 0, none⟩), .agg (k.map U8).toArray] w fun e w' => e = .returned (.bool false) ∧ Below w.heap.size w w' := by
  have row : (w.alloc (.cells (k.map U8).toArray 23)).heap[w.heap.size]? = some (.cells (k.map U8).toArray 23 (0, 0)) := heap_alloc_new w _
  have hb : Below w.heap.size w (w.alloc (.cells (k.map U8).toArray 23)) := (Below.refl _ _).alloc (Nat.le_refl _) _
  have h1 := h.below hb
  have hik : (Try.prog.info? 23).map (·.size) = some (k.map U8).toArray.size := by rw [List.size_toArray, List.length_map, hk]; kernel_rfl
  have AT := at_any h1 k hk
  clear h h1
  generalize hKE : (k.map U8).toArray = K at *
  clear hKE
  go_enter Try.func35, Try.ntmps35
  go_wp2_with (with_reducible refine at_load 23 ?_; refine wpList_load_row rfl 23 _ rfl w.heap.size rfl _ K _ _ row Try.underlying23 rfl hik ?_)
  generalize w.alloc (.cells K 23) = w1 at *
  refine AT.mono ?_
  rintro e w2 ⟨⟨r, rfl, hat⟩, hb2⟩
  obtain rfl : r = -1 := by
    rcases hat with ⟨q, _⟩ | ⟨i, hi, _, e⟩
    · exact q
    · exact (hno _ (List.getElem_mem hi) e).elim
  clear AT hat
  go_wp2
  go_ret
  exact ⟨rfl, hb.trans (hb2.mono hb.size)⟩
/-- What stands behind the document's Delete that found its key. -/
def RDelPost (w : World) (x : Nat) (L : List KV) (cap dead : Nat) (k : List (BitVec 8)) (e : Ending) (w' : World) : Prop :=
  e = .returned (.bool true) ∧ ∃ (i : Nat) (hi : i < L.length) (a' : Option Addr) (cp' cap' dead' : Nat), L[i].key = k ∧ RefAt w' x a' cp' (L.take i ++ L.drop (i + 1)) cap' dead' ∧ Tab.DelNums cap L.length dead cap' (L.take i ++ L.drop (i + 1)).length dead' ∧ (∀ ad, a' = some ad → w.heap.size ≤ ad.block) ∧ Touch (fun y => y = x) w w'
set_option maxHeartbeats 4000000 in
set_option maxRecDepth 40000 in
theorem rdel_hit {w : World} {x : Nat} {a : Option Addr} {cp : Nat} {L : List KV} {cap dead : Nat} (h : RefAt w x a cp L cap dead) (k : List (BitVec 8)) (hk : k.length = 32) (hex : ∃ p ∈ L, p.key = k) (hL : L.length ≤ 90000) (hcap : cap ≤ 1048576) (hdead : dead ≤ 1048576) :
    Calls Try.prog 35 #[.pointer (some ⟨x, 0, none⟩), .agg (k.map U8).toArray] w (RDelPost w x L cap dead k) := by
  have row : (w.alloc (.cells (k.map U8).toArray 23)).heap[w.heap.size]? = some (.cells (k.map U8).toArray 23 (0, 0)) := heap_alloc_new w _
  have hb : Below w.heap.size w (w.alloc (.cells (k.map U8).toArray 23)) := (Below.refl _ _).alloc (Nat.le_refl _) _
  have h1 := h.below hb
  have hik : (Try.prog.info? 23).map (·.size) = some (k.map U8).toArray.size := by rw [List.size_toArray, List.length_map, hk]; kernel_rfl
  have AT := at_any h1 k hk
  have hfit := h.rows.fits
  have hroom := h.rows.room
  have hxs := heap_lt h.head
  clear h
  generalize hKE : (k.map U8).toArray = K at *
  clear hKE
  go_enter Try.func35, Try.ntmps35
  go_wp2_with (with_reducible refine at_load 23 ?_; refine wpList_load_row rfl 23 _ rfl w.heap.size rfl _ K _ _ row Try.underlying23 rfl hik ?_)
  generalize w.alloc (.cells K 23) = w1 at *
  refine AT.mono ?_
  rintro e w2 ⟨⟨r, rfl, hat⟩, hb2⟩
  obtain ⟨i, hi, rfl, hki⟩ : ∃ i : Nat, ∃ h : i < L.length, r = i ∧ L[i].key = k := by
    rcases hat with ⟨_, hno⟩ | q
    · obtain ⟨p, hp, e⟩ := hex
      exact (hno p hp e).elim
    · exact q
  have h2 := h1.below hb2
  obtain ⟨b0, off, rfl, hrows⟩ := h2.rows.rows.resolve_left (fun e => by rw [e] at hi; simp at hi)
  have HB2 := Lib.hid (hb.trans (hb2.mono hb.size))
  have hx2 : x < w2.heap.size := heap_lt h2.head
  have hkeys := h2.key
  have HKI := Lib.hid hki
  have kd : Keeps w2 w2.drew := Keeps.drewN w2 1
  have ne : Nonempty (Of (Keeps w2)) := of_ne kd
  have c02 := h2.head.c0
  have c0y : ∀ y : Of (Keeps w2), y.to.cell? ⟨x, 0, none⟩ = some (.slice (some ⟨b0, off, none⟩) L.length cp) := fun y => y.ok _ _ c02
  have sTo := fun W => run_to_c (P := Try.prog) Try.underlying61 kv_info W (some ⟨b0, off, none⟩) L.length cp .i64 i (i : Int) rfl (by omega)
  have sFrom := fun W => run_from_c (P := Try.prog) Try.underlying61 kv_info W (some ⟨b0, off, none⟩) L.length cp .i64 (i + 1) ((i : Int) + 1) (by omega) (by omega)
  obtain ⟨ad2, had2⟩ : ∃ ad2, dropC (some ⟨b0, off, none⟩) cp (i + 1) 33 = some ad2 := by unfold dropC; split <;> exact ⟨_, rfl⟩
  have RT := (h2.rows.take i).keeps kd
  have RD := h2.rows.drop (i + 1) (by omega)
  rw [had2] at RD
  simp only [had2] at sFrom
  have H2 := Lib.hid h2
  have hmT : (L.take i).length = i := by rw [List.length_take]; omega
  have hmD : (L.drop (i + 1)).length = L.length - (i + 1) := List.length_drop
  have hlT : ∀ y ∈ L.take i, (kvC y).length = 33 := fun y hy => length_kvC (hkeys y (List.mem_of_mem_take hy))
  have hlD : ∀ y ∈ L.drop (i + 1), (kvC y).length = 33 := fun y hy => length_kvC (hkeys y (List.mem_of_mem_drop hy))
  have HMT := Lib.hid hmT
  have HMD := Lib.hid hmD
  have HLT := Lib.hid hlT
  have HLD := Lib.hid hlD
  have HRT := Lib.hid RT
  have HRD := Lib.hid RD
  clear AT h1 hat hb hb2 row hki hex h2 hrows RT RD hmT hmD hlT hlD hkeys
  obtain ⟨N2, hN2⟩ : ∃ N2, L.length - (i + 1) = N2 := ⟨_, rfl⟩
  obtain ⟨C2, hC2⟩ : ∃ C2, cp - (i + 1) = C2 := ⟨_, rfl⟩
  rw [hN2] at HMD
  rw [hC2] at HRD
  simp only [hN2, hC2] at sFrom
  have HN2 := Lib.hid hN2
  have HC2 := Lib.hid hC2
  clear hN2 hC2
  have hi0 : ¬ ((i : Int) < 0) := by omega
  have hi1 : decide ((i : Int) < 0) = false := decide_eq_false hi0
  go_wp2_with fail
  refine wp_region_plan [([0, 1, 2, 3, 4, 5, 6, 8, 9, 10, 11, 12, 13, 14], some 7), ([], some 15), ([16], none)] (fun w' => ∃ y : Of (Keeps w2), w' = y.to) (by kernel_rfl) (by kernel_rfl) (fun _ _ d _ _ h => by cases d <;> exact h) (of_mk kd) ?_
  refine plan_some (show wpQuiet _ _ _ _ (_ :: _ :: _ :: _ :: _ :: _ :: _ :: _ :: _ :: _ :: _ :: _ :: _ :: _ :: []) _ from ?_)
  repeat (first
    | (go_big_quiet_want; refine quiet_slice_c 61 _ _ _ _ rfl (.slice (some ⟨b0, off, none⟩) i cp) (fun W => (sliceAt_c Try.underlying61).trans (sTo W)) ?_; simp only [Act.put, List.setIfInBounds_toArray, List.set_cons_succ, List.set_cons_zero]; go_big_quiet_on)
    | (go_big_quiet_want; refine quiet_slice_c 61 _ _ _ _ rfl (.slice (some ad2) N2 C2) (fun W => (sliceAt_c Try.underlying61).trans (sFrom W)) ?_; simp only [Act.put, List.setIfInBounds_toArray, List.set_cons_succ, List.set_cons_zero]; go_big_quiet_on)
    | go_big_quiet_step (fail)
    | quiet_step (fail))
  refine wpQuiet_nil (show wpList _ _ _ (_ :: []) _ _ from ?_)
  go_wp2_with (at_builtin; go_must (refine wpList_append_cs Try.underlying61 kv_info rfl (by decide) rfl _ _ rfl w2.heap.size _ rfl (ownsC_nil _ _ _) (L.take i) i cp HMT.out ⟨b0, off, none⟩ rfl HRT.out HLT.out (fun y _ => one_kvC y) (by simp; omega) (by decide) (Nat.le_refl _) ?_))
  intro v5 w5 HO5 T5 hv5
  have k5 : Keeps w2 w5 := fun q v hq => T5.cell (kd q v hq) (fun e => by cases e)
  have HB5 := Lib.hid ((show Below w2.heap.size w2 w2.drew from (Below.refl _ _).drew).trans (T5.below (B := w2.heap.size) (fun _ e => by cases e) (Nat.le_refl _)))
  obtain ⟨T, hT⟩ : ∃ T, L.take i = T := ⟨_, rfl⟩
  obtain ⟨D, hD⟩ : ∃ D, L.drop (i + 1) = D := ⟨_, rfl⟩
  rw [hT] at HO5 HMT
  rw [hD] at HMD HRD HLD
  have HT := Lib.hid hT
  have HD := Lib.hid hD
  have hTl : T.length + 1 ≤ 90000 := by have := HMT.out; omega
  have HO5 := Lib.hid HO5
  obtain ⟨av5, cv5, rfl, _, _⟩ := HO5.out.form
  clear T5 hv5 sTo sFrom HRT hT hD c0y
  go_wp2_with fail
  refine late_normal (fun _ h => h) (of_mk k5) ?_
  refine plan_some (show wpQuiet _ _ _ _ [] _ from ?_)
  refine wpQuiet_nil (show wpList _ _ _ (_ :: []) _ _ from ?_)
  go_wp2_with (at_builtin; go_must (refine wpList_append_cs Try.underlying61 kv_info rfl (by decide) rfl _ _ rfl w2.heap.size _ rfl HO5.out D N2 C2 HMD.out ad2 rfl (HRD.out.keeps k5) HLD.out (fun y _ => one_kvC y) (by have := HMD.out; have := HN2.out; omega) (by decide) HB5.out.size ?_))
  intro v6 w6 HO6 T6 hv6
  have HB6 := Lib.hid (touch_own HB5.out (Nat.le_refl _) HO5.out T6)
  have k6 : Keeps w2 w6 := Keeps.below HB6.out
  have hlen : (T ++ D).length + 1 = L.length := by
    rw [List.length_append, HMT.out, HMD.out, ← HN2.out]; omega
  obtain ⟨O', hO'⟩ : ∃ O', T ++ D = O' := ⟨_, rfl⟩
  rw [hO'] at HO6 hlen
  have HO' := Lib.hid hO'
  have HO6 := Lib.hid HO6
  obtain ⟨av, cv, rfl, RX, ownX⟩ := HO6.out.form
  have H6 := Lib.hid (H2.out.below HB6.out).head
  have hx6 : x < w6.heap.size := heap_lt H6.out
  have hbw : ∀ ad, av = some ad → w2.heap.size ≤ ad.block ∧ ad.block < w6.heap.size := fun ad e => by
    rcases ownX with ⟨_, e2, _⟩ | ⟨gb, e2, _, q1, q2, _⟩
    · rw [e2] at e; cases e
    · rw [e2] at e; injection e with e; subst e; exact ⟨q1, q2⟩
  have hap : ∀ ad, av = some ad → ad.block ≠ x := fun ad e => by have := (hbw ad e).1; omega
  have HBW := Lib.hid hbw
  have HAP := Lib.hid hap
  have HRX := Lib.hid RX
  have h1 := H6.out.set0 av O'.length cv
  have h2 := h1.set2 (dead + 1)
  rw [show (((dead + 1 : Nat)) : Int) = (dead : Int) + 1 by omega] at h2
  have x0 := H6.out.c0
  have t0 := H6.out.thawed
  have x1 := h1.c2
  have t1 := h1.thawed
  have y0 := h2.c0
  have y1 := h2.c1
  have TS1 : Touch (fun y => y = x) w6 (w6.setCell ⟨x, 0, none⟩ (.slice av O'.length cv)) := Touch.set (F := fun y => y = x) _ x 0 _ rfl
  have TS := TS1.trans (Touch.set (F := fun y => y = x) (w6.setCell ⟨x, 0, none⟩ (.slice av O'.length cv)) x 2 (.int .i64 ((dead : Int) + 1)) rfl)
  have HTS := Lib.hid TS
  have HH8 := Lib.hid h2
  have HLEN := Lib.hid hlen
  have hlenM : O'.length ≤ 90000 := by omega
  clear h1 h2 TS1 TS hbw hap RX ownX T6 hv6 hO' hlen k5 hTl c02
  go_wp2_with fail
  refine late_normal (fun _ h => h) (of_mk k6) ?_
  refine plan_none (show wpQuiet _ _ _ _ (_ :: []) _ from ?_)
  repeat (first
    | go_big_quiet_step (fail)
    | quiet_step (fail))
  refine wpQuiet_nil ?_
  refine plan_nil ?_
  clear k6 kd ne
  go_wp2_with fail
  generalize (w6.setCell ⟨x, 0, none⟩ (.slice av O'.length cv)).setCell ⟨x, 2, none⟩ (.int .i64 ((dead : Int) + 1)) = w8 at *
  clear x0 t0 x1 t1
  have fin : ∀ (cap' dead' : Nat) (wf : World), RHead wf x av O'.length cv cap' dead' → Touch (fun y => y = x) w6 wf → Tab.DelNums cap L.length dead cap' O'.length dead' → RDelPost w x L cap dead k (.returned (.bool true)) wf := by
    intro cap' dead' wf q1 q3 q5
    have e : L.take i ++ L.drop (i + 1) = O' := by rw [HT.out, HD.out, HO'.out]
    refine ⟨rfl, i, hi, av, cv, cap', dead', HKI.out, ?_, ?_, fun ad e => Nat.le_trans HB2.out.size (HBW.out ad e).1, (Touch.of_below (HB2.out.trans (HB6.out.mono HB2.out.size))).trans q3⟩
    · rw [e]
      refine ⟨q1, HRX.out.touch q3 HAP.out, fun p hp => ?_, fun ad e => ⟨HAP.out ad e, by have := (HBW.out ad e).2; have := q3.size; omega⟩⟩
      rw [← e] at hp
      rcases List.mem_append.1 hp with hp | hp
      · exact H2.out.key p (List.mem_of_mem_take hp)
      · exact H2.out.key p (List.mem_of_mem_drop hp)
    · rw [e]; exact q5
  have HFIN := Lib.hid fin
  clear fin
  by_cases hc : 8 < cap
  · have hg1 : decide ((8 : Int) < (cap : Int)) = true := decide_eq_true (by omega)
    by_cases hd : 8 * O'.length < cap
    · have hg2 : decide (8 * (O'.length : Int) < (cap : Int)) = true := decide_eq_true (by omega)
      go_quiet (fail)
      have td : Touch (fun _ => False) w8 (w8.drewN nq) := (Touch.refl _ _).drewN nq
      have HH9 := Lib.hid (HH8.out.touch td id)
      have HT9 := Lib.hid (HTS.out.trans (td.mono fun _ e => e.elim))
      clear td y0 y1
      generalize w8.drewN nq = w9 at *
      have SL := slots_any w9 O'.length (by omega)
      have y0 := HH9.out.c0
      go_wp2_with fail
      refine SL.mono ?_
      rintro e w' ⟨⟨c', rfl, hsz⟩, rfl⟩
      have h1 := HH9.out.set1 c'
      have h2 := h1.set2 0
      rw [show (((0 : Nat)) : Int) = 0 from rfl] at h2
      have z1 := HH9.out.c1
      have t1 := HH9.out.thawed
      have z2 := h1.c2
      have t2 := h1.thawed
      have TS1 : Touch (fun y => y = x) w9 (w9.setCell ⟨x, 1, none⟩ (.int .i64 c')) := Touch.set (F := fun y => y = x) _ x 1 _ rfl
      have TS := TS1.trans (Touch.set (F := fun y => y = x) (w9.setCell ⟨x, 1, none⟩ (.int .i64 c')) x 2 (.int .i64 0) rfl)
      have HTF := Lib.hid (HT9.out.trans TS)
      have HF := Lib.hid h2
      have HSZ := Lib.hid hsz
      clear SL h1 h2 TS1 TS y0 hsz
      go_wp2_with fail
      go_ret
      exact HFIN.out c' 0 _ HF.out HTF.out ⟨HLEN.out, fun _ => ⟨HSZ.out, rfl⟩, fun q => (q ⟨hc, hd⟩).elim⟩
    · have hg2 : decide (8 * (O'.length : Int) < (cap : Int)) = false := decide_eq_false (by omega)
      go_quiet (fail)
      have td : Touch (fun _ => False) w8 (w8.drewN nq) := (Touch.refl _ _).drewN nq
      have HH9 := Lib.hid (HH8.out.touch td id)
      have HT9 := Lib.hid (HTS.out.trans (td.mono fun _ e => e.elim))
      clear td y0 y1
      generalize w8.drewN nq = w9 at *
      go_wp2_with fail
      go_ret
      exact HFIN.out cap (dead + 1) _ HH9.out HT9.out ⟨HLEN.out, fun q => (hd q.2).elim, fun _ => ⟨rfl, rfl⟩⟩
  · have hg1 : decide ((8 : Int) < (cap : Int)) = false := decide_eq_false (by omega)
    go_quiet (fail)
    have td : Touch (fun _ => False) w8 (w8.drewN nq) := (Touch.refl _ _).drewN nq
    have HH9 := Lib.hid (HH8.out.touch td id)
    have HT9 := Lib.hid (HTS.out.trans (td.mono fun _ e => e.elim))
    clear td y0 y1
    generalize w8.drewN nq = w9 at *
    go_wp2_with fail
    go_ret
    exact HFIN.out cap (dead + 1) _ HH9.out HT9.out ⟨HLEN.out, fun q => (hc q.1).elim, fun _ => ⟨rfl, rfl⟩⟩
end Go.Proofs.Ytahmnpbfjfllmaa
