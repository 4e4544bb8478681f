/- Delete (values: numbers). -/
import Derived.Test.YtahmnpbfjfllmaaTPut2
namespace Go.Proofs.Ytahmnpbfjfllmaa
open Go Go.RowKit

/-- What stands behind a Delete that found its key, with the slots, the keys and the dead ones. -/
def DelExact (w : World) (h b c n g : Nat) (S : Nat → SlotI) (k : List (BitVec 8)) (e : Ending) (w' : World) : Prop :=
  e = .returned (.bool true) ∧ ∃ b' c' S' n' g', TabAt w' h b' c' S' n' g' ∧ (∀ k' v', Tab.Has S' c' k' v' ↔ k' ≠ k ∧ Tab.Has S c k' v') ∧ n' ≤ n ∧ (b' = b ∨ w.heap.size ≤ b') ∧ Touch (fun y => y = h ∨ y = b) w w' ∧ Tab.DelNums c n g c' n' g'
/-- What stands behind a Delete that found its key. -/
def DelPost (w : World) (h b c n : Nat) (S : Nat → SlotI) (k : List (BitVec 8)) (e : Ending) (w' : World) : Prop :=
  e = .returned (.bool true) ∧ ∃ b' c' S' n' g', TabAt w' h b' c' S' n' g' ∧ (∀ k' v', Tab.Has S' c' k' v' ↔ k' ≠ k ∧ Tab.Has S c k' v') ∧ n' ≤ n ∧ (b' = b ∨ w.heap.size ≤ b') ∧ Touch (fun y => y = h ∨ y = b) w w'
section
variable {w : World} {h b c n g : Nat} {S : Nat → SlotI}
theorem del_miss (t : TabAt w h b c S n g) (k : List (BitVec 8)) (hk : k.length = 32) (hm : ∀ v, ¬ Tab.Has S c k v) :
    Calls Try.prog 34 #[.pointer (some ⟨h, 0, none⟩), .agg (k.map U8).toArray] w fun e w' => e = .returned (.bool false) ∧ Below w.heap.size w w' := by
  have row : (w.alloc (.cells (k.map U8).toArray 23)).heap[w.heap.size]? = some (.cells (k.map U8).toArray 23 (0, 0)) := heap_alloc_new w _
  have hb : Below w.heap.size w (w.alloc (.cells (k.map U8).toArray 23)) := (Below.refl _ _).alloc (Nat.le_refl _) _
  have t1 := t.below hb
  obtain ⟨j, hj⟩ := Tab.found_of_room t.look.inv.room k
  have FI := find_any _ h b c S t1.look k hk j hj
  have OK := t1.ok
  have hik : (Try.prog.info? 23).map (·.size) = some (k.map U8).toArray.size := by rw [List.size_toArray, List.length_map, hk]; kernel_rfl
  have h1 : ¬ (S (Tab.place k c j)).st = 1 := fun e => hm _ ((t.look.inv.hit hj e _).2 rfl)
  have e1 : ((S (Tab.place k c j)).st == 1) = false := by simp [h1]
  rw [e1] at FI
  clear h1 e1 hj hm
  generalize (k.map U8).toArray = K at *
  generalize Tab.place k c j = p at *
  go_enter Try.func34, Try.ntmps34
  go_wp2_with fail
  generalize w.alloc (.cells K 23) = w1 at *
  refine OK.mono ?_
  rintro e w' ⟨rfl, rfl⟩
  go_wp2_with (with_reducible refine at_load 23 ?_; refine wpList_load_row rfl 23 _ rfl w.heap.size rfl _ K _ _ row Try.underlying23 rfl hik ?_)
  refine FI.mono ?_
  rintro e w2 ⟨rfl, hb2⟩
  go_wp2
  go_ret
  exact ⟨rfl, hb.trans (hb2.mono hb.size)⟩
set_option maxHeartbeats 2000000 in
theorem del_exact (t : TabAt w h b c S n g) (k : List (BitVec 8)) (hk : k.length = 32) (v : Int) (hm : Tab.Has S c k v) (hn : n ≤ 100000) :
    Calls Try.prog 34 #[.pointer (some ⟨h, 0, none⟩), .agg (k.map U8).toArray] w (DelExact w h b c n g S k) := by
  have row : (w.alloc (.cells (k.map U8).toArray 23)).heap[w.heap.size]? = some (.cells (k.map U8).toArray 23 (0, 0)) := heap_alloc_new w _
  have hb : Below w.heap.size w (w.alloc (.cells (k.map U8).toArray 23)) := (Below.refl _ _).alloc (Nat.le_refl _) _
  have t1 := t.below hb
  obtain ⟨j, hj⟩ := Tab.found_of_room t.look.inv.room k
  have FI := find_any _ h b c S t1.look k hk j hj
  have OK := t1.ok
  have hc8 := t.look.big.1
  have hcM := t.look.big.2
  have hpc := Tab.place_lt k (c := c) (by omega) j
  have hik : (Try.prog.info? 23).map (·.size) = some (k.map U8).toArray.size := by rw [List.size_toArray, List.length_map, hk]; kernel_rfl
  have h1 : (S (Tab.place k c j)).st = 1 := by
    by_cases e : (S (Tab.place k c j)).st = 1
    · exact e
    · exact (t.look.inv.miss hj e v hm).elim
  have e1 : ((S (Tab.place k c j)).st == 1) = true := by simp [h1]
  rw [e1] at FI
  obtain ⟨m1, m2, m3, m4⟩ := t.look.inv.delSlot hj h1 zeroKey 0
  rw [t.nf] at m3
  rw [t.nd] at m4
  obtain ⟨n1, hn1⟩ : ∃ n1, Tab.fulls (Tab.put S (Tab.place k c j) ⟨2, zeroKey, 0⟩) c = n1 := ⟨_, rfl⟩
  rw [hn1] at m3
  have hsub : (n : Int) - 1 = n1 := by omega
  have hroom := t.room
  have hnh := t.look.ne
  have hpow := t.look.pow
  have hhs := t.head.lt
  have hbuilt := built_dead
  have hlD := Lib.hid (length_slotC (s := ⟨2, zeroKey, 0⟩) rfl)
  have hoD : (slotC ⟨2, zeroKey, 0⟩).toArray.all (·.oneCell') = true := all_oneCell_toArray (one_slotC _)
  have hvD : (Try.prog.info? 93).map (·.size) = some (slotC ⟨2, zeroKey, 0⟩).toArray.size := by rw [List.size_toArray, hlD.out]; kernel_rfl
  have M1 := Lib.hid m1
  have M2 := Lib.hid m2
  have M4 := Lib.hid m4
  have HN1 := Lib.hid hn1
  have HM3 := Lib.hid m3
  have PUTS := fun (w' : World) (q : RowsOf w' b c S) => q.put hpc ⟨2, zeroKey, 0⟩ rfl
  generalize hDS : slotC ⟨2, zeroKey, 0⟩ = DS at *
  clear h1 e1 hj m1 m2 m3 m4 hn1 hm hk hDS
  generalize (k.map U8).toArray = K at *
  generalize Tab.place k c j = p at *
  go_enter Try.func34, Try.ntmps34
  go_wp2_with fail
  generalize w.alloc (.cells K 23) = w1 at *
  refine OK.mono ?_
  rintro e w' ⟨rfl, rfl⟩
  go_wp2_with (with_reducible refine at_load 23 ?_; refine wpList_load_row rfl 23 _ rfl w.heap.size rfl _ K _ _ row Try.underlying23 rfl hik ?_)
  refine FI.mono ?_
  rintro e w2 ⟨rfl, hb2⟩
  have t2 := t1.below hb2
  have hb3 := Lib.hid (hb.trans (hb2.mono hb.size))
  obtain ⟨cc, hcc, hccM, hx0⟩ := t2.look.slots
  have TH : w2.there b (p * 34) DS.toArray.size := by rw [List.size_toArray, hlD.out]; exact t2.look.rows.there hpc
  have PUT := PUTS w2 t2.look.rows
  have TP : Touch (fun y => y = b) w2 (w2.setCells b (p * 34) DS) := Touch.setCells (F := fun y => y = b) b rfl _ _ _
  have h3 : HeadAt (w2.setCells b (p * 34) DS) h b c n g := HeadAt.touch t2.head TP hnh
  have h4 := h3.set1 n1
  have T4 : Touch (fun y => y = h) (w2.setCells b (p * 34) DS) ((w2.setCells b (p * 34) DS).setCell ⟨h, 1, none⟩ (.int .i64 n1)) := Touch.set (F := fun y => y = h) _ h 1 _ rfl
  have h5 := h4.set2 (g + 1)
  rw [show (((g + 1 : Nat)) : Int) = (g : Int) + 1 by omega] at h5
  have T5 : Touch (fun y => y = h) ((w2.setCells b (p * 34) DS).setCell ⟨h, 1, none⟩ (.int .i64 n1)) (((w2.setCells b (p * 34) DS).setCell ⟨h, 1, none⟩ (.int .i64 n1)).setCell ⟨h, 2, none⟩ (.int .i64 ((g : Int) + 1))) := Touch.set (F := fun y => y = h) _ h 2 _ rfl
  have r5 := (PUT.touch T4 (show ¬ (b = h) from hnh.symm)).touch T5 (show ¬ (b = h) from hnh.symm)
  have c31 := h3.c1
  have th3 := h3.thawed
  have c42 := h4.c2
  have th4 := h4.thawed
  have H5 := Lib.hid h5
  have R5 := Lib.hid r5
  have TT : Touch (fun y => y = h ∨ y = b) w2 (((w2.setCells b (p * 34) DS).setCell ⟨h, 1, none⟩ (.int .i64 n1)).setCell ⟨h, 2, none⟩ (.int .i64 ((g : Int) + 1))) := ((TP.mono fun _ e => .inr e).trans (T4.mono fun _ e => .inl e)).trans (T5.mono fun _ e => .inl e)
  have HTT := Lib.hid TT
  clear OK FI t1 t2 row hb hb2 PUTS PUT TP h3 h4 h5 T4 T5 r5 TT
  go_wp2_with (first
    | (with_reducible refine at_build 93 ?_; go_must (refine wpList_built' rfl 93 _ rfl DS.toArray (by go_simp) ?_))
    | (with_reducible refine at_store 93 ?_; go_must (refine wpList_store_mid rfl 93 _ _ rfl b (p * 34) DS.toArray rfl rfl TH hvD hoD ?_)))
  obtain ⟨c5, hc5, hc5M, hx5⟩ := H5.out.c0
  have hx51 := H5.out.c1
  clear TH c31 th3 c42 th4 hx0 hlD hoD hvD
  generalize ((w2.setCells b (p * 34) DS).setCell ⟨h, 1, none⟩ (.int .i64 n1)).setCell ⟨h, 2, none⟩ (.int .i64 ((g : Int) + 1)) = w5 at *
  by_cases hc : 8 < c
  · have hg1 : decide ((8 : Int) < (c : Int)) = true := decide_eq_true (by omega)
    by_cases hd : 8 * n1 < c
    · have hg2 : decide (8 * (n1 : Int) < (c : Int)) = true := decide_eq_true (by omega)
      have RN := fun (w' : World) (q : HeadAt w' h b c n1 (g + 1)) (r : RowsOf w' b c (Tab.put S p ⟨2, zeroKey, 0⟩)) => renew_any w' h b c n1 (g + 1) _ q ⟨q.c0, r, hnh, M1.out, hpow, ⟨hc8, hcM⟩⟩ n1 (by rw [HN1.out]; exact Nat.le_refl _) (by have := HM3.out; omega)
      go_quiet (fail)
      have td : Touch (fun _ => False) w5 (w5.drewN nq) := (Touch.refl _ _).drewN nq
      have h6 := H5.out.touch td id
      have r6 := R5.out.touch td id
      have hx6 := h6.c1
      have RN6 := RN _ h6 r6
      have HTD := Lib.hid (((Touch.of_below hb3.out).trans HTT.out).drewN nq)
      clear RN h6 r6 td hx5 hx51
      go_wp2_with fail
      refine RN6.mono ?_
      rintro e w7 ⟨rfl, b', c', T, hH7, hL7, hP7, hc7, hb7, ht7, hs7⟩
      go_wp2
      go_ret
      have hhm := HM3.out
      have h87 := hL7.big.1
      refine ⟨rfl, b', c', T, n1, 0, ⟨hH7, hL7, hP7.nf.trans HN1.out, hP7.nd, by omega⟩, fun k' v' => (hP7.has k' v').trans (M2.out k' v'), by omega, .inr (Nat.le_trans (Nat.le_trans hb3.out.size HTT.out.size) hb7), ?_⟩
      exact ⟨HTD.out.trans (ht7.mono fun _ e => .inl e), by omega, fun _ => ⟨hs7, rfl⟩, fun q => (q ⟨hc, hd⟩).elim⟩
    · have hg2 : decide (8 * (n1 : Int) < (c : Int)) = false := decide_eq_false (by omega)
      go_quiet (fail)
      go_wp2
      go_ret
      have hhm := HM3.out
      have td : Touch (fun _ => False) w5 (w5.drewN nq) := (Touch.refl _ _).drewN nq
      refine ⟨rfl, b, c, _, n1, g + 1, ⟨H5.out.touch td id, ⟨⟨c5, hc5, hc5M, hx5⟩, R5.out.touch td id, hnh, M1.out, hpow, ⟨hc8, hcM⟩⟩, HN1.out, M4.out, by omega⟩, M2.out, by omega, .inl rfl, ?_⟩
      exact ⟨((Touch.of_below hb3.out).trans HTT.out).drewN _, by omega, fun q => (hd q.2).elim, fun _ => ⟨rfl, rfl⟩⟩
  · have hg1 : decide ((8 : Int) < (c : Int)) = false := decide_eq_false (by omega)
    go_quiet (fail)
    go_wp2
    go_ret
    have hhm := HM3.out
    have td : Touch (fun _ => False) w5 (w5.drewN nq) := (Touch.refl _ _).drewN nq
    refine ⟨rfl, b, c, _, n1, g + 1, ⟨H5.out.touch td id, ⟨⟨c5, hc5, hc5M, hx5⟩, R5.out.touch td id, hnh, M1.out, hpow, ⟨hc8, hcM⟩⟩, HN1.out, M4.out, by omega⟩, M2.out, by omega, .inl rfl, ?_⟩
    exact ⟨((Touch.of_below hb3.out).trans HTT.out).drewN _, by omega, fun q => (hc q.1).elim, fun _ => ⟨rfl, rfl⟩⟩
theorem del_hit (t : TabAt w h b c S n g) (k : List (BitVec 8)) (hk : k.length = 32) (v : Int) (hm : Tab.Has S c k v) (hn : n ≤ 100000) :
    Calls Try.prog 34 #[.pointer (some ⟨h, 0, none⟩), .agg (k.map U8).toArray] w (DelPost w h b c n S k) :=
  (del_exact t k hk v hm hn).mono fun _ _ ⟨e, b', c', S', n', g', h1, h2, h3, h4, h5, _⟩ => ⟨e, b', c', S', n', g', h1, h2, h3, h4, h5⟩
end
end Go.Proofs.Ytahmnpbfjfllmaa
