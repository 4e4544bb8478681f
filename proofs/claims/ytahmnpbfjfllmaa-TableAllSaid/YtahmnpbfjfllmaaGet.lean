/- What a table answers (values: numbers): Get, Len, Cap, Dead, Steps. -/
import Derived.Test.YtahmnpbfjfllmaaFind
namespace Go.Proofs.Ytahmnpbfjfllmaa
open Go Go.RowKit

section
variable {w : World} {h b c n g : Nat} {S : Nat → SlotI}
theorem TabAt.c1 (k : TabAt w h b c S n g) : w.cell? ⟨h, 1, none⟩ = some (.int .i64 n) := by
  obtain ⟨_, _, _, q⟩ := k.head
  rw [cell_of_row _ _ _ _ _ _ q]; rfl
theorem TabAt.c2 (k : TabAt w h b c S n g) : w.cell? ⟨h, 2, none⟩ = some (.int .i64 g) := by
  obtain ⟨_, _, _, q⟩ := k.head
  rw [cell_of_row _ _ _ _ _ _ q]; rfl
theorem TabAt.ok (k : TabAt w h b c S n g) : Calls Try.prog 47 #[.pointer (some ⟨h, 0, none⟩)] w fun e w' => e = .returned (.bool true) ∧ w = w' := ok_any w h b c k.look.slots k.look.big.1
theorem len_any (k : TabAt w h b c S n g) : Calls Try.prog 25 #[.pointer (some ⟨h, 0, none⟩)] w fun e w' => e = .returned (.int .i64 n) ∧ w = w' := by
  have h1 := k.c1
  go_enter Try.func25, Try.ntmps25
  go_wp2_with fail
  refine k.ok.mono ?_
  rintro e w' ⟨rfl, rfl⟩
  go_wp2
  go_ret
  exact ⟨rfl, rfl⟩
theorem dead_any (k : TabAt w h b c S n g) : Calls Try.prog 26 #[.pointer (some ⟨h, 0, none⟩)] w fun e w' => e = .returned (.int .i64 g) ∧ w = w' := by
  have h1 := k.c2
  go_enter Try.func26, Try.ntmps26
  go_wp2_with fail
  refine k.ok.mono ?_
  rintro e w' ⟨rfl, rfl⟩
  go_wp2
  go_ret
  exact ⟨rfl, rfl⟩
theorem cap_any (k : TabAt w h b c S n g) : Calls Try.prog 28 #[.pointer (some ⟨h, 0, none⟩)] w fun e w' => e = .returned (.int .i64 c) ∧ w = w' := by
  obtain ⟨cc, hcc, hccM, h1⟩ := k.look.slots
  go_enter Try.func28, Try.ntmps28
  go_wp2_with fail
  refine k.ok.mono ?_
  rintro e w' ⟨rfl, rfl⟩
  go_wp2
  go_ret
  exact ⟨rfl, rfl⟩
theorem steps_any (t : TabAt w h b c S n g) (k : List (BitVec 8)) (hk : k.length = 32) (j : Nat) (hj : Tab.Found S c k j) :
    Calls Try.prog 27 #[.pointer (some ⟨h, 0, none⟩), .agg (k.map U8).toArray] w fun e w' => e = .returned (.int .i64 ((j : Int) + 1)) ∧ Below w.heap.size w w' := by
  have row : (w.alloc (.cells (k.map U8).toArray 23)).heap[w.heap.size]? = some (.cells (k.map U8).toArray 23 (0, 0)) := heap_alloc_new w _
  have hb : Below w.heap.size w (w.alloc (.cells (k.map U8).toArray 23)) := (Below.refl _ _).alloc (Nat.le_refl _) _
  have t1 := t.below hb
  have FI := find_any _ h b c S t1.look k hk j hj
  have OK := t1.ok
  have hik : (Try.prog.info? 23).map (·.size) = some (k.map U8).toArray.size := by rw [List.size_toArray, List.length_map, hk]; kernel_rfl
  generalize (k.map U8).toArray = K at *
  go_enter Try.func27, Try.ntmps27
  go_wp2_with fail
  generalize w.alloc (.cells K 23) = w1 at *
  refine OK.mono ?_
  rintro e w' ⟨rfl, rfl⟩
  go_wp2_with (with_reducible refine at_load 23 ?_; refine wpList_load_row rfl 23 _ rfl w.heap.size rfl _ K _ _ row Try.underlying23 rfl hik ?_)
  refine FI.mono ?_
  rintro e w2 ⟨rfl, hb2⟩
  go_wp2
  go_ret
  exact ⟨rfl, hb.trans (hb2.mono hb.size)⟩
theorem get_any (t : TabAt w h b c S n g) (k : List (BitVec 8)) (hk : k.length = 32) (V : Option Int) (hV : ∀ v, Tab.Has S c k v ↔ V = some v) :
    Calls Try.prog 24 #[.pointer (some ⟨h, 0, none⟩), .agg (k.map U8).toArray] w fun e w' => e = .returned (.tuple #[.int .i64 (V.getD 0), .bool V.isSome]) ∧ Below w.heap.size w w' := by
  have row : (w.alloc (.cells (k.map U8).toArray 23)).heap[w.heap.size]? = some (.cells (k.map U8).toArray 23 (0, 0)) := heap_alloc_new w _
  have hb : Below w.heap.size w (w.alloc (.cells (k.map U8).toArray 23)) := (Below.refl _ _).alloc (Nat.le_refl _) _
  have t1 := t.below hb
  obtain ⟨j, hj⟩ := Tab.found_of_room t.look.inv.room k
  have FI := find_any _ h b c S t1.look k hk j hj
  have OK := t1.ok
  have hpc := Tab.place_lt k (c := c) (by have := t.look.big.1; omega) j
  have hkey := t.look.rows.key _ hpc
  have hik : (Try.prog.info? 23).map (·.size) = some (k.map U8).toArray.size := by rw [List.size_toArray, List.length_map, hk]; kernel_rfl
  generalize (k.map U8).toArray = K at *
  by_cases h1 : (S (Tab.place k c j)).st = 1
  · have hv := (hV _).1 ((t.look.inv.hit hj h1 _).2 rfl)
    subst hv
    have e1 : ((S (Tab.place k c j)).st == 1) = true := by simp [h1]
    rw [e1] at FI
    have CV := fun (w' : World) (q : TabAt w' h b c S n g) => rangeAt_cell (q.look.rows.cells _ hpc) (slotC_val hkey)
    have CS := fun (w' : World) (q : TabAt w' h b c S n g) => q.look.slots
    clear hV h1 e1 hj hkey
    generalize (S (Tab.place k c j)).val = v at *
    generalize Tab.place k c j = p at *
    go_enter Try.func24, Try.ntmps24
    go_wp2_with fail
    generalize w.alloc (.cells K 23) = w1 at *
    refine OK.mono ?_
    rintro e w' ⟨rfl, rfl⟩
    go_wp2_with (with_reducible refine at_load 23 ?_; refine wpList_load_row rfl 23 _ rfl w.heap.size rfl _ K _ _ row Try.underlying23 rfl hik ?_)
    refine FI.mono ?_
    rintro e w2 ⟨rfl, hb2⟩
    have t2 := t1.below hb2
    have cv := CV w2 t2
    obtain ⟨cc, hcc, hccM, cs⟩ := CS w2 t2
    have hcM := t2.look.big.2
    clear CV CS
    go_wp2
    go_ret2
    exact ⟨rfl, hb.trans (hb2.mono hb.size)⟩
  · have hv : V = none := by
      cases V with
      | none => rfl
      | some v => exact (t.look.inv.miss hj h1 v ((hV v).2 rfl)).elim
    subst hv
    have e1 : ((S (Tab.place k c j)).st == 1) = false := by simp [h1]
    rw [e1] at FI
    clear hV h1 e1 hj hkey
    generalize Tab.place k c j = p at *
    go_enter Try.func24, Try.ntmps24
    go_wp2_with fail
    generalize w.alloc (.cells K 23) = w1 at *
    refine OK.mono ?_
    rintro e w' ⟨rfl, rfl⟩
    go_wp2_with (with_reducible refine at_load 23 ?_; refine wpList_load_row rfl 23 _ rfl w.heap.size rfl _ K _ _ row Try.underlying23 rfl hik ?_)
    refine FI.mono ?_
    rintro e w2 ⟨rfl, hb2⟩
    go_wp2
    go_ret2
    exact ⟨rfl, hb.trans (hb2.mono hb.size)⟩
end
end Go.Proofs.Ytahmnpbfjfllmaa
