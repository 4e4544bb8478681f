/- What a table answers (values: 3 numbers): Get, Len. -/
import Derived.Test.YtahmnpbfjfllmaaPFind
import Derived.Test.YtahmnpbfjfllmaaRC
namespace Go.Proofs.Ytahmnpbfjfllmaa.Pl
open Go Go.RowKit

section
variable {w : World} {h b c n g : Nat} {S : Nat → SlotI}
theorem TabAt.c1 (k : TabAt w h b c S n g) : w.cell? ⟨h, 1, none⟩ = some (.int .i64 n) := by rw [cell_of_row _ _ _ _ _ _ k.head]; rfl
theorem TabAt.c2 (k : TabAt w h b c S n g) : w.cell? ⟨h, 2, none⟩ = some (.int .i64 g) := by rw [cell_of_row _ _ _ _ _ _ k.head]; rfl
theorem TabAt.ok (k : TabAt w h b c S n g) : Calls Try.prog 41 #[.pointer (some ⟨h, 0, none⟩)] w fun e w' => e = .returned (.bool true) ∧ w = w' := ok_any w h b c k.look.slots k.look.big.1
theorem len_any (k : TabAt w h b c S n g) : Calls Try.prog 20 #[.pointer (some ⟨h, 0, none⟩)] w fun e w' => e = .returned (.int .i64 n) ∧ w = w' := by
  have h1 := k.c1
  go_enter Try.func20, Try.ntmps20
  go_wp2_with fail
  refine k.ok.mono ?_
  rintro e w' ⟨rfl, rfl⟩
  go_wp2
  go_ret
  exact ⟨rfl, rfl⟩
set_option maxHeartbeats 1000000 in
theorem get_any (t : TabAt w h b c S n g) (k : List (BitVec 8)) (hk : k.length = 32) (V : Option (List Int)) (hV : ∀ v, Tab.Has S c k v ↔ V = some v) :
    Calls Try.prog 18 #[.pointer (some ⟨h, 0, none⟩), .agg (k.map U8).toArray] w fun e w' => e = .returned (.tuple #[.agg (ints (V.getD zeroVal)).toArray, .bool V.isSome]) ∧ Below w.heap.size w w' := by
  have hz := zero_val
  have hiz := val_size zeroVal rfl
  have hoz : (ints zeroVal).toArray.all (·.oneCell') = true := all_oneCell_toArray (one_ints _)
  have hzs : (ints zeroVal).toArray.size = 3 := rfl
  obtain ⟨Z, hZ⟩ : ∃ Z, (ints zeroVal).toArray = Z := ⟨_, rfl⟩
  rw [hZ] at hz hiz hoz hzs
  have HZ := Lib.hid hZ
  have HZS := Lib.hid hzs
  clear hZ hzs
  have hik : (Try.prog.info? 23).map (·.size) = some (k.map U8).toArray.size := by rw [List.size_toArray, List.length_map, hk]; kernel_rfl
  obtain ⟨K, hK⟩ : ∃ K, (k.map U8).toArray = K := ⟨_, rfl⟩
  have row : (((w.alloc (.cells K 23)).alloc (.cells Z 33)).alloc (.cells Z 33)).heap[w.heap.size]? = some (.cells K 23 (0, 0)) := by
    rw [Below.heap_alloc _ _ _ (by simp; omega), Below.heap_alloc _ _ _ (by simp), heap_alloc_new]
  have rowR : (((w.alloc (.cells K 23)).alloc (.cells Z 33)).alloc (.cells Z 33)).heap[w.heap.size + 1]? = some (.cells Z 33 (0, 0)) := by
    rw [Below.heap_alloc _ _ _ (by simp), heap_alloc2_new]
  have rowN : (((w.alloc (.cells K 23)).alloc (.cells Z 33)).alloc (.cells Z 33)).heap[w.heap.size + 1 + 1]? = some (.cells Z 33 (0, 0)) := by
    rw [show w.heap.size + 1 + 1 = ((w.alloc (.cells K 23)).alloc (.cells Z 33)).heap.size by simp, heap_alloc_new]
  have hb : Below w.heap.size w (((w.alloc (.cells K 23)).alloc (.cells Z 33)).alloc (.cells Z 33)) := (((Below.refl w.heap.size w).alloc (Nat.le_refl _) _).alloc (by simp) _).alloc (by simp; omega) _
  have t1 := t.below hb
  obtain ⟨j, hj⟩ := Tab.found_of_room t.look.inv.room k
  have FI := find_any _ h b c S t1.look k hk j hj
  have OK := t1.ok
  have hpc := Tab.place_lt k (c := c) (by have := t.look.big.1; omega) j
  have hkey := t.look.rows.key _ hpc
  have hvl := t.look.rows.vlen _ hpc
  rw [hK] at FI hik ⊢
  clear hK
  by_cases h1 : (S (Tab.place k c j)).st = 1
  · have hv := (hV _).1 ((t.look.inv.hit hj h1 _).2 rfl)
    subst hv
    have e1 : ((S (Tab.place k c j)).st == 1) = true := by simp [h1]
    rw [e1] at FI
    have CV := fun (w' : World) (q : TabAt w' h b c S n g) => rangeAt_part (q.look.rows.cells _ hpc) 33 3
    rw [slotC_val hkey hvl] at CV
    have CS := fun (w' : World) (q : TabAt w' h b c S n g) => q.look.slots
    have hiv := val_size _ hvl
    have hiv2 : (Try.prog.info? 33).map (·.size) = some (ints (S (Tab.place k c j)).val).length := by rw [hiv, List.size_toArray]
    have hov : (ints (S (Tab.place k c j)).val).toArray.all (·.oneCell') = true := all_oneCell_toArray (one_ints _)
    have hzv : Z.size = (ints (S (Tab.place k c j)).val).toArray.size := HZS.out.trans (by rw [List.size_toArray, ints, List.length_map, hvl])
    rw [show (Option.getD (some (S (Tab.place k c j)).val) zeroVal) = (S (Tab.place k c j)).val from rfl]
    clear hV h1 e1 hj hkey hvl
    generalize ints (S (Tab.place k c j)).val = v at *
    generalize Tab.place k c j = p at *
    go_enter Try.func18, Try.ntmps18
    go_wp2_with fail
    generalize ((w.alloc (.cells K 23)).alloc (.cells Z 33)).alloc (.cells Z 33) = w1 at *
    refine OK.mono ?_
    rintro e w' ⟨rfl, rfl⟩
    go_wp2_with (with_reducible refine at_load 23 ?_; go_must (refine wpList_load_row rfl 23 _ rfl w.heap.size rfl _ K _ _ row Try.underlying23 rfl hik ?_))
    refine FI.mono ?_
    rintro e w2 ⟨rfl, hb2⟩
    have t2 := t1.below hb2
    have cv := CV w2 t2
    have cs := CS w2 t2
    have rowR2 := (hb2.block _ (heap_lt rowR)).trans rowR
    have hB2 := hb.trans (hb2.mono hb.size)
    have hr3 := setRow_heap w2 (w.heap.size + 1) Z v.toArray 33 (0, 0) rowR2
    have tR : Touch (fun x => x = w.heap.size + 1) w2 (w2.setRow (w.heap.size + 1) v.toArray) := Touch.setRow _ _ _ rfl
    have hB3 := hB2.trans (tR.below (fun x e => by have e2 : x = w.heap.size + 1 := e; omega) hB2.size)
    clear CV CS FI OK t1 t2 row rowR rowN hb hb2 tR hB2
    go_wp2_with (first
      | (with_reducible refine at_load 33 ?_; go_must (refine wpList_load_mid rfl 33 _ rfl b (p * 36 + 33) rfl v _ cv Try.underlying33 rfl hiv2 ?_))
      | (with_reducible refine at_store 33 ?_; go_must (refine wpList_store_row rfl 33 _ _ rfl (w.heap.size + 1) v.toArray rfl rfl _ Z rowR2 hiv hzv hov ?_)))
    refine bodyPost_ret (results_cell_tmp rfl _ _ (w.heap.size + 1) _ v.toArray _ _ rfl hr3 Try.underlying33 rfl hiv) rfl ?_
    exact ⟨rfl, hB3⟩
  · have hv : V = none := by
      cases V with
      | none => rfl
      | some v => exact (t.look.inv.miss hj h1 v ((hV v).2 rfl)).elim
    subst hv
    have e1 : ((S (Tab.place k c j)).st == 1) = false := by simp [h1]
    rw [e1] at FI
    rw [show (ints (Option.getD none zeroVal)).toArray = Z from HZ.out]
    clear hV h1 e1 hj hkey hvl
    generalize Tab.place k c j = p at *
    go_enter Try.func18, Try.ntmps18
    go_wp2_with fail
    generalize ((w.alloc (.cells K 23)).alloc (.cells Z 33)).alloc (.cells Z 33) = w1 at *
    refine OK.mono ?_
    rintro e w' ⟨rfl, rfl⟩
    go_wp2_with (with_reducible refine at_load 23 ?_; go_must (refine wpList_load_row rfl 23 _ rfl w.heap.size rfl _ K _ _ row Try.underlying23 rfl hik ?_))
    refine FI.mono ?_
    rintro e w2 ⟨rfl, hb2⟩
    have rowR2 := (hb2.block _ (heap_lt rowR)).trans rowR
    have rowN2 := (hb2.block _ (heap_lt rowN)).trans rowN
    have hB2 := hb.trans (hb2.mono hb.size)
    have hr3 := setRow_heap w2 (w.heap.size + 1) Z Z 33 (0, 0) rowR2
    have tR : Touch (fun x => x = w.heap.size + 1) w2 (w2.setRow (w.heap.size + 1) Z) := Touch.setRow _ _ _ rfl
    have hB3 := hB2.trans (tR.below (fun x e => by have e2 : x = w.heap.size + 1 := e; omega) hB2.size)
    clear FI OK t1 row rowR rowN hb hb2 tR hB2
    go_wp2_with (first
      | (with_reducible refine at_load 33 ?_; go_must (refine wpList_load_row rfl 33 _ rfl (w.heap.size + 1 + 1) rfl _ Z _ _ rowN2 Try.underlying33 rfl hiz ?_))
      | (with_reducible refine at_store 33 ?_; go_must (refine wpList_store_row rfl 33 _ _ rfl (w.heap.size + 1) Z rfl rfl _ Z rowR2 hiz rfl hoz ?_)))
    refine bodyPost_ret (results_cell_tmp rfl _ _ (w.heap.size + 1) _ Z _ _ rfl hr3 Try.underlying33 rfl hiz) rfl ?_
    exact ⟨rfl, hB3⟩
end
end Go.Proofs.Ytahmnpbfjfllmaa.Pl
