/- Put (values: numbers), where the table is made anew; Put, whatever there is. -/
import Derived.Test.YtahmnpbfjfllmaaTPut
namespace Go.Proofs.Ytahmnpbfjfllmaa
open Go Go.RowKit

section
variable {w : World} {h b c n g : Nat} {S : Nat → SlotI}
set_option maxHeartbeats 2000000 in
theorem put_renew_any (t : TabAt w h b c S n g) (k : List (BitVec 8)) (hk : k.length = 32) (v : Int) (j : Nat) (hj : Tab.Found S c k j) (h1 : (S (Tab.place k c j)).st ≠ 1) (hcond : 3 * c < 4 * (n + g + 1)) (hn : n + 1 ≤ 100000) :
    Calls Try.prog 32 #[.pointer (some ⟨h, 0, none⟩), .agg (k.map U8).toArray, .int .i64 v] w (PutExact w h b c n g S k v) := by
  have row : (w.alloc (.cells (k.map U8).toArray 23)).heap[w.heap.size]? = some (.cells (k.map U8).toArray 23 (0, 0)) := heap_alloc_new w _
  have hb : Below w.heap.size w (w.alloc (.cells (k.map U8).toArray 23)) := (Below.refl _ _).alloc (Nat.le_refl _) _
  have t1 := t.below hb
  have FI := find_any _ h b c S t1.look k hk j hj
  have OK := t1.ok
  have hc8 := t.look.big.1
  have hcM := t.look.big.2
  have hpc := Tab.place_lt k (c := c) (by omega) j
  have hik : (Try.prog.info? 23).map (·.size) = some (k.map U8).toArray.size := by rw [List.size_toArray, List.length_map, hk]; kernel_rfl
  have hbuilt := built_slot k hk v
  have hlCS := Lib.hid (length_slotC (s := ⟨1, k, v⟩) hk)
  have hoCS : (slotC ⟨1, k, v⟩).toArray.all (·.oneCell') = true := all_oneCell_toArray (one_slotC _)
  have hvCS : (Try.prog.info? 93).map (·.size) = some (slotC ⟨1, k, v⟩).toArray.size := by rw [List.size_toArray, hlCS.out]; kernel_rfl
  have HK := Lib.hid hk
  have hroom := t.room
  have hnd := t.nd
  have hnf := t.nf
  have hhs := t.head.lt
  have e1 : ((S (Tab.place k c j)).st == 1) = false := by simp [h1]
  rw [e1] at FI
  have RN := fun (w' : World) (q : TabAt w' h b c S n g) => renew_any w' h b c n g S q.head q.look (n + 1) (by rw [hnf]; omega) hn
  rw [show (((n + 1 : Nat)) : Int) = (n : Int) + 1 by omega] at RN
  have MISS := t.look.inv.miss hj h1
  have HADN := Lib.hid (show ¬ ∃ v0, Tab.Has S c k v0 from fun ⟨_, q⟩ => t.look.inv.miss hj h1 _ q)
  have HND := Lib.hid hnd
  have HNF := Lib.hid hnf
  clear h1 e1 hj hnd hnf
  generalize hCS : slotC ⟨1, k, v⟩ = CS at *
  have HCS := Lib.hid hCS
  clear hCS hk
  generalize hKE : (k.map U8).toArray = K at *
  have HKE := Lib.hid hKE
  clear hKE
  generalize Tab.place k c j = p at *
  go_enter Try.func32, Try.ntmps32
  go_wp2_with fail
  generalize w.alloc (.cells K 23) = w1 at *
  refine OK.mono ?_
  rintro e w' ⟨rfl, rfl⟩
  go_wp2_with (with_reducible refine at_load 23 ?_; refine wpList_load_row rfl 23 _ rfl w.heap.size rfl _ K _ _ row Try.underlying23 rfl hik ?_)
  refine FI.mono ?_
  rintro e w2 ⟨rfl, hb2⟩
  have t2 := t1.below hb2
  obtain ⟨cc, hcc, hccM, hx0⟩ := t2.look.slots
  have hx1 := t2.c1
  have hx2 := t2.c2
  have hHx : HeadAt w2 h b c n g := t2.head
  have rowx := (hb2.block _ (heap_lt row)).trans row
  clear OK FI t1 row
  go_wp2_with fail
  go_quiet (fail)
  have hxd : (w2.drewN nq).cell? ⟨h, 0, none⟩ = some (.slice (some ⟨b, 0, none⟩) c cc) := hx0
  have td : Touch (fun _ => False) w2 (w2.drewN nq) := (Touch.refl _ _).drewN nq
  have t3 := t2.touch td id id
  have hHx := hHx.touch td id
  have rowx := (td.block _ (heap_lt rowx) id).trans rowx
  have hbd := Lib.hid (hb.trans (below_drewN (hb2.mono hb.size) nq))
  clear hx0 hx1 hx2 t2 td hb hb2
  generalize w2.drewN nq = w3 at *
  rw [show decide (3 * (c : Int) < 4 * ((n : Int) + g + 1)) = true by simp; omega]
  have hn1 := hHx.c1
  have RN3 := RN _ t3
  clear RN
  go_wp2_with fail
  refine RN3.mono ?_
  rintro e w4 ⟨rfl, b', c', T, hH4, hL4, hP4, hc4, hb4, ht4, hs4⟩
  have HS4 := Lib.hid hs4
  clear hs4
  obtain ⟨j', hj'⟩ := Tab.found_of_room hL4.inv.room k
  have hpx := Tab.place_lt k (c := c') (by omega) j'
  have FI4 := find_any _ h b' c' T hL4 k HK.out j' hj'
  have hfull : (T (Tab.place k c' j')).st ≠ 1 := fun e => MISS _ ((hP4.has _ _).1 ((hL4.inv.hit hj' e _).2 rfl))
  rw [show ((T (Tab.place k c' j')).st == 1) = false by simp [hfull]] at FI4
  have hc48 := hL4.big.1
  have hc4M := hL4.big.2
  obtain ⟨m1, m2, m3, m4⟩ := hL4.inv.putNew hj' hfull (by rw [hP4.nf, hP4.nd, HNF.out]; omega) v
  have M1 := Lib.hid m1
  have M2 := Lib.hid m2
  have M3 := Lib.hid (m3.trans (by rw [hP4.nf, HNF.out]))
  have M4 := Lib.hid (m4.trans hP4.nd)
  have HAS := Lib.hid hP4.has
  have HPOW := Lib.hid hL4.pow
  have HW4 := Lib.hid hb4
  have HT4 := Lib.hid ht4
  have row4 := (ht4.block _ (heap_lt rowx) (by show ¬ (w.heap.size = h); omega)).trans rowx
  have hne4 := hL4.ne
  have rx4 := hL4.rows
  clear m1 m2 m3 m4 hP4 hb4 ht4 hL4 hfull hj' RN3 t3 hn1 MISS
  rw [HKE.out] at FI4
  generalize Tab.place k c' j' = p4 at *
  go_wp2_with (with_reducible refine at_load 23 ?_; refine wpList_load_row rfl 23 _ rfl w.heap.size rfl _ K _ _ row4 Try.underlying23 rfl hik ?_)
  refine FI4.mono ?_
  rintro e w5 ⟨rfl, hb5⟩
  have t5 : Touch (fun _ => False) w4 w5 := .of_below hb5
  have hH5 := hH4.touch t5 id
  have rx := rx4.touch t5 id
  have rowx := (t5.block _ (heap_lt row4) id).trans row4
  obtain ⟨c5, hc5, hc5M, hx5⟩ := hH5.c0
  have HT5 := Lib.hid (HT4.out.trans (t5.mono fun _ e => e.elim))
  have hneX := Lib.hid hne4
  have hHx := hH5
  clear FI4 t5 hH4 rx4 row4 hb5 hne4
  go_wp2_with fail
  refine wp_region_mid 9 (by kernel_rfl) (by kernel_rfl) rfl ?_
  simp only [List.take_succ_cons, List.take_zero, List.drop_zero]
  repeat (first
    | (go_big_quiet_want; refine quiet_row_of (fun w' e => (show w'.heap[w.heap.size]? = some (.cells K 23 (0, 0)) from by obtain ⟨_, rfl⟩ := e; exact rowx)) Try.underlying23 rfl hik rfl rfl ?_; simp only [Act.put, List.setIfInBounds_toArray, List.set_cons_succ, List.set_cons_zero]; go_big_quiet_on)
    | (go_big_quiet_want; refine quiet_built 93 _ rfl CS.toArray (by go_simp) ?_; simp only [Act.put, List.setIfInBounds_toArray, List.set_cons_succ, List.set_cons_zero]; go_big_quiet_on)
    | go_big_quiet_step (fail)
    | quiet_step (fail))
  refine wpQuiet_nil ?_
  intro jj
  have tj : Touch (fun _ => False) w5 (w5.drewN jj) := (Touch.refl _ _).drewN jj
  have rj := rx.touch tj id
  have TH : (w5.drewN jj).there b' (p4 * 34) CS.toArray.size := by rw [List.size_toArray, hlCS.out]; exact rj.there hpx
  have PUT := rj.put hpx ⟨1, k, v⟩ HK.out
  rw [HCS.out] at PUT
  have TP : Touch (fun y => y = b') (w5.drewN jj) ((w5.drewN jj).setCells b' (p4 * 34) CS) := Touch.setCells (F := fun y => y = b') b' rfl _ _ _
  have HPUT := Lib.hid PUT
  have HTP := Lib.hid TP
  clear rj PUT TP
  go_wp2_with (with_reducible refine at_store 93 ?_; go_must (refine wpList_store_mid rfl 93 _ _ rfl b' (p4 * 34) CS.toArray rfl rfl TH hvCS hoCS ?_))
  clear TH
  refine midPost_normal (rest_quiet (by kernel_rfl) ?_)
  simp only [List.drop_succ_cons, List.drop_nil]
  refine wpQuiet_nil ?_
  intro j2
  have tk : Touch (fun _ => False) ((w5.drewN jj).setCells b' (p4 * 34) CS) (((w5.drewN jj).setCells b' (p4 * 34) CS).drewN j2) := (Touch.refl _ _).drewN j2
  have hhx := (((hHx.touch tj id).touch HTP.out (show ¬ (h = b') from hneX.out)).touch tk id)
  have rowsx := HPUT.out.touch tk id
  have tX : Touch (fun y => y = h ∨ y = b') w5 (((w5.drewN jj).setCells b' (p4 * 34) CS).drewN j2) := ((tj.mono fun _ e => e.elim).trans (HTP.out.mono fun _ e => .inr e)).trans (tk.mono fun _ e => e.elim)
  have HTX := Lib.hid tX
  have HROWS := Lib.hid rowsx
  have hc1 := hhx.c1
  have hthx := hhx.thawed
  have HHX := Lib.hid hhx
  clear tk tX rowsx hhx tj HPUT HTP
  generalize ((w5.drewN jj).setCells b' (p4 * 34) CS).drewN j2 = w8 at *
  go_wp2
  refine bodyPost_end (results_none rfl _ _ _) rfl ?_
  have t9 : Touch (fun y => y = h) w8 (w8.setCell ⟨h, 1, none⟩ (.int .i64 ((n : Int) + 1))) := Touch.set (F := fun y => y = h) _ h 1 _ rfl
  have h9 := HHX.out.set1 (n + 1)
  rw [show (((n + 1 : Nat)) : Int) = (n : Int) + 1 by omega] at h9
  have r9 := HROWS.out.touch t9 (show ¬ (b' = h) from hneX.out.symm)
  have hneX := hneX.out
  have hW := HW4.out
  refine ⟨rfl, b', c', _, n + 1, 0, ⟨h9, ⟨h9.c0, r9, hneX, M1.out, HPOW.out, ⟨hc48, hc4M⟩⟩, M3.out, M4.out, by omega⟩, fun k' v' => (M2.out k' v').trans (or_congr Iff.rfl (and_congr Iff.rfl (HAS.out k' v'))), Nat.le_refl _, .inr (Nat.le_trans hbd.out.size hW), ?_⟩
  have q1 : Touch (fun y => y = h ∨ y = b) w w5 := (Touch.of_below hbd.out).trans (HT5.out.mono fun _ e => .inl e)
  have q2 := HTX.out.trans (t9.mono fun _ e => .inl e)
  refine ⟨q1.trans' q2 fun y e => ?_, fun q => (HADN.out q).elim, fun _ => ⟨rfl, fun q => by omega, fun _ => ⟨HS4.out, rfl⟩⟩⟩
  rcases e with e | e
  · exact .inl (.inl e)
  · exact .inr (by have := hbd.out.size; omega)
theorem put_exact (t : TabAt w h b c S n g) (k : List (BitVec 8)) (hk : k.length = 32) (v : Int) (hn : n + 1 ≤ 100000) :
    Calls Try.prog 32 #[.pointer (some ⟨h, 0, none⟩), .agg (k.map U8).toArray, .int .i64 v] w (PutExact w h b c n g S k v) := by
  obtain ⟨j, hj⟩ := Tab.found_of_room t.look.inv.room k
  by_cases h1 : (S (Tab.place k c j)).st = 1
  · exact put_same_any t k hk v j hj h1
  · rcases Nat.lt_or_ge (3 * c) (4 * (n + g + 1)) with hc | hc
    · exact put_renew_any t k hk v j hj h1 hc hn
    · exact put_new_any t k hk v j hj h1 hc
theorem put_any (t : TabAt w h b c S n g) (k : List (BitVec 8)) (hk : k.length = 32) (v : Int) (hn : n + 1 ≤ 100000) :
    Calls Try.prog 32 #[.pointer (some ⟨h, 0, none⟩), .agg (k.map U8).toArray, .int .i64 v] w (PutPost w h b c n S k v) :=
  (put_exact t k hk v hn).mono fun _ _ q => q.weak
end
end Go.Proofs.Ytahmnpbfjfllmaa
