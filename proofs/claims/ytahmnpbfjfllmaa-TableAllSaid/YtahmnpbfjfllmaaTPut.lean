/- Put (values: numbers). -/
import Derived.Test.YtahmnpbfjfllmaaRenew
import Derived.Test.YtahmnpbfjfllmaaQ
namespace Go.Proofs.Ytahmnpbfjfllmaa
open Go Go.RowKit

theorem built_slot' (v : Int) (c0 c1 c2 c3 c4 c5 c6 c7 c8 c9 c10 c11 c12 c13 c14 c15 c16 c17 c18 c19 c20 c21 c22 c23 c24 c25 c26 c27 c28 c29 c30 c31 : BitVec 8) : Program.built Try.prog 93 [(0, .int .i64 1), (1, .agg (([c0, c1, c2, c3, c4, c5, c6, c7, c8, c9, c10, c11, c12, c13, c14, c15, c16, c17, c18, c19, c20, c21, c22, c23, c24, c25, c26, c27, c28, c29, c30, c31] : List (BitVec 8)).map U8).toArray), (2, .int .i64 v)] = some (slotC ⟨1, [c0, c1, c2, c3, c4, c5, c6, c7, c8, c9, c10, c11, c12, c13, c14, c15, c16, c17, c18, c19, c20, c21, c22, c23, c24, c25, c26, c27, c28, c29, c30, c31], v⟩).toArray := by kernel_rfl
theorem built_slot (k : List (BitVec 8)) (hk : k.length = 32) (v : Int) : Program.built Try.prog 93 [(0, .int .i64 1), (1, .agg (k.map U8).toArray), (2, .int .i64 v)] = some (slotC ⟨1, k, v⟩).toArray := by
  match k, hk with
  | [c0, c1, c2, c3, c4, c5, c6, c7, c8, c9, c10, c11, c12, c13, c14, c15, c16, c17, c18, c19, c20, c21, c22, c23, c24, c25, c26, c27, c28, c29, c30, c31], _ => exact built_slot' v c0 c1 c2 c3 c4 c5 c6 c7 c8 c9 c10 c11 c12 c13 c14 c15 c16 c17 c18 c19 c20 c21 c22 c23 c24 c25 c26 c27 c28 c29 c30 c31
theorem built_dead : Program.built Try.prog 93 [(0, .int .i64 2)] = some (slotC ⟨2, zeroKey, 0⟩).toArray := by kernel_rfl
/-- What stands behind a Put, with the slots, the keys and the dead ones. -/
def PutExact (w : World) (h b c n g : Nat) (S : Nat → SlotI) (k : List (BitVec 8)) (v : Int) (e : Ending) (w' : World) : Prop :=
  e = .returned (.tuple #[]) ∧ ∃ b' c' S' n' g', TabAt w' h b' c' S' n' g' ∧ (∀ k' v', Tab.Has S' c' k' v' ↔ (k' = k ∧ v' = v) ∨ (k' ≠ k ∧ Tab.Has S c k' v')) ∧ n' ≤ n + 1 ∧ (b' = b ∨ w.heap.size ≤ b') ∧ Touch (fun y => y = h ∨ y = b) w w' ∧ Tab.PutNums c n g c' n' g' (∃ v0, Tab.Has S c k v0)
/-- What stands behind a Put. -/
def PutPost (w : World) (h b c n : Nat) (S : Nat → SlotI) (k : List (BitVec 8)) (v : Int) (e : Ending) (w' : World) : Prop :=
  e = .returned (.tuple #[]) ∧ ∃ b' c' S' n' g', TabAt w' h b' c' S' n' g' ∧ (∀ k' v', Tab.Has S' c' k' v' ↔ (k' = k ∧ v' = v) ∨ (k' ≠ k ∧ Tab.Has S c k' v')) ∧ n' ≤ n + 1 ∧ (b' = b ∨ w.heap.size ≤ b') ∧ Touch (fun y => y = h ∨ y = b) w w'
theorem PutExact.weak {w w' : World} {h b c n g : Nat} {S : Nat → SlotI} {k : List (BitVec 8)} {v : Int} {e : Ending} (q : PutExact w h b c n g S k v e w') : PutPost w h b c n S k v e w' := by
  obtain ⟨e, b', c', S', n', g', h1, h2, h3, h4, h5, _⟩ := q
  exact ⟨e, b', c', S', n', g', h1, h2, h3, h4, h5⟩
section
variable {w : World} {h b c n g : Nat} {S : Nat → SlotI}
set_option maxHeartbeats 1000000 in
theorem put_same_any (t : TabAt w h b c S n g) (k : List (BitVec 8)) (hk : k.length = 32) (v : Int) (j : Nat) (hj : Tab.Found S c k j) (h1 : (S (Tab.place k c j)).st = 1) :
    Calls Try.prog 32 #[.pointer (some ⟨h, 0, none⟩), .agg (k.map U8).toArray, .int .i64 v] w (PutExact w h b c n g S k v) := by
  have row : (w.alloc (.cells (k.map U8).toArray 23)).heap[w.heap.size]? = some (.cells (k.map U8).toArray 23 (0, 0)) := heap_alloc_new w _
  have hb : Below w.heap.size w (w.alloc (.cells (k.map U8).toArray 23)) := (Below.refl _ _).alloc (Nat.le_refl _) _
  have t1 := t.below hb
  have FI := find_any _ h b c S t1.look k hk j hj
  have OK := t1.ok
  have hpc := Tab.place_lt k (c := c) (by have := t.look.big.1; omega) j
  have hkey := t.look.rows.key _ hpc
  have hik : (Try.prog.info? 23).map (·.size) = some (k.map U8).toArray.size := by rw [List.size_toArray, List.length_map, hk]; kernel_rfl
  obtain ⟨m1, m2, m3, m4⟩ := t.look.inv.putSame hj h1 v
  have hfk := hj.full h1
  have e1 : ((S (Tab.place k c j)).st == 1) = true := by simp [h1]
  rw [e1] at FI
  have CV := fun (w' : World) (q : TabAt w' h b c S n g) => rangeAt_cell (q.look.rows.cells _ hpc) (slotC_val hkey)
  have VAL := fun (w' : World) (q : TabAt w' h b c S n g) => q.look.rows.val hpc v
  rw [h1, hfk] at VAL
  have CS := fun (w' : World) (q : TabAt w' h b c S n g) => q.look.slots
  have CF := fun (w' : World) (q : TabAt w' h b c S n g) => q.look.rows.free
  have HAD := Lib.hid (show ∃ v0, Tab.Has S c k v0 from ⟨_, (t.look.inv.hit hj h1 _).2 rfl⟩)
  have M1 := Lib.hid m1
  have M2 := Lib.hid m2
  have M3 := Lib.hid m3
  have M4 := Lib.hid m4
  clear h1 e1 hj hkey hfk m1 m2 m3 m4
  generalize (k.map U8).toArray = K at *
  generalize Tab.place k c j = p at *
  go_enter Try.func32, Try.ntmps32
  go_wp2_with fail
  generalize w.alloc (.cells K 23) = w1 at *
  refine OK.mono ?_
  rintro e w' ⟨rfl, rfl⟩
  go_wp2_with (with_reducible refine at_load 23 ?_; refine wpList_load_row rfl 23 _ rfl w.heap.size rfl _ K _ _ row Try.underlying23 rfl hik ?_)
  refine FI.mono ?_
  rintro e w2 ⟨rfl, hb2⟩
  have t2 := t1.below hb2
  have cv := CV w2 t2
  obtain ⟨cc, hcc, hccM, cs⟩ := CS w2 t2
  have cf := CF w2 t2
  have val := VAL w2 t2
  have VALH := Lib.hid val
  clear CV CS CF VAL val
  go_wp2
  refine bodyPost_end (results_none rfl _ _ _) rfl ?_
  have hb3 := hb.trans (hb2.mono hb.size)
  have tt : Touch (fun y => y = b) w2 (w2.setCell ⟨b, p * 34 + 33, none⟩ (.int .i64 v)) := Touch.set (F := fun y => y = b) _ b _ _ rfl
  have hne := t.look.ne
  refine ⟨rfl, b, c, _, n, g, ⟨t2.head.imp fun _ q => ⟨q.1, q.2.1, (tt.block h (heap_lt q.2.2) hne).trans q.2.2⟩, ⟨t2.look.slots.imp fun _ q => ⟨q.1, q.2.1, tt.cell q.2.2 hne⟩, VALH.out, hne, M1.out, t.look.pow, t.look.big⟩, M3.out.trans t.nf, M4.out.trans t.nd, t.room⟩, M2.out, by omega, .inl rfl, ?_⟩
  exact ⟨(Touch.of_below hb3).trans (tt.mono fun _ e => .inr e), fun _ => ⟨rfl, rfl, rfl⟩, fun q => (q HAD.out).elim⟩
set_option maxHeartbeats 1000000 in
theorem put_new_any (t : TabAt w h b c S n g) (k : List (BitVec 8)) (hk : k.length = 32) (v : Int) (j : Nat) (hj : Tab.Found S c k j) (h1 : (S (Tab.place k c j)).st ≠ 1) (hcond : 4 * (n + g + 1) ≤ 3 * c) :
    Calls Try.prog 32 #[.pointer (some ⟨h, 0, none⟩), .agg (k.map U8).toArray, .int .i64 v] w (PutExact w h b c n g S k v) := by
  have row : (w.alloc (.cells (k.map U8).toArray 23)).heap[w.heap.size]? = some (.cells (k.map U8).toArray 23 (0, 0)) := heap_alloc_new w _
  have hb : Below w.heap.size w (w.alloc (.cells (k.map U8).toArray 23)) := (Below.refl _ _).alloc (Nat.le_refl _) _
  have t1 := t.below hb
  have FI := find_any _ h b c S t1.look k hk j hj
  have OK := t1.ok
  have hc8 := t.look.big.1
  have hcM := t.look.big.2
  have hpc := Tab.place_lt k (c := c) (by omega) j
  have hik : (Try.prog.info? 23).map (·.size) = some (k.map U8).toArray.size := by rw [List.size_toArray, List.length_map, hk]; kernel_rfl
  have hbuilt := built_slot k hk v
  have hlCS := Lib.hid (length_slotC (s := ⟨1, k, v⟩) hk)
  have hoCS : (slotC ⟨1, k, v⟩).toArray.all (·.oneCell') = true := all_oneCell_toArray (one_slotC _)
  have hvCS : (Try.prog.info? 93).map (·.size) = some (slotC ⟨1, k, v⟩).toArray.size := by rw [List.size_toArray, hlCS.out]; kernel_rfl
  have HK := Lib.hid hk
  have hroom := t.room
  have hnd := t.nd
  have hnf := t.nf
  have hhs := t.head.lt
  have e1 : ((S (Tab.place k c j)).st == 1) = false := by simp [h1]
  rw [e1] at FI
  obtain ⟨m1, m2, m3, m4⟩ := t.look.inv.putNew hj h1 (by rw [hnd, hnf]; omega) v
  have HADN := Lib.hid (show ¬ ∃ v0, Tab.Has S c k v0 from fun ⟨_, q⟩ => t.look.inv.miss hj h1 _ q)
  have M1 := Lib.hid m1
  have M2 := Lib.hid m2
  have M3 := Lib.hid m3
  have M4 := Lib.hid m4
  have HND := Lib.hid hnd
  have HNF := Lib.hid hnf
  have hno : ¬ (4 * ((n : Int) + g + 1) > 3 * (c : Int)) := by omega
  clear h1 e1 hj m1 m2 m3 m4 hnd hnf
  generalize hCS : slotC ⟨1, k, v⟩ = CS at *
  have HCS := Lib.hid hCS
  clear hCS hk
  generalize (k.map U8).toArray = K at *
  generalize Tab.place k c j = p at *
  go_enter Try.func32, Try.ntmps32
  go_wp2_with fail
  generalize w.alloc (.cells K 23) = w1 at *
  refine OK.mono ?_
  rintro e w' ⟨rfl, rfl⟩
  go_wp2_with (with_reducible refine at_load 23 ?_; refine wpList_load_row rfl 23 _ rfl w.heap.size rfl _ K _ _ row Try.underlying23 rfl hik ?_)
  refine FI.mono ?_
  rintro e w2 ⟨rfl, hb2⟩
  have t2 := t1.below hb2
  obtain ⟨cc, hcc, hccM, hx0⟩ := t2.look.slots
  have hx1 := t2.c1
  have hx2 := t2.c2
  have hHx : HeadAt w2 h b c n g := t2.head
  have rx := t2.look.rows
  have rowx := (hb2.block _ (heap_lt row)).trans row
  have hneX := Lib.hid t2.look.ne
  have hpx := hpc
  clear OK FI t1 row
  go_wp2_with fail
  go_quiet (fail)
  have hxd : (w2.drewN nq).cell? ⟨h, 0, none⟩ = some (.slice (some ⟨b, 0, none⟩) c cc) := hx0
  have td : Touch (fun _ => False) w2 (w2.drewN nq) := (Touch.refl _ _).drewN nq
  have hHx := hHx.touch td id
  have rx := rx.touch td id
  have rowx := (td.block _ (heap_lt rowx) id).trans rowx
  have hbd := Lib.hid (hb.trans (below_drewN (hb2.mono hb.size) nq))
  clear hx0 hx1 hx2 t2 td hb hb2
  generalize w2.drewN nq = w3 at *
  rw [show decide (3 * (c : Int) < 4 * ((n : Int) + g + 1)) = false by simp; omega]
  go_wp2_with fail
  refine wp_region_mid 9 (by kernel_rfl) (by kernel_rfl) rfl ?_
  simp only [List.take_succ_cons, List.take_zero, List.drop_zero]
  repeat (first
    | (go_big_quiet_want; refine quiet_row_of (fun w' e => (show w'.heap[w.heap.size]? = some (.cells K 23 (0, 0)) from by obtain ⟨_, rfl⟩ := e; exact rowx)) Try.underlying23 rfl hik rfl rfl ?_; simp only [Act.put, List.setIfInBounds_toArray, List.set_cons_succ, List.set_cons_zero]; go_big_quiet_on)
    | (go_big_quiet_want; refine quiet_built 93 _ rfl CS.toArray (by go_simp) ?_; simp only [Act.put, List.setIfInBounds_toArray, List.set_cons_succ, List.set_cons_zero]; go_big_quiet_on)
    | go_big_quiet_step (fail)
    | quiet_step (fail))
  refine wpQuiet_nil ?_
  intro jj
  have tj : Touch (fun _ => False) w3 (w3.drewN jj) := (Touch.refl _ _).drewN jj
  have rj := rx.touch tj id
  have TH : (w3.drewN jj).there b (p * 34) CS.toArray.size := by rw [List.size_toArray, hlCS.out]; exact rj.there hpx
  have PUT := rj.put hpx ⟨1, k, v⟩ HK.out
  rw [HCS.out] at PUT
  have TP : Touch (fun y => y = b) (w3.drewN jj) ((w3.drewN jj).setCells b (p * 34) CS) := Touch.setCells (F := fun y => y = b) b rfl _ _ _
  have HPUT := Lib.hid PUT
  have HTP := Lib.hid TP
  clear rj PUT TP
  go_wp2_with (with_reducible refine at_store 93 ?_; go_must (refine wpList_store_mid rfl 93 _ _ rfl b (p * 34) CS.toArray rfl rfl TH hvCS hoCS ?_))
  clear TH
  refine midPost_normal (rest_quiet (by kernel_rfl) ?_)
  simp only [List.drop_succ_cons, List.drop_nil]
  refine wpQuiet_nil ?_
  intro j2
  have tk : Touch (fun _ => False) ((w3.drewN jj).setCells b (p * 34) CS) (((w3.drewN jj).setCells b (p * 34) CS).drewN j2) := (Touch.refl _ _).drewN j2
  have hhx := (((hHx.touch tj id).touch HTP.out (show ¬ (h = b) from hneX.out)).touch tk id)
  have rowsx := HPUT.out.touch tk id
  have tX : Touch (fun y => y = h ∨ y = b) w3 (((w3.drewN jj).setCells b (p * 34) CS).drewN j2) := ((tj.mono fun _ e => e.elim).trans (HTP.out.mono fun _ e => .inr e)).trans (tk.mono fun _ e => e.elim)
  have HTX := Lib.hid tX
  have HROWS := Lib.hid rowsx
  have hc1 := hhx.c1
  have hthx := hhx.thawed
  have HHX := Lib.hid hhx
  clear tk tX rowsx hhx tj HPUT HTP
  generalize ((w3.drewN jj).setCells b (p * 34) CS).drewN j2 = w8 at *
  go_wp2
  refine bodyPost_end (results_none rfl _ _ _) rfl ?_
  have t9 : Touch (fun y => y = h) w8 (w8.setCell ⟨h, 1, none⟩ (.int .i64 ((n : Int) + 1))) := Touch.set (F := fun y => y = h) _ h 1 _ rfl
  have h9 := HHX.out.set1 (n + 1)
  rw [show (((n + 1 : Nat)) : Int) = (n : Int) + 1 by omega] at h9
  have r9 := HROWS.out.touch t9 (show ¬ (b = h) from hneX.out.symm)
  have hneX := hneX.out
  refine ⟨rfl, b, c, _, n + 1, g, ⟨h9, ⟨h9.c0, r9, hneX, M1.out, t.look.pow, t.look.big⟩, by rw [M3.out, HNF.out], by rw [M4.out, HND.out], by omega⟩, M2.out, Nat.le_refl _, .inl rfl, ?_⟩
  exact ⟨((Touch.of_below hbd.out).trans HTX.out).trans (t9.mono fun _ e => .inl e), fun q => (HADN.out q).elim, fun _ => ⟨rfl, fun _ => ⟨rfl, rfl⟩, fun q => by omega⟩⟩
end
end Go.Proofs.Ytahmnpbfjfllmaa
