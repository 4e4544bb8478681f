/- Put (values: numbers). -/
import Derived.Test.YtahmnpbfjfllmaaCRenew
import Derived.Test.YtahmnpbfjfllmaaCGet
import Derived.Test.YtahmnpbfjfllmaaQ
namespace Go.Proofs.Ytahmnpbfjfllmaa.Co
open Go Go.RowKit

theorem built_slot' (x y : Int) (c0 c1 c2 c3 c4 c5 c6 c7 c8 c9 c10 c11 c12 c13 c14 c15 c16 c17 c18 c19 c20 c21 c22 c23 c24 c25 c26 c27 c28 c29 c30 c31 : BitVec 8) : Program.built Try.prog 91 [(0, .int .i64 1), (1, .agg (([c0, c1, c2, c3, c4, c5, c6, c7, c8, c9, c10, c11, c12, c13, c14, c15, c16, c17, c18, c19, c20, c21, c22, c23, c24, c25, c26, c27, c28, c29, c30, c31] : List (BitVec 8)).map U8).toArray), (2, .agg (ints [x, y]).toArray)] = some (slotC ⟨1, [c0, c1, c2, c3, c4, c5, c6, c7, c8, c9, c10, c11, c12, c13, c14, c15, c16, c17, c18, c19, c20, c21, c22, c23, c24, c25, c26, c27, c28, c29, c30, c31], [x, y]⟩).toArray := by kernel_rfl
theorem built_slot (k : List (BitVec 8)) (hk : k.length = 32) (v : List Int) (hv : v.length = 2) : Program.built Try.prog 91 [(0, .int .i64 1), (1, .agg (k.map U8).toArray), (2, .agg (ints v).toArray)] = some (slotC ⟨1, k, v⟩).toArray := by
  match k, hk, v, hv with
  | [c0, c1, c2, c3, c4, c5, c6, c7, c8, c9, c10, c11, c12, c13, c14, c15, c16, c17, c18, c19, c20, c21, c22, c23, c24, c25, c26, c27, c28, c29, c30, c31], _, [x, y], _ => exact built_slot' x y c0 c1 c2 c3 c4 c5 c6 c7 c8 c9 c10 c11 c12 c13 c14 c15 c16 c17 c18 c19 c20 c21 c22 c23 c24 c25 c26 c27 c28 c29 c30 c31
/-- What stands behind a Put, with the slots, the keys and the dead ones. -/
def PutExact (w : World) (h b c n g : Nat) (S : Nat → SlotI) (k : List (BitVec 8)) (v : List Int) (e : Ending) (w' : World) : Prop :=
  e = .returned (.tuple #[]) ∧ ∃ b' c' S' n' g', TabAt w' h b' c' S' n' g' ∧ (∀ k' v', Tab.Has S' c' k' v' ↔ (k' = k ∧ v' = v) ∨ (k' ≠ k ∧ Tab.Has S c k' v')) ∧ n' ≤ n + 1 ∧ (b' = b ∨ w.heap.size ≤ b') ∧ Touch (fun y => y = h ∨ y = b) w w' ∧ Tab.PutNums c n g c' n' g' (∃ v0, Tab.Has S c k v0)
/-- What stands behind a Put. -/
def PutPost (w : World) (h b c n : Nat) (S : Nat → SlotI) (k : List (BitVec 8)) (v : List Int) (e : Ending) (w' : World) : Prop :=
  e = .returned (.tuple #[]) ∧ ∃ b' c' S' n' g', TabAt w' h b' c' S' n' g' ∧ (∀ k' v', Tab.Has S' c' k' v' ↔ (k' = k ∧ v' = v) ∨ (k' ≠ k ∧ Tab.Has S c k' v')) ∧ n' ≤ n + 1 ∧ (b' = b ∨ w.heap.size ≤ b') ∧ Touch (fun y => y = h ∨ y = b) w w'
theorem PutExact.weak {w w' : World} {h b c n g : Nat} {S : Nat → SlotI} {k : List (BitVec 8)} {v : List Int} {e : Ending} (q : PutExact w h b c n g S k v e w') : PutPost w h b c n S k v e w' := by
  obtain ⟨e, b', c', S', n', g', h1, h2, h3, h4, h5, _⟩ := q
  exact ⟨e, b', c', S', n', g', h1, h2, h3, h4, h5⟩
section
variable {w : World} {h b c n g : Nat} {S : Nat → SlotI}
set_option maxHeartbeats 1000000 in
theorem put_same_any (t : TabAt w h b c S n g) (k : List (BitVec 8)) (hk : k.length = 32) (v : List Int) (hvl : v.length = 2) (j : Nat) (hj : Tab.Found S c k j) (h1 : (S (Tab.place k c j)).st = 1) :
    Calls Try.prog 17 #[.pointer (some ⟨h, 0, none⟩), .agg (k.map U8).toArray, .agg (ints v).toArray] w (PutExact w h b c n g S k v) := by
  have row : ((w.alloc (.cells (k.map U8).toArray 23)).alloc (.cells (ints v).toArray 37)).heap[w.heap.size]? = some (.cells (k.map U8).toArray 23 (0, 0)) := by rw [Below.heap_alloc _ _ _ (by simp), heap_alloc_new]
  have rowV : ((w.alloc (.cells (k.map U8).toArray 23)).alloc (.cells (ints v).toArray 37)).heap[w.heap.size + 1]? = some (.cells (ints v).toArray 37 (0, 0)) := by rw [heap_alloc2_new]
  have hiv := val_size v hvl
  have hov : (ints v).toArray.all (·.oneCell') = true := all_oneCell_toArray (one_ints _)
  have hlVL := Lib.hid (show (ints v).length = 2 by rw [ints, List.length_map, hvl])
  have hb : Below w.heap.size w ((w.alloc (.cells (k.map U8).toArray 23)).alloc (.cells (ints v).toArray 37)) := ((Below.refl _ _).alloc (Nat.le_refl _) _).alloc (by simp) _
  have t1 := t.below hb
  have FI := find_any _ h b c S t1.look k hk j hj
  have OK := t1.ok
  have hpc := Tab.place_lt k (c := c) (by have := t.look.big.1; omega) j
  have hkey := t.look.rows.key _ hpc
  have hik : (Try.prog.info? 23).map (·.size) = some (k.map U8).toArray.size := by rw [List.size_toArray, List.length_map, hk]; kernel_rfl
  obtain ⟨m1, m2, m3, m4⟩ := t.look.inv.putSame hj h1 v
  have hfk := hj.full h1
  have e1 : ((S (Tab.place k c j)).st == 1) = true := by simp [h1]
  rw [e1] at FI
  have VAL := fun (w' : World) (q : TabAt w' h b c S n g) => q.look.rows.val hpc v hvl
  rw [h1, hfk] at VAL
  have CS := fun (w' : World) (q : TabAt w' h b c S n g) => q.look.slots
  have CF := fun (w' : World) (q : TabAt w' h b c S n g) => q.look.rows.free
  have HAD := Lib.hid (show ∃ v0, Tab.Has S c k v0 from ⟨_, (t.look.inv.hit hj h1 _).2 rfl⟩)
  have M1 := Lib.hid m1
  have M2 := Lib.hid m2
  have M3 := Lib.hid m3
  have M4 := Lib.hid m4
  clear h1 e1 hj hkey hfk m1 m2 m3 m4
  have HVL := Lib.hid hvl
  clear hvl
  generalize (k.map U8).toArray = K at *
  generalize ints v = VL at *
  generalize Tab.place k c j = p at *
  go_enter Try.func17, Try.ntmps17
  go_wp2_with fail
  generalize (w.alloc (.cells K 23)).alloc (.cells VL.toArray 37) = w1 at *
  refine OK.mono ?_
  rintro e w' ⟨rfl, rfl⟩
  go_wp2_with (with_reducible refine at_load 23 ?_; refine wpList_load_row rfl 23 _ rfl w.heap.size rfl _ K _ _ row Try.underlying23 rfl hik ?_)
  refine FI.mono ?_
  rintro e w2 ⟨rfl, hb2⟩
  have t2 := t1.below hb2
  have cs := CS w2 t2
  have cf := CF w2 t2
  have rowV2 := (hb2.block _ (heap_lt rowV)).trans rowV
  clear CS CF FI OK
  go_wp2_with fail
  refine wp_region_mid 8 (by kernel_rfl) (by kernel_rfl) rfl ?_
  simp only [List.take_succ_cons, List.take_zero, List.drop_zero]
  repeat (first
    | (go_big_quiet_want; refine quiet_row_of (fun w' e => (show w'.heap[w.heap.size + 1]? = some (.cells VL.toArray 37 (0, 0)) from by obtain ⟨_, rfl⟩ := e; exact rowV2)) Try.underlying37 rfl hiv rfl rfl ?_; simp only [Act.put, List.setIfInBounds_toArray, List.set_cons_succ, List.set_cons_zero]; go_big_quiet_on)
    | go_big_quiet_step (fail)
    | quiet_step (fail))
  refine wpQuiet_nil ?_
  intro jj
  have tj : Touch (fun _ => False) w2 (w2.drewN jj) := (Touch.refl _ _).drewN jj
  have t3 := t2.touch tj id id
  have val := VAL (w2.drewN jj) t3
  have TH : (w2.drewN jj).there b (p * 35 + 33) VL.toArray.size := by rw [List.size_toArray, hlVL.out]; exact t3.look.rows.thereVal hpc
  have VALH := Lib.hid val
  clear VAL val
  go_wp2_with (with_reducible refine at_store 37 ?_; go_must (refine wpList_store_mid rfl 37 _ _ rfl b (p * 35 + 33) VL.toArray rfl rfl TH hiv hov ?_))
  clear TH
  refine midPost_normal (rest_quiet (by kernel_rfl) ?_)
  simp only [List.drop_succ_cons, List.drop_nil]
  refine wpQuiet_nil ?_
  intro j2
  go_wp2_with fail
  refine bodyPost_end (results_none rfl _ _ _) rfl ?_
  have hb3 := below_drewN (hb.trans (hb2.mono hb.size)) jj
  have tt : Touch (fun y => y = b) (w2.drewN jj) ((w2.drewN jj).setCells b (p * 35 + 33) VL) := Touch.setCells (F := fun y => y = b) b rfl _ _ _
  have td2 : Touch (fun y => y = b) (w2.drewN jj) (((w2.drewN jj).setCells b (p * 35 + 33) VL).drewN j2) := tt.drewN j2
  have tk : Touch (fun _ => False) ((w2.drewN jj).setCells b (p * 35 + 33) VL) (((w2.drewN jj).setCells b (p * 35 + 33) VL).drewN j2) := (Touch.refl _ _).drewN j2
  have hne := t.look.ne
  have hrw := VALH.out.touch tk id
  refine ⟨rfl, b, c, _, n, g, ⟨(td2.block h (heap_lt t3.head) hne).trans t3.head, ⟨td2.cell t3.look.slots hne, hrw, hne, M1.out, t.look.pow, t.look.big⟩, M3.out.trans t.nf, M4.out.trans t.nd, t.room⟩, M2.out, by omega, .inl rfl, ?_⟩
  exact ⟨(Touch.of_below hb3).trans (td2.mono fun _ e => .inr e), fun _ => ⟨rfl, rfl, rfl⟩, fun q => (q HAD.out).elim⟩
set_option maxHeartbeats 1000000 in
theorem put_new_any (t : TabAt w h b c S n g) (k : List (BitVec 8)) (hk : k.length = 32) (v : List Int) (hvl : v.length = 2) (j : Nat) (hj : Tab.Found S c k j) (h1 : (S (Tab.place k c j)).st ≠ 1) (hcond : 4 * (n + g + 1) ≤ 3 * c) :
    Calls Try.prog 17 #[.pointer (some ⟨h, 0, none⟩), .agg (k.map U8).toArray, .agg (ints v).toArray] w (PutExact w h b c n g S k v) := by
  have row : ((w.alloc (.cells (k.map U8).toArray 23)).alloc (.cells (ints v).toArray 37)).heap[w.heap.size]? = some (.cells (k.map U8).toArray 23 (0, 0)) := by rw [Below.heap_alloc _ _ _ (by simp), heap_alloc_new]
  have rowV : ((w.alloc (.cells (k.map U8).toArray 23)).alloc (.cells (ints v).toArray 37)).heap[w.heap.size + 1]? = some (.cells (ints v).toArray 37 (0, 0)) := by rw [heap_alloc2_new]
  have hiv := val_size v hvl
  have hov : (ints v).toArray.all (·.oneCell') = true := all_oneCell_toArray (one_ints _)
  have hlVL := Lib.hid (show (ints v).length = 2 by rw [ints, List.length_map, hvl])
  have hb : Below w.heap.size w ((w.alloc (.cells (k.map U8).toArray 23)).alloc (.cells (ints v).toArray 37)) := ((Below.refl _ _).alloc (Nat.le_refl _) _).alloc (by simp) _
  have t1 := t.below hb
  have FI := find_any _ h b c S t1.look k hk j hj
  have OK := t1.ok
  have hc8 := t.look.big.1
  have hcM := t.look.big.2
  have hpc := Tab.place_lt k (c := c) (by omega) j
  have hik : (Try.prog.info? 23).map (·.size) = some (k.map U8).toArray.size := by rw [List.size_toArray, List.length_map, hk]; kernel_rfl
  have hbuilt := built_slot k hk v hvl
  have hlCS := Lib.hid (length_slotC (s := ⟨1, k, v⟩) hk hvl)
  have hoCS : (slotC ⟨1, k, v⟩).toArray.all (·.oneCell') = true := all_oneCell_toArray (one_slotC _)
  have hvCS : (Try.prog.info? 91).map (·.size) = some (slotC ⟨1, k, v⟩).toArray.size := by rw [List.size_toArray, hlCS.out]; kernel_rfl
  have HK := Lib.hid hk
  have hroom := t.room
  have hnd := t.nd
  have hnf := t.nf
  have hhs := heap_lt t.head
  have e1 : ((S (Tab.place k c j)).st == 1) = false := by simp [h1]
  rw [e1] at FI
  obtain ⟨m1, m2, m3, m4⟩ := t.look.inv.putNew hj h1 (by rw [hnd, hnf]; omega) v
  have HADN := Lib.hid (show ¬ ∃ v0, Tab.Has S c k v0 from fun ⟨_, q⟩ => t.look.inv.miss hj h1 _ q)
  have M1 := Lib.hid m1
  have M2 := Lib.hid m2
  have M3 := Lib.hid m3
  have M4 := Lib.hid m4
  have HND := Lib.hid hnd
  have HNF := Lib.hid hnf
  have hno : ¬ (4 * ((n : Int) + g + 1) > 3 * (c : Int)) := by omega
  clear h1 e1 hj m1 m2 m3 m4 hnd hnf
  generalize hCS : slotC ⟨1, k, v⟩ = CS at *
  have HCS := Lib.hid hCS
  clear hCS hk
  have HVL := Lib.hid hvl
  clear hvl
  generalize (k.map U8).toArray = K at *
  generalize ints v = VL at *
  generalize Tab.place k c j = p at *
  go_enter Try.func17, Try.ntmps17
  go_wp2_with fail
  generalize (w.alloc (.cells K 23)).alloc (.cells VL.toArray 37) = w1 at *
  refine OK.mono ?_
  rintro e w' ⟨rfl, rfl⟩
  go_wp2_with (with_reducible refine at_load 23 ?_; refine wpList_load_row rfl 23 _ rfl w.heap.size rfl _ K _ _ row Try.underlying23 rfl hik ?_)
  refine FI.mono ?_
  rintro e w2 ⟨rfl, hb2⟩
  have t2 := t1.below hb2
  have hx0 := t2.look.slots
  have hx1 := t2.c1
  have hx2 := t2.c2
  have hHx : HeadAt w2 h b c n g := t2.head
  have rx := t2.look.rows
  have rowx := (hb2.block _ (heap_lt row)).trans row
  have rowVx := (hb2.block _ (heap_lt rowV)).trans rowV
  have hneX := Lib.hid t2.look.ne
  have hpx := hpc
  clear OK FI t1 row
  go_wp2_with fail
  go_quiet (fail)
  have hxd : (w2.drewN nq).cell? ⟨h, 0, none⟩ = some (.slice (some ⟨b, 0, none⟩) c c) := hx0
  have td : Touch (fun _ => False) w2 (w2.drewN nq) := (Touch.refl _ _).drewN nq
  have hHx := hHx.touch td id
  have rx := rx.touch td id
  have rowx := (td.block _ (heap_lt rowx) id).trans rowx
  have rowVx := (td.block _ (heap_lt rowVx) id).trans rowVx
  have hbd := Lib.hid (hb.trans (below_drewN (hb2.mono hb.size) nq))
  clear hx0 hx1 hx2 t2 td hb hb2
  generalize w2.drewN nq = w3 at *
  rw [show decide (3 * (c : Int) < 4 * ((n : Int) + g + 1)) = false by simp; omega]
  go_wp2_with fail
  refine wp_region_mid 9 (by kernel_rfl) (by kernel_rfl) rfl ?_
  simp only [List.take_succ_cons, List.take_zero, List.drop_zero]
  repeat (first
    | (go_big_quiet_want; refine quiet_row_of (fun w' e => (show w'.heap[w.heap.size]? = some (.cells K 23 (0, 0)) from by obtain ⟨_, rfl⟩ := e; exact rowx)) Try.underlying23 rfl hik rfl rfl ?_; simp only [Act.put, List.setIfInBounds_toArray, List.set_cons_succ, List.set_cons_zero]; go_big_quiet_on)
    | (go_big_quiet_want; refine quiet_row_of (fun w' e => (show w'.heap[w.heap.size + 1]? = some (.cells VL.toArray 37 (0, 0)) from by obtain ⟨_, rfl⟩ := e; exact rowVx)) Try.underlying37 rfl hiv rfl rfl ?_; simp only [Act.put, List.setIfInBounds_toArray, List.set_cons_succ, List.set_cons_zero]; go_big_quiet_on)
    | (go_big_quiet_want; refine quiet_built 91 _ rfl CS.toArray (by go_simp) ?_; simp only [Act.put, List.setIfInBounds_toArray, List.set_cons_succ, List.set_cons_zero]; go_big_quiet_on)
    | go_big_quiet_step (fail)
    | quiet_step (fail))
  refine wpQuiet_nil ?_
  intro jj
  have tj : Touch (fun _ => False) w3 (w3.drewN jj) := (Touch.refl _ _).drewN jj
  have rj := rx.touch tj id
  have TH : (w3.drewN jj).there b (p * 35) CS.toArray.size := by rw [List.size_toArray, hlCS.out]; exact rj.there hpx
  have PUT := rj.put hpx ⟨1, k, v⟩ HK.out HVL.out
  rw [HCS.out] at PUT
  have TP : Touch (fun y => y = b) (w3.drewN jj) ((w3.drewN jj).setCells b (p * 35) CS) := Touch.setCells (F := fun y => y = b) b rfl _ _ _
  have HPUT := Lib.hid PUT
  have HTP := Lib.hid TP
  clear rj PUT TP
  go_wp2_with (with_reducible refine at_store 91 ?_; go_must (refine wpList_store_mid rfl 91 _ _ rfl b (p * 35) CS.toArray rfl rfl TH hvCS hoCS ?_))
  clear TH
  refine midPost_normal (rest_quiet (by kernel_rfl) ?_)
  simp only [List.drop_succ_cons, List.drop_nil]
  refine wpQuiet_nil ?_
  intro j2
  have tk : Touch (fun _ => False) ((w3.drewN jj).setCells b (p * 35) CS) (((w3.drewN jj).setCells b (p * 35) CS).drewN j2) := (Touch.refl _ _).drewN j2
  have hhx := (((hHx.touch tj id).touch HTP.out (show ¬ (h = b) from hneX.out)).touch tk id)
  have rowsx := HPUT.out.touch tk id
  have tX : Touch (fun y => y = h ∨ y = b) w3 (((w3.drewN jj).setCells b (p * 35) CS).drewN j2) := ((tj.mono fun _ e => e.elim).trans (HTP.out.mono fun _ e => .inr e)).trans (tk.mono fun _ e => e.elim)
  have HTX := Lib.hid tX
  have HROWS := Lib.hid rowsx
  have hc1 := hhx.c1
  have hthx := hhx.thawed
  have HHX := Lib.hid hhx
  clear tk tX rowsx hhx tj HPUT HTP
  generalize ((w3.drewN jj).setCells b (p * 35) CS).drewN j2 = w8 at *
  go_wp2
  refine bodyPost_end (results_none rfl _ _ _) rfl ?_
  have t9 : Touch (fun y => y = h) w8 (w8.setCell ⟨h, 1, none⟩ (.int .i64 ((n : Int) + 1))) := Touch.set (F := fun y => y = h) _ h 1 _ rfl
  have h9 := HHX.out.set1 (n + 1)
  rw [show (((n + 1 : Nat)) : Int) = (n : Int) + 1 by omega] at h9
  have r9 := HROWS.out.touch t9 (show ¬ (b = h) from hneX.out.symm)
  have hneX := hneX.out
  refine ⟨rfl, b, c, _, n + 1, g, ⟨h9, ⟨h9.c0, r9, hneX, M1.out, t.look.pow, t.look.big⟩, by rw [M3.out, HNF.out], by rw [M4.out, HND.out], by omega⟩, M2.out, Nat.le_refl _, .inl rfl, ?_⟩
  exact ⟨((Touch.of_below hbd.out).trans HTX.out).trans (t9.mono fun _ e => .inl e), fun q => (HADN.out q).elim, fun _ => ⟨rfl, fun _ => ⟨rfl, rfl⟩, fun q => by omega⟩⟩
end
end Go.Proofs.Ytahmnpbfjfllmaa.Co
