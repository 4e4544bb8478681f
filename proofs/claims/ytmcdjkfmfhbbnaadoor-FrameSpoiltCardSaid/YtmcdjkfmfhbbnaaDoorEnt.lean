/- Entries as values; check, Size. -/
import Derived.Test.YtmcdjkfmfhbbnaaDoorFMath
import Derived.Test.YtmcdjkfmfhbbnaaDoorNum
import Derived.Test.YtmcdjkfmfhbbnaaDoorM
import Derived.Test.YtmcdjkfmfhbbnaaDoorQ
import Derived.Stop.BytesEq
import Derived.Deep.DeepMust
namespace Go.Proofs.YtmcdjkfmfhbbnaaDoor
open Go Go.RowKit

def ub (c : BitVec 8) : UInt8 := UInt8.ofNat c.toNat
theorem ub_inj {c d : BitVec 8} (h : ub c = ub d) : c = d := by
  apply BitVec.eq_of_toNat_eq
  have := congrArg UInt8.toNat h
  simpa [ub] using this
theorem map_ub_beq : ∀ k m : List (BitVec 8), (k.map ub == m.map ub) = (k == m) := fun k m => by
  rw [Bool.eq_iff_iff, beq_iff_eq, beq_iff_eq]
  constructor
  · intro h
    induction k generalizing m with
    | nil => cases m with
      | nil => rfl
      | cons d m => simp at h
    | cons c k ih => cases m with
      | nil => simp at h
      | cons d m =>
        simp only [List.map_cons, List.cons.injEq] at h
        rw [ub_inj h.1, ih m h.2]
  · rintro rfl; rfl
theorem map_cell (k : List (BitVec 8)) : (k.map ub).map Extern.Stop.cell = k.map U8 := by
  rw [List.map_map]
  apply List.map_congr_left
  intro c _
  simp [Extern.Stop.cell, ub, U8]
theorem run_eq_key (k m : List (BitVec 8)) (hk : k.length = 32) (hm : m.length = 32) (w : World) :
    (binOp .eql 23 (.agg (k.map U8).toArray) (.agg (m.map U8).toArray)).run Tryd.prog w = .ok (.bool (k == m)) w := by
  have h := run_eql_bytes (P := Tryd.prog) w 23 5 32 Tryd.underlying23 Tryd.underlying5 (fun w => by kernel_rfl) (k.map ub) (m.map ub) (by simpa using hk) (by simpa using hm)
  rw [map_cell, map_cell, map_ub_beq] at h
  exact h
theorem run_neq_key (k m : List (BitVec 8)) (hk : k.length = 32) (hm : m.length = 32) (w : World) :
    (binOp .neq 23 (.agg (k.map U8).toArray) (.agg (m.map U8).toArray)).run Tryd.prog w = .ok (.bool (!(k == m))) w := by
  have h := run_equalIn_bytes (P := Tryd.prog) w 9998 23 5 32 Tryd.underlying23 Tryd.underlying5 (fun w => by kernel_rfl) (k.map ub) (m.map ub) (by simpa using hk) (by simpa using hm)
  rw [map_cell, map_cell, map_ub_beq] at h
  rw [run_neq_struct, h]
  rfl
theorem wpList_built_g {P : Program} {ops : Array Oper} {rest : List Oper} {o : Oper} {a : Act} {w : World} {Q : Exit → Act → World → Prop} (hw : Region.wanted o (yielded ops a.tmps) = true) (t : TypeId) (parts : Array (Nat × Operand)) (ho : o.op = .build t parts)
    (cells : Array Value) (hf : P.built t (parts.map fun (i, x) => (i, a.eval x)).toList = some cells)
    (h : wpList P ops Q rest (a.put o.dst (.agg cells)) w) : wpList P ops Q (o :: rest) a w :=
  BigFrame.wpList_want hw fun _ hK => wp_build t parts ho (by rw [hf]; rfl) (hK _ _ (by rw [hf]; exact h))
theorem built_key : Program.built Tryd.prog 23 [] = some (zeroKey.map U8).toArray := by kernel_rfl
/-- An entry's cells: its tag, its key, the slice of its data. -/
def entC (e : Ent) (dv : Value) : List Value := .int .i64 e.tag :: (e.key.map U8 ++ [dv])
theorem length_entC {e : Ent} {dv : Value} (h : e.key.length = 32) : (entC e dv).length = 34 := by simp [entC, h]
theorem entC_tag (e : Ent) (dv : Value) : (entC e dv)[0]? = some (.int .i64 e.tag) := rfl
theorem entC_data {e : Ent} {dv : Value} (h : e.key.length = 32) : (entC e dv)[33]? = some dv := by
  unfold entC
  rw [List.getElem?_cons_succ, List.getElem?_append_right (by simp [h])]
  simp [h]
theorem entC_key {e : Ent} {dv : Value} (h : e.key.length = 32) : ((entC e dv).drop 1).take 32 = e.key.map U8 := by
  unfold entC
  rw [List.drop_succ_cons, List.drop_zero, List.take_append_of_le_length (by simp [h]), List.take_of_length_le (by simp [h])]
theorem one_entC (e : Ent) (a : Option Addr) (n cap : Nat) : ∀ v ∈ entC e (.slice a n cap), v.oneCell' = true := by
  intro v hv
  unfold entC at hv
  rcases List.mem_cons.1 hv with rfl | hv
  · rfl
  · rcases List.mem_append.1 hv with hv | hv
    · obtain ⟨c, _, rfl⟩ := List.mem_map.1 hv
      rfl
    · rw [List.mem_singleton] at hv
      subst hv; rfl
/-- An entry in a block of its own, from an offset on. -/
structure EntAt (w : World) (g o : Nat) (e : Ent) (dv : Value) : Prop where
  cells : w.rangeAt g o (entC e dv)
  key : e.key.length = 32
section
variable {w w' : World} {g o : Nat} {e : Ent} {dv : Value}
theorem EntAt.c0 (h : EntAt w g o e dv) : w.cell? ⟨g, o, none⟩ = some (.int .i64 e.tag) := rangeAt_cell h.cells (k := 0) rfl
theorem EntAt.c33 (h : EntAt w g o e dv) : w.cell? ⟨g, o + 33, none⟩ = some dv := rangeAt_cell h.cells (entC_data h.key)
theorem EntAt.ck (h : EntAt w g o e dv) : w.rangeAt g (o + 1) (e.key.map U8) := by
  have := rangeAt_part h.cells 1 32
  rwa [entC_key h.key] at this
theorem EntAt.keeps (h : EntAt w g o e dv) (k : Keeps w w') : EntAt w' g o e dv := ⟨fun j v hv => k _ _ (h.cells j v hv), h.key⟩
theorem entAt_alloc (w : World) (e : Ent) (dv : Value) (T : TypeId) (hk : e.key.length = 32) : EntAt (w.alloc (.cells (entC e dv).toArray T)) w.heap.size 0 e dv :=
  ⟨by have := rangeAt_row (heap_alloc_new w (.cells (entC e dv).toArray T)); rwa [List.toList_toArray] at this, hk⟩
end
set_option maxHeartbeats 400000 in
theorem check_any (e : Ent) (a : Option Addr) (cap : Nat) (hk : e.key.length = 32) (hl : e.data.length ≤ 1048576) (w : World) :
    Calls Tryd.prog 29 #[.agg (entC e (.slice a e.data.length cap)).toArray] w fun en w' => en = .returned (.int .i64 (chk e)) ∧ Below w.heap.size w w' := by
  have hE := entAt_alloc w e (.slice a e.data.length cap) 26 hk
  have c0 := hE.c0
  have c33 := hE.c33
  have ck := hE.ck
  rw [Nat.zero_add] at c33 ck
  have hik : (Tryd.prog.info? 23).map (·.size) = some (e.key.map U8).length := by rw [List.length_map, hk]; kernel_rfl
  have hb := (Below.refl w.heap.size w).alloc (Nat.le_refl _) (.cells (entC e (.slice a e.data.length cap)).toArray 26)
  have hbk := built_key
  have hnk := run_neq_key e.key zeroKey hk rfl
  have hd1 : e.data.length = 0 ∨ 0 < e.data.length := by omega
  unfold chk
  clear hE hk
  generalize entC e (.slice a e.data.length cap) = C at *
  have kk : (e.key = zeroKey ∧ (e.key == zeroKey) = true) ∨ (¬ e.key = zeroKey ∧ (e.key == zeroKey) = false) := by
    by_cases h : e.key = zeroKey
    · exact .inl ⟨h, by rw [h]; exact beq_self_eq_true _⟩
    · exact .inr ⟨h, by simpa using h⟩
  generalize e.key.map U8 = K at *
  generalize (zeroKey.map U8).toArray = Z at *
  generalize e.data.length = n at *
  generalize e.tag = t at *
  have ht : t = 0 ∨ t = 1 ∨ t = 2 ∨ (¬ t = 0 ∧ ¬ t = 1 ∧ ¬ t = 2) := by omega
  have HB := Lib.hid hb
  clear hb
  have fin : ∀ x y : Int, x = y → ∀ w', Below w.heap.size w w' → (Ending.returned (.int .i64 x) = .returned (.int .i64 y) ∧ Below w.heap.size w w') := fun x y h w' hb => ⟨ret_i64 h, hb⟩
  rcases ht with rfl | rfl | rfl | ⟨h0, h1, h2⟩
  · by_cases hn : 16384 < n
    · rw [if_pos rfl, if_pos hn]
      have hn' : (16384 : Int) < (n : Int) := by omega
      go_enter Tryd.func29, Tryd.ntmps29
      go_wp2_with fail
      go_ret
      exact ⟨rfl, HB.out⟩
    · rw [if_pos rfl, if_neg hn]
      have hn' : ¬ (16384 : Int) < (n : Int) := by omega
      go_enter Tryd.func29, Tryd.ntmps29
      go_wp2_with fail
      go_ret
      exact ⟨rfl, HB.out⟩
  · rcases hd1 with hd1 | hd1
    · subst hd1
      rw [if_neg (by decide), if_pos rfl, if_neg (by decide)]
      go_enter Tryd.func29, Tryd.ntmps29
      go_wp2_with fail
      go_ret
      exact ⟨rfl, HB.out⟩
    · rw [if_neg (by decide), if_pos rfl, if_pos hd1]
      go_enter Tryd.func29, Tryd.ntmps29
      go_wp2_with fail
      go_ret
      exact ⟨rfl, HB.out⟩
  · rcases kk with ⟨k1, k2⟩ | ⟨k1, k2⟩
    · rw [if_neg (by decide), if_neg (by decide), if_pos rfl, if_pos k1]
      have HK := Lib.hid k1
      rw [k2] at hnk
      clear k1 k2
      rcases hd1 with hd1 | hd1
      · subst hd1
        rw [if_neg (by decide)]
        go_enter Tryd.func29, Tryd.ntmps29
        go_wp2_with (first
          | (with_reducible refine at_load 23 ?_; go_must (refine wpList_load_mid rfl 23 _ rfl w.heap.size 1 rfl K _ ck Tryd.underlying23 rfl hik ?_))
          | (with_reducible refine at_build 23 ?_; go_must (refine wpList_built' rfl 23 _ rfl Z (by go_simp) ?_)))
        go_ret
        exact ⟨rfl, HB.out⟩
      · rw [if_pos hd1]
        go_enter Tryd.func29, Tryd.ntmps29
        go_wp2_with (first
          | (with_reducible refine at_load 23 ?_; go_must (refine wpList_load_mid rfl 23 _ rfl w.heap.size 1 rfl K _ ck Tryd.underlying23 rfl hik ?_))
          | (with_reducible refine at_build 23 ?_; go_must (refine wpList_built' rfl 23 _ rfl Z (by go_simp) ?_)))
        go_ret
        exact ⟨rfl, HB.out⟩
    · rw [if_neg (by decide), if_neg (by decide), if_pos rfl, if_neg k1]
      rw [k2] at hnk
      clear k1 k2
      go_enter Tryd.func29, Tryd.ntmps29
      go_wp2_with (first
        | (with_reducible refine at_load 23 ?_; go_must (refine wpList_load_mid rfl 23 _ rfl w.heap.size 1 rfl K _ ck Tryd.underlying23 rfl hik ?_))
        | (with_reducible refine at_build 23 ?_; go_must (refine wpList_built' rfl 23 _ rfl Z (by go_simp) ?_)))
      go_ret
      exact ⟨rfl, HB.out⟩
  · rw [if_neg h0, if_neg h1, if_neg h2]
    have e0 : (t == 0) = false := by simpa using h0
    have e1 : (t == 1) = false := by simpa using h1
    have e2 : (t == 2) = false := by simpa using h2
    go_enter Tryd.func29, Tryd.ntmps29
    go_wp2_with fail
    go_ret
    exact ⟨rfl, HB.out⟩
end Go.Proofs.YtmcdjkfmfhbbnaaDoor
