/- Rows inside a fence: loads, stores of rows; for loops over functions. -/
import Derived.RangeFuncNested
import Derived.RangeFuncBound
import Derived.RangeFuncCalls
import Derived.RangeFuncLeaves
import Derived.Shelf.Abstract
import Derived.Shelf.RegionOpen
import Derived.WalkKit
import Derived.OwnWalkIn
import Derived.TacticsInMore
import Derived.LoopNIn
import Derived.LoopIn
import Derived.Test.YtahmnpbfjfllmaaM
namespace Go.Proofs.Ytahmnpbfjfllmaa
open Go Go.RowKit

section
variable {F : Fence} {n : Nat} {P : Program} {ops : Array Oper} {rest : List Oper} {o : Oper} {a : Act} {w : World} {Q : Exit → Act → World → Prop}
theorem wpListIn_load_row (hw : Region.wanted o (yielded ops a.tmps) = true) (ty : TypeId) (x : Operand) (ho : o.op = .load ty x)
    (g : Nat) (hx : a.eval x = .pointer (some ⟨g, 0, none⟩)) (t : TypeId) (cs : Array Value) (fr : Nat × Nat) (d : TypeDesc) (hg : w.heap[g]? = some (.cells cs t fr))
    (hu : P.underlying ty = some d) (hd : (match d with | .struct _ | .array _ _ => true | _ => false) = true) (hi : (P.info? ty).map (·.size) = some cs.size)
    (h : wpListIn F n P ops Q rest (a.put o.dst (.agg cs)) w) : wpListIn F n P ops Q (o :: rest) a w := by
  refine BigFrame.wpListIn_want hw fun K hK => ?_
  unfold Oper.wpIn
  refine ⟨by simp [Oper.about, ho], ?_⟩
  rw [Oper.semAt_plain F _ _ (by rw [ho]; intro c hc; cases hc)]
  unfold execOp
  simp only [ho, hx, Instr.loadAt, Instr.sureAddr, Sem.run_bind, Sem.run_pure, Result.andThen_ok, run_loadVar_row w g t ty cs fr d hg hu hd hi]
  exact hK _ _ h
theorem wpListIn_load_mid (hw : Region.wanted o (yielded ops a.tmps) = true) (ty : TypeId) (x : Operand) (ho : o.op = .load ty x)
    (b f : Nat) (hx : a.eval x = .pointer (some ⟨b, f, none⟩)) (cs : List Value) (d : TypeDesc) (hc : w.rangeAt b f cs)
    (hu : P.underlying ty = some d) (hd : d.isRow = true) (hi : (P.info? ty).map (·.size) = some cs.length)
    (h : wpListIn F n P ops Q rest (a.put o.dst (.agg cs.toArray)) w) : wpListIn F n P ops Q (o :: rest) a w := by
  refine BigFrame.wpListIn_want hw fun K hK => ?_
  unfold Oper.wpIn
  refine ⟨by simp [Oper.about, ho], ?_⟩
  rw [Oper.semAt_plain F _ _ (by rw [ho]; intro c hc; cases hc)]
  unfold execOp
  simp only [ho, hx, Instr.loadAt, Instr.sureAddr, Sem.run_bind, Sem.run_pure, Result.andThen_ok, run_loadVar_mid w b f ty cs d hc hu hd hi]
  exact hK _ _ h
theorem wpListIn_store_row (hw : Region.wanted o (yielded ops a.tmps) = true) (ty : TypeId) (x y : Operand) (ho : o.op = .store ty x y)
    (g : Nat) (cells : Array Value) (hx : a.eval x = .pointer (some ⟨g, 0, none⟩)) (hy : a.eval y = .agg cells)
    (t : TypeId) (old : Array Value) (hg : w.heap[g]? = some (.cells old t (0, 0))) (hi : (P.info? ty).map (·.size) = some cells.size)
    (hold : old.size = cells.size) (h1 : cells.all (·.oneCell') = true)
    (h : wpListIn F n P ops Q rest (a.put o.dst undef) (w.setRow g cells)) : wpListIn F n P ops Q (o :: rest) a w := by
  refine BigFrame.wpListIn_want hw fun K hK => ?_
  unfold Oper.wpIn
  refine ⟨by simp [Oper.about, ho], ?_⟩
  rw [Oper.semAt_plain F _ _ (by rw [ho]; intro c hc; cases hc)]
  unfold execOp
  simp only [ho, hx, hy, Instr.storeAt, Instr.sureAddr, Sem.run_bind, Sem.run_pure, Result.andThen_ok, run_storeVar_row w g t ty old cells hg hi hold h1]
  exact hK _ _ h
theorem wpListIn_built (hw : Region.wanted o (yielded ops a.tmps) = true) (t : TypeId) (parts : Array (Nat × Operand)) (ho : o.op = .build t parts)
    (cells : Array Value) (hf : P.built t (parts.map fun (i, x) => (i, a.eval x)).toList = some cells)
    (h : wpListIn F n P ops Q rest (a.put o.dst (.agg cells)) w) : wpListIn F n P ops Q (o :: rest) a w := by
  refine BigFrame.wpListIn_want hw fun K hK => ?_
  unfold Oper.wpIn
  refine ⟨by simp [Oper.about, ho], ?_⟩
  rw [Oper.semAt_plain F _ _ (by rw [ho]; intro c hc; cases hc)]
  unfold execOp
  simp only [ho, Sem.run_bind, run_build w t _ cells hf, Result.andThen_ok, Sem.run_pure]
  exact hK _ _ h
end
/-- Guards: the fenced walk stands at a load, a store of this type. -/
theorem in_load (t : TypeId) {F : Fence} {n : Nat} {P : Program} {ops : Array Oper} {Q : Exit → Act → World → Prop} {rest : List Oper} {d : Option Tmp} {x : Operand} {ty : TypeId} {pos : String} {after : Array Edge} {g : Option (Nat × Bool)} {a : Act} {w : World}
    (h : wpListIn F n P ops Q ({ dst := d, op := .load t x, type := ty, pos, after, guard := g } :: rest) a w) : wpListIn F n P ops Q ({ dst := d, op := .load t x, type := ty, pos, after, guard := g } :: rest) a w := h
theorem in_store (t : TypeId) {F : Fence} {n : Nat} {P : Program} {ops : Array Oper} {Q : Exit → Act → World → Prop} {rest : List Oper} {d : Option Tmp} {x y : Operand} {ty : TypeId} {pos : String} {after : Array Edge} {g : Option (Nat × Bool)} {a : Act} {w : World}
    (h : wpListIn F n P ops Q ({ dst := d, op := .store t x y, type := ty, pos, after, guard := g } :: rest) a w) : wpListIn F n P ops Q ({ dst := d, op := .store t x y, type := ty, pos, after, guard := g } :: rest) a w := h
theorem in_build (t : TypeId) {F : Fence} {n : Nat} {P : Program} {ops : Array Oper} {Q : Exit → Act → World → Prop} {rest : List Oper} {d : Option Tmp} {parts : Array (Nat × Operand)} {ty : TypeId} {pos : String} {after : Array Edge} {g : Option (Nat × Bool)} {a : Act} {w : World}
    (h : wpListIn F n P ops Q ({ dst := d, op := .build t parts, type := ty, pos, after, guard := g } :: rest) a w) : wpListIn F n P ops Q ({ dst := d, op := .build t parts, type := ty, pos, after, guard := g } :: rest) a w := h
/-- Every cell lies as it lay, but in the blocks of F. -/
structure CellsBut (F : Nat → Prop) (W W' : World) : Prop where
  size : W.heap.size ≤ W'.heap.size
  same : ∀ (k : Nat) (cs : Array Value) (t : TypeId) (fr : Nat × Nat), W.heap[k]? = some (.cells cs t fr) → ¬ F k → W'.heap[k]? = some (.cells cs t fr)
theorem CellsBut.refl (F : Nat → Prop) (W : World) : CellsBut F W W := ⟨Nat.le_refl _, fun _ _ _ _ h _ => h⟩
theorem CellsBut.trans {F : Nat → Prop} {A B C : World} (h : CellsBut F A B) (k : CellsBut F B C) : CellsBut F A C := ⟨Nat.le_trans h.size k.size, fun i cs t fr e hn => k.same i cs t fr (h.same i cs t fr e hn) hn⟩
theorem CellsBut.of_below {F : Nat → Prop} {A B : World} (h : Below A.heap.size A B) : CellsBut F A B := ⟨h.size, fun k _ _ _ e _ => (h.block k (heap_lt e)).trans e⟩
theorem CellsBut.set {F : Nat → Prop} (W : World) (b o : Nat) (v : Value) (hb : F b) : CellsBut F W (W.setCell ⟨b, o, none⟩ v) := by
  have t := Touch.set (F := F) W b o v hb
  exact ⟨t.size, fun k _ _ _ e hn => (t.block k (heap_lt e) hn).trans e⟩
theorem CellsBut.setRow {F : Nat → Prop} (W : World) (b : Nat) (cs : Array Value) (hb : F b) : CellsBut F W (W.setRow b cs) := by
  have t := Touch.setRow (F := F) W b cs hb
  exact ⟨t.size, fun k _ _ _ e hn => (t.block k (heap_lt e) hn).trans e⟩
theorem CellsBut.putObj {F : Nat → Prop} {w : World} (W : World) (l : Nat) (o o' : Obj) (_ : w.heap.size ≤ l) (h : W.heap[l]? = some o) (ho : o.isCells = false) (_ : o.isWalk = false) : CellsBut F W (W.putObj l o') := by
  have g := grownBy_putObj' W l o'
  refine ⟨g.size, fun k cs t fr e _ => (g.block k (heap_lt e) (fun e2 => ?_)).trans e⟩
  injection e2 with e2
  subst e2
  rw [h] at e
  injection e with e
  rw [e] at ho
  cases ho
theorem CellsBut.cell {F : Nat → Prop} {A B : World} (h : CellsBut F A B) {p : Addr} {v : Value} (hc : A.cell? p = some v) (hn : ¬ F p.block) : B.cell? p = some v := by
  cases ho : A.heap[p.block]? with
  | none => simp [World.cell?, ho] at hc
  | some o =>
    cases o with
    | cells cs t fr => rw [← hc]; exact World.cell?_of_block ((h.same _ _ _ _ ho hn).trans ho.symm)
    | _ => simp [World.cell?, ho] at hc
theorem CellsBut.range {F : Nat → Prop} {A B : World} (h : CellsBut F A B) {b o : Nat} {cs : List Value} (hc : A.rangeAt b o cs) (hn : ¬ F b) : B.rangeAt b o cs := fun j v hv => h.cell (hc j v hv) hn
theorem abides_below {β : Type} {B : Nat} {J : β → World → Prop} (h : AbidesFrom B J) {s : β} {W W' : World} (hs : J s W) (hb : Below W.heap.size W W') : J s W' :=
  h s W W' none hs ⟨hb.os, hb.tape, hb.output, hb.size, fun k hk _ => hb.block k hk⟩ fun r e => (by cases e)
end Go.Proofs.Ytahmnpbfjfllmaa
