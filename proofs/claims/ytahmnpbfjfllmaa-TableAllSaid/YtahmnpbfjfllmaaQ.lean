/- Single operations of regions that draw their order, taken in any later world: loads of several cells at once, nil checks. For any program. -/
import Derived.Test.YtahmnpbfjfllmaaP
import Derived.Test.YtahmnpbfjfllmaaM
namespace Go.Proofs.Ytahmnpbfjfllmaa
open Go Go.RowKit

/-- A load of a whole array in any later world. -/
theorem quiet_load_row {P : Program} {w : World} {o : Oper} {a : Act} {K : Act → Prop} {ty : TypeId} {x : Operand} {g : Nat} {cs : Array Value} {t : TypeId} {fr : Nat × Nat} {d : TypeDesc}
    (hg : w.heap[g]? = some (.cells cs t fr)) (hu : P.underlying ty = some d) (hd : (match d with | .struct _ | .array _ _ => true | _ => false) = true) (hi : (P.info? ty).map (·.size) = some cs.size)
    (ho : o.op = .load ty x) (hx : a.eval x = .pointer (some ⟨g, 0, none⟩)) (hk : K (a.put o.dst (.agg cs))) : o.quiet P a (fun w' => ∃ y : Later w, w' = y.to) K := by
  refine ⟨.agg cs, ?_, hk⟩
  rintro w' ⟨y, rfl⟩
  have hlt : g < w.heap.size := by
    rcases Nat.lt_or_ge g w.heap.size with h | h
    · exact h
    · rw [Array.getElem?_eq_none h] at hg; cases hg
  have hg' : y.to.heap[g]? = some (.cells cs t fr) := (y.below.block g hlt).trans hg
  unfold Oper.quietAt execOp
  simp only [ho, hx, Instr.loadAt, Instr.sureAddr, Sem.run_bind, Sem.run_pure, Result.andThen_ok, run_loadVar_row y.to g t ty cs fr d hg' hu hd hi]
  exact ⟨rfl, rfl⟩
theorem quiet_nilCheck {P : Program} {C : World → Prop} {o : Oper} {a : Act} {K : Act → Prop} {x : Operand} {ad : Addr} (ho : o.op = .nilCheck x) (hx : a.eval x = .pointer (some ad)) (hk : K (a.put o.dst (.pointer (some ad)))) : o.quiet P a C K := by
  refine ⟨.pointer (some ad), ?_, hk⟩
  intro w' hw'
  unfold Oper.quietAt execOp
  simp only [ho, hx, Sem.run_pure]
  exact ⟨rfl, rfl⟩
/-- A load out of the middle of a block. -/
theorem quiet_load_mid {P : Program} {w : World} {o : Oper} {a : Act} {K : Act → Prop} {ty : TypeId} {x : Operand} {b f : Nat} {cs : List Value} {d : TypeDesc}
    (hc : w.rangeAt b f cs) (hu : P.underlying ty = some d) (hd : d.isRow = true) (hi : (P.info? ty).map (·.size) = some cs.length)
    (ho : o.op = .load ty x) (hx : a.eval x = .pointer (some ⟨b, f, none⟩)) (hk : K (a.put o.dst (.agg cs.toArray))) : o.quiet P a (fun w' => ∃ y : Later w, w' = y.to) K := by
  refine ⟨.agg cs.toArray, ?_, hk⟩
  rintro w' ⟨y, rfl⟩
  unfold Oper.quietAt execOp
  simp only [ho, hx, Instr.loadAt, Instr.sureAddr, Sem.run_bind, Sem.run_pure, Result.andThen_ok, run_loadVar_mid y.to b f ty cs d (fun j v hv => y.cell (hc j v hv)) hu hd hi]
  exact ⟨rfl, rfl⟩
/-- The same in whatever class of worlds. -/
theorem quiet_row_of {P : Program} {C : World → Prop} {o : Oper} {a : Act} {K : Act → Prop} {ty : TypeId} {x : Operand} {g : Nat} {cs : Array Value} {t : TypeId} {fr : Nat × Nat} {d : TypeDesc}
    (hg : ∀ w', C w' → w'.heap[g]? = some (.cells cs t fr)) (hu : P.underlying ty = some d) (hd : (match d with | .struct _ | .array _ _ => true | _ => false) = true) (hi : (P.info? ty).map (·.size) = some cs.size)
    (ho : o.op = .load ty x) (hx : a.eval x = .pointer (some ⟨g, 0, none⟩)) (hk : K (a.put o.dst (.agg cs))) : o.quiet P a C K := by
  refine ⟨.agg cs, ?_, hk⟩
  intro w' hw'
  unfold Oper.quietAt execOp
  simp only [ho, hx, Instr.loadAt, Instr.sureAddr, Sem.run_bind, Sem.run_pure, Result.andThen_ok, run_loadVar_row w' g t ty cs fr d (hg w' hw') hu hd hi]
  exact ⟨rfl, rfl⟩
theorem quiet_mid_of {P : Program} {C : World → Prop} {o : Oper} {a : Act} {K : Act → Prop} {ty : TypeId} {x : Operand} {b f : Nat} {cs : List Value} {d : TypeDesc}
    (hc : ∀ w', C w' → w'.rangeAt b f cs) (hu : P.underlying ty = some d) (hd : d.isRow = true) (hi : (P.info? ty).map (·.size) = some cs.length)
    (ho : o.op = .load ty x) (hx : a.eval x = .pointer (some ⟨b, f, none⟩)) (hk : K (a.put o.dst (.agg cs.toArray))) : o.quiet P a C K := by
  refine ⟨.agg cs.toArray, ?_, hk⟩
  intro w' hw'
  unfold Oper.quietAt execOp
  simp only [ho, hx, Instr.loadAt, Instr.sureAddr, Sem.run_bind, Sem.run_pure, Result.andThen_ok, run_loadVar_mid w' b f ty cs d (hc w' hw') hu hd hi]
  exact ⟨rfl, rfl⟩
theorem quiet_built {P : Program} {C : World → Prop} {o : Oper} {a : Act} {K : Act → Prop} (t : TypeId) (parts : Array (Nat × Operand)) (ho : o.op = .build t parts) (cells : Array Value)
    (hf : P.built t (parts.map fun (i, x) => (i, a.eval x)).toList = some cells) (hk : K (a.put o.dst (.agg cells))) : o.quiet P a C K := by
  refine ⟨.agg cells, ?_, hk⟩
  intro w' hw'
  unfold Oper.quietAt execOp
  simp only [ho, Sem.run_bind, run_build w' t _ cells hf, Result.andThen_ok, Sem.run_pure]
  exact ⟨rfl, rfl⟩
/-- A guard: the walk stands at a build of this type. -/
theorem at_build (t : TypeId) {P : Program} {ops : Array Oper} {Q : Exit → Act → World → Prop} {rest : List Oper} {d : Option Tmp} {parts : Array (Nat × Operand)} {ty : TypeId} {pos : String} {after : Array Edge} {g : Option (Nat × Bool)} {a : Act} {w : World}
    (h : wpList P ops Q ({ dst := d, op := .build t parts, type := ty, pos, after, guard := g } :: rest) a w) : wpList P ops Q ({ dst := d, op := .build t parts, type := ty, pos, after, guard := g } :: rest) a w := h
theorem wpList_built' {P : Program} {ops : Array Oper} {rest : List Oper} {o : Oper} {a : Act} {w : World} {Q : Exit → Act → World → Prop} (hg : o.guard = none) (t : TypeId) (parts : Array (Nat × Operand)) (ho : o.op = .build t parts)
    (cells : Array Value) (hf : P.built t (parts.map fun (i, x) => (i, a.eval x)).toList = some cells)
    (h : wpList P ops Q rest (a.put o.dst (.agg cells)) w) : wpList P ops Q (o :: rest) a w := by
  refine wpList_build hg t parts ho (by rw [hf]; rfl) ?_
  rw [hf]
  exact h
end Go.Proofs.Ytahmnpbfjfllmaa
