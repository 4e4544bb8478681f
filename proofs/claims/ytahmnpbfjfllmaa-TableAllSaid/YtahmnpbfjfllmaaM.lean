/- Parts of blocks of several cells: loads whose guard says yes, stores, what stays. For any program. -/
import Derived.Test.YtahmnpbfjfllmaaE
import Derived.BigFrame
import Derived.Deep.MidRow
namespace Go.Proofs.Ytahmnpbfjfllmaa
open Go Go.RowKit

section
variable {P : Program} {ops : Array Oper} {rest : List Oper} {o : Oper} {a : Act} {w : World} {Q : Exit → Act → World → Prop}
theorem wpList_load_row_g (hw : Region.wanted o (yielded ops a.tmps) = true) (ty : TypeId) (x : Operand) (ho : o.op = .load ty x)
    (g : Nat) (hx : a.eval x = .pointer (some ⟨g, 0, none⟩)) (t : TypeId) (cs : Array Value) (fr : Nat × Nat) (d : TypeDesc) (hg : w.heap[g]? = some (.cells cs t fr))
    (hu : P.underlying ty = some d) (hd : (match d with | .struct _ | .array _ _ => true | _ => false) = true) (hi : (P.info? ty).map (·.size) = some cs.size)
    (h : wpList P ops Q rest (a.put o.dst (.agg cs)) w) : wpList P ops Q (o :: rest) a w :=
  BigFrame.wpList_want hw fun _ hK => wp_load_row ty x ho g hx t cs fr d hg hu hd hi (hK _ _ h)
theorem wpList_load_mid_g (hw : Region.wanted o (yielded ops a.tmps) = true) (ty : TypeId) (x : Operand) (ho : o.op = .load ty x)
    (b f : Nat) (hx : a.eval x = .pointer (some ⟨b, f, none⟩)) (cs : List Value) (d : TypeDesc) (hc : w.rangeAt b f cs)
    (hu : P.underlying ty = some d) (hd : d.isRow = true) (hi : (P.info? ty).map (·.size) = some cs.length)
    (h : wpList P ops Q rest (a.put o.dst (.agg cs.toArray)) w) : wpList P ops Q (o :: rest) a w :=
  BigFrame.wpList_want hw fun _ hK => wp_load_mid ty x ho b f hx cs d hc hu hd hi (hK _ _ h)
end
/-- Guards: the walk stands at a load, a store of this type. -/
theorem at_load (t : TypeId) {P : Program} {ops : Array Oper} {Q : Exit → Act → World → Prop} {rest : List Oper} {d : Option Tmp} {x : Operand} {ty : TypeId} {pos : String} {after : Array Edge} {g : Option (Nat × Bool)} {a : Act} {w : World}
    (h : wpList P ops Q ({ dst := d, op := .load t x, type := ty, pos, after, guard := g } :: rest) a w) : wpList P ops Q ({ dst := d, op := .load t x, type := ty, pos, after, guard := g } :: rest) a w := h
theorem at_store (t : TypeId) {P : Program} {ops : Array Oper} {Q : Exit → Act → World → Prop} {rest : List Oper} {d : Option Tmp} {x y : Operand} {ty : TypeId} {pos : String} {after : Array Edge} {g : Option (Nat × Bool)} {a : Act} {w : World}
    (h : wpList P ops Q ({ dst := d, op := .store t x y, type := ty, pos, after, guard := g } :: rest) a w) : wpList P ops Q ({ dst := d, op := .store t x y, type := ty, pos, after, guard := g } :: rest) a w := h
theorem Touch.setCells {F : Nat → Prop} (b : Nat) (hb : F b) : ∀ (vs : List Value) (o : Nat) (w : World), Touch F w (w.setCells b o vs)
  | [], _, w => Touch.refl F w
  | v :: r, o, w => (Touch.set (F := F) w b o v hb).trans (Touch.setCells b hb r (o + 1) _)
theorem rangeAt_touch {F : Nat → Prop} {w w' : World} (h : Touch F w w') {b o : Nat} {cs : List Value} (hr : w.rangeAt b o cs) (hn : ¬ F b) : w'.rangeAt b o cs := fun j v hv => h.cell (hr j v hv) hn
theorem rangeAt_part {w : World} {b o : Nat} {cs : List Value} (h : w.rangeAt b o cs) (k n : Nat) : w.rangeAt b (o + k) ((cs.drop k).take n) := fun j v hv => by
  rw [List.getElem?_take] at hv
  split at hv
  · rw [List.getElem?_drop] at hv
    rw [Nat.add_assoc]
    exact h (k + j) v hv
  · cases hv
theorem rangeAt_cell {w : World} {b o : Nat} {cs : List Value} (h : w.rangeAt b o cs) {k : Nat} {v : Value} (hv : cs[k]? = some v) : w.cell? ⟨b, o + k, none⟩ = some v := h k v hv
theorem rangeAt_row {w : World} {g : Nat} {cs : Array Value} {t : TypeId} {fr : Nat × Nat} (h : w.heap[g]? = some (.cells cs t fr)) : w.rangeAt g 0 cs.toList := fun j v hv => by
  rw [cell_of_row w g (0 + j) cs t fr h, Nat.zero_add]
  simpa using hv
theorem rangeAt_set {w : World} {b o : Nat} {cs : List Value} (h : w.rangeAt b o cs) (k : Nat) (v : Value) (hk : k < cs.length) : (w.setCell ⟨b, o + k, none⟩ v).rangeAt b o (cs.set k v) := fun j u hu => by
  by_cases e : j = k
  · subst e
    rw [List.getElem?_set_self hk] at hu
    injection hu with hu
    subst hu
    exact World.cell?_setCell_same _ _ _ (h j _ (List.getElem?_eq_getElem hk))
  · rw [List.getElem?_set_ne (fun e2 => e e2.symm)] at hu
    rw [World.cell?_setCell_other _ _ _ _ (fun e2 => e (by injection e2 with _ e3; omega))]
    exact h j u hu
theorem rangeAt_set_apart {w : World} {b o b' q : Nat} {cs : List Value} (h : w.rangeAt b o cs) (v : Value) (hn : b' ≠ b ∨ q < o ∨ o + cs.length ≤ q) : (w.setCell ⟨b', q, none⟩ v).rangeAt b o cs := fun j u hu => by
  have hj := (List.getElem?_eq_some_iff.1 hu).1
  rw [World.cell?_setCell_other _ _ _ _ (fun e2 => by
    injection e2 with e1 e3
    rcases hn with hn | hn | hn
    · exact hn e1
    · omega
    · omega)]
  exact h j u hu
theorem Touch.setRow {F : Nat → Prop} (w : World) (g : Nat) (c : Array Value) (hg : F g) : Touch F w (w.setRow g c) :=
  ⟨rfl, rfl, rfl, by simp [World.setRow], fun k _ hk => by
    unfold World.setRow
    simp only
    rw [Array.getElem?_modify, if_neg]
    intro e; subst e; exact hk hg⟩
theorem setRow_heap_other (w : World) (g k : Nat) (cs : Array Value) (h : k ≠ g) : (w.setRow g cs).heap[k]? = w.heap[k]? := setRow_other w g k cs h
end Go.Proofs.Ytahmnpbfjfllmaa
