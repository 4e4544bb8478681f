/- Regions that draw their order, whose operations only read and whose callees may also add memory of their own (Below): walked once. For any program. -/
import Derived.Test.YtahmnpbfjfllmaaB
import Derived.Deep.QuietTactic
import Derived.BigQuiet
namespace Go.Proofs.Ytahmnpbfjfllmaa
open Go Go.RowKit

/-- A world in which all that was there stands as it stood. -/
structure Later (w : World) where
  to : World
  below : Below w.heap.size w to
theorem Later.drewN {w : World} (x : Later w) (n : Nat) : Below w.heap.size w (x.to.drewN n) := ⟨x.below.os, x.below.tape, x.below.output, x.below.size, x.below.block⟩
theorem Later.cell {w : World} (x : Later w) {p : Addr} {v : Value} (h : w.cell? p = some v) : x.to.cell? p = some v := Keeps.below x.below p v h
/-- A callee's contract, in a later world. -/
theorem Later.calls {P : Program} {w : World} {f : FuncId} {args : Array Value} {v : Value} (x : Later w)
    (h : Calls P f args x.to fun e w' => e = .returned v ∧ Below x.to.heap.size x.to w') : Calls P f args x.to fun e w'' => e = .returned v ∧ ∃ y : Later w, w'' = y.to :=
  h.mono fun _ w' ⟨he, hb⟩ => ⟨he, ⟨w', x.below.trans (hb.mono x.below.size)⟩, rfl⟩
theorem wp_region_later {P : Program} {id : Nat} {Q : Exit → Act → World → Prop} {a : Act} {w : World} {l : List Oper} (hm : P.follows .mixedOrders = true) (hB : Region.lexB .any l.toArray = true)
    (h : wpQuiet P l.toArray (fun w' => ∃ x : Later w, w' = x.to) (fun a' => ∀ w', (∃ x : Later w, w' = x.to) → Q .normal a' w') l a) : (Code.region id l.toArray true).wp P Q a w :=
  wp_region_quiet (C := fun w' => ∃ x : Later w, w' = x.to) hm hB ⟨⟨_, (Below.refl w.heap.size w).drew⟩, rfl⟩ (by simpa using h)

/- At a region, written out (a macro of one's own is refused in a claim):
  refine wp_region_later (by kernel_rfl) (by kernel_rfl) ?_
  repeat (first | go_big_quiet_step (tac) | quiet_step (tac))
  refine wpQuiet_nil ?_
  rintro _ ⟨x, rfl⟩
-/
end Go.Proofs.Ytahmnpbfjfllmaa
