/- Two rows of bytes of the call's own, each growing by itself. -/
import Derived.Test.YthdfblhlkkbloaaDoorE
namespace Go.Proofs.YthdfblhlkkbloaaDoor
open Go Go.RowKit

structure Pair (w0 : World) (E : TypeId) (v : Value) (l : List (BitVec 8)) (u : Value) (m : List (BitVec 8)) (w : World) : Prop where
  one : Owns w w0.heap.size E v l
  two : Owns w w0.heap.size E u m
  apart : ∀ k, v.ownBlock = some k → u.ownBlock ≠ some k
  below : Below w0.heap.size w0 w
section
variable {w0 w w' : World} {E : TypeId} {v u v' u' : Value} {l m l' m' : List (BitVec 8)}
theorem Pair.drewN (h : Pair w0 E v l u m w) (n : Nat) : Pair w0 E v l u m (w.drewN n) := ⟨h.one.drewN n, h.two.drewN n, h.apart, h.below.trans ((Touch.refl (fun _ => False) w).drewN n |>.below (fun _ e => e.elim) h.below.size)⟩
theorem Pair.drew (h : Pair w0 E v l u m w) : Pair w0 E v l u m w.drew := h.drewN 1
theorem Pair.alloc (h : Pair w0 E v l u m w) (o : Obj) : Pair w0 E v l u m (w.alloc o) := by
  have hb : Below w.heap.size w (w.alloc o) := (Below.refl _ _).alloc (Nat.le_refl _) _
  exact ⟨h.one.below hb, h.two.below hb, h.apart, h.below.trans (hb.mono h.below.size)⟩
theorem Pair.first (h : Pair w0 E v l u m w) (ho : Owns w' w0.heap.size E v' l') (hg : w.grownBy w' v.ownBlock) (hb : v'.ownBlock = v.ownBlock ∨ v'.ownBlock = some w.heap.size) : Pair w0 E v' l' u m w' := by
  have t : Touch (fun k => v.ownBlock = some k) w w' := .of_grown hg fun k e => e
  refine ⟨ho, t.owns h.two fun k e f => h.apart k f e, fun k e f => ?_, h.below.trans (t.below (fun k e => (row_lt h.one e).1) h.below.size)⟩
  rcases hb with hb | hb
  · exact h.apart k (hb ▸ e) f
  · rw [hb] at e
    injection e with e
    have := (row_lt h.two f).2
    omega
theorem Pair.second (h : Pair w0 E v l u m w) (ho : Owns w' w0.heap.size E u' m') (hg : w.grownBy w' u.ownBlock) (hb : u'.ownBlock = u.ownBlock ∨ u'.ownBlock = some w.heap.size) : Pair w0 E v l u' m' w' := by
  have t : Touch (fun k => u.ownBlock = some k) w w' := .of_grown hg fun k e => e
  refine ⟨t.owns h.one fun k e f => h.apart k e f, ho, fun k e f => ?_, h.below.trans (t.below (fun k e => (row_lt h.two e).1) h.below.size)⟩
  rcases hb with hb | hb
  · exact h.apart k e (hb ▸ f)
  · rw [hb] at f
    injection f with f
    have := (row_lt h.one e).2
    omega
/-- A byte in a block of its own. -/
def Lit (v u : Value) (g : Nat) (c : BitVec 8) (w : World) : Prop := w.cell? ⟨g, 0, none⟩ = some (U8 c) ∧ v.ownBlock ≠ some g ∧ u.ownBlock ≠ some g
theorem Pair.lit (h : Pair w0 E v l u m w) (c : BitVec 8) (T : TypeId) : Lit v u w.heap.size c (w.alloc (.cells #[U8 c] T)) := by
  refine ⟨?_, fun e => ?_, fun e => ?_⟩
  · rw [cell_of_row _ _ _ _ _ _ (heap_alloc_new w (.cells #[U8 c] T))]; rfl
  · have := (row_lt h.one e).2; omega
  · have := (row_lt h.two e).2; omega
theorem Lit.alloc {g : Nat} {c : BitVec 8} (h : Lit v u g c w) (o : Obj) : Lit v u g c (w.alloc o) := ⟨Keeps.alloc w o _ _ h.1, h.2⟩
theorem Lit.grown {g : Nat} {c : BitVec 8} {b : Option Nat} (h : Lit v u g c w) (hg : w.grownBy w' b) (hb : b = v.ownBlock ∨ b = u.ownBlock) : w'.cell? ⟨g, 0, none⟩ = some (U8 c) := by
  have t : Touch (fun k => b = some k) w w' := .of_grown hg fun k e => e
  refine t.cell h.1 fun e => ?_
  have e : b = some g := e
  rcases hb with hb | hb
  · exact h.2.1 (hb ▸ e)
  · exact h.2.2 (hb ▸ e)
theorem reads_one {g : Nat} {c : BitVec 8} (h : w.cell? ⟨g, 0, none⟩ = some (U8 c)) : Reads w (some ⟨g, 0, none⟩) 1 [c] :=
  ⟨Nat.le_refl _, by decide, (by intro e; cases e), .inr ⟨g, 0, rfl, fun i hi => by
    have : i = 0 := by simp at hi; exact hi
    subst this
    exact h⟩⟩
end
end Go.Proofs.YthdfblhlkkbloaaDoor
