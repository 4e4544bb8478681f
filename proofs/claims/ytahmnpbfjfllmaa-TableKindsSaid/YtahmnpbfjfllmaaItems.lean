/- Slices of items of several cells each, that came in: keys, places, counts. -/
import Derived.Test.YtahmnpbfjfllmaaDos
namespace Go.Proofs.Ytahmnpbfjfllmaa
open Go Go.RowKit

structure Items {α : Type} (W : Nat) (cells : α → List Value) (ok : α → Prop) (z : α) (w : World) (a : Option Addr) (cap : Nat) (l : List α) : Prop where
  fits : l.length ≤ cap
  room : cap ≤ 9223372036854775807
  ok : ∀ i, i < l.length → ok (l.getD i z)
  rows : l = [] ∨ ∃ b off, a = some ⟨b, off, none⟩ ∧ ∀ i, i < l.length → w.rangeAt b (off + i * W) (cells (l.getD i z))
section
variable {α : Type} {W : Nat} {cells : α → List Value} {ok : α → Prop} {z : α} {w w' : World} {a : Option Addr} {cap : Nat} {l : List α}
theorem Items.keeps (h : Items W cells ok z w a cap l) (k : Keeps w w') : Items W cells ok z w' a cap l := by
  refine ⟨h.fits, h.room, h.ok, ?_⟩
  rcases h.rows with e | ⟨b, off, e, hb⟩
  · exact .inl e
  · exact .inr ⟨b, off, e, fun i hi j v hv => k _ _ (hb i hi j v hv)⟩
end
section
open Go.ChangeShapes Go.WideShapes Go.Deep
variable {H : Type} {enc : TypeId × Value → H} {w : World} {base : Nat} {held : Bool}
set_option maxRecDepth 100000 in
theorem arg_items {α : Type} (W : Nat) (hW : 0 < W) (cells : α → List Value) (ok : α → Prop) (z : α) {t e : TypeId} (hs : Try.prog.underlying t = some (.slice e)) (hce : Try.prog.cellsOf e = W)
    (hlen : ∀ x, ok x → (cells x).length = W) (hel : ∀ n cs y, cs.length = W → DataW.trod enc Try.prog w base (fun _ => true) held n e cs = some y → ∃ x, cs = cells x ∧ ok x)
    {r : Reach} {b0 : Nat} {v : Value} {d : DataW H} {p : List MemPlace} (hv : Value.okWide Try.prog w r b0 t v) (h : DataW.Trod enc Try.prog w base (fun _ => true) held t v d p) :
    ∃ a cap ls, v = .slice a (ls : List α).length cap ∧ Items W cells ok z w a cap ls := by
  obtain ⟨a, len, cap, rfl⟩ := okWide_slice hs hv
  obtain ⟨fuel, hf⟩ := h
  rcases open_slice hs hf with ⟨hcs, _⟩ | ⟨x, l, c, m, n, D, Pl, hcs, _, hl, hm, hmm, _, hi⟩
  · injection hcs with hcs
    injection hcs with e1 e2 e3
    subst e1 e2 e3
    exact ⟨none, 0, [], rfl, by simp, by omega, fun i hi => by simp at hi, .inl rfl⟩
  · injection hcs with hcs
    injection hcs with e1 e2 e3
    subst e1 e2 e3
    rw [if_pos rfl] at hmm
    rw [hce] at hi
    have one : ∀ i, i < len → ∃ (t : α), ok t ∧ w.cells? base (x.add (i * W)) W = some (cells t) := by
      intro i hlt
      obtain ⟨cs', h1, h2⟩ := hi i (by omega)
      obtain ⟨_, hcl, _⟩ := World.cells?_some h1
      obtain ⟨t, e, hk⟩ := hel _ _ _ hcl h2
      exact ⟨t, hk, by rw [h1, e]⟩
    have hmx : maxLen = 9223372036854775807 := rfl
    by_cases h0 : len = 0
    · subst h0
      exact ⟨some x, cap, [], rfl, by simp, by omega, fun i hi => by simp at hi, .inl rfl⟩
    · have : Nonempty α := ⟨(one 0 (by omega)).choose⟩
      have : Inhabited α := ⟨Classical.choice this⟩
      obtain ⟨f, hf⟩ := choose_lt one
      have hat : ∀ i, i < len → ((List.range len).map f).getD i z = f i := fun i hi => by simp [List.getD_eq_getElem?_getD, hi]
      refine ⟨some x, cap, (List.range len).map f, by simp, by simpa using hl, by omega, fun i hi => ?_, .inr ?_⟩
      · rw [List.length_map, List.length_range] at hi
        rw [hat i hi]
        exact (hf i hi).1
      · have hx := by
          obtain ⟨_, _, hc⟩ := World.cells?_some (hf 0 (by omega)).2
          have := hc 0 hW
          rw [List.getElem?_eq_getElem (by rw [hlen _ (hf 0 (by omega)).1]; exact hW)] at this
          exact spot_none (x := x) (by simpa [Addr.add] using this)
        refine ⟨x.block, x.off, by rw [← hx], fun i hi j v hv => ?_⟩
        rw [List.length_map, List.length_range] at hi
        rw [hat i hi] at hv
        obtain ⟨_, _, hc⟩ := World.cells?_some (hf i hi).2
        obtain ⟨hj, e⟩ := List.getElem?_eq_some_iff.1 hv
        have h3 := hc j (by rw [hlen _ (hf i hi).1] at hj; exact hj)
        rw [hv, hx, Addr.add_lit, Addr.add_lit] at h3
        exact h3
end
end Go.Proofs.Ytahmnpbfjfllmaa
