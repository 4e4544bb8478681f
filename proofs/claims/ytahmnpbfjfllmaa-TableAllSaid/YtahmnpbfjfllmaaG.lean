/- Arguments of further kinds: structs of one-cell fields, slices of whatever elements. For any program. -/
import Derived.Test.YtahmnpbfjfllmaaF
import Derived.Deep.Fields
import Derived.Deep.Slices
namespace Go.Proofs.Ytahmnpbfjfllmaa
open Go Go.RowKit Go.ChangeShapes Go.WideShapes Go.Deep

section
variable {H : Type} {enc : TypeId × Value → H} {P : Program} {w : World} {base : Nat} {spare : Nat → Bool} {held : Bool}
/-- A struct by value, each of its fields of one cell: its cells, each read by its field's type. -/
theorem arg_fields {r : Reach} {b0 : Nat} {t : TypeId} {fs : Array Field} {v : Value} {d : DataW H} {p : List MemPlace} (hs : P.underlying t = some (.struct fs)) (hone : oneCellFields P fs = true)
    (hv : Value.okWide P w r b0 t v) (h : DataW.Trod enc P w base spare held t v d p) :
    ∃ cs : Array Value, v = .agg cs ∧ cs.size = P.cellsOf t ∧ ∀ (i : Nat) (f : Field), fs[i]? = some f → i < cs.size → ∃ n y, DataW.trod enc P w base spare held n f.type [cs.getD i undef] = some y := by
  obtain ⟨cs, rfl, hc⟩ := okWide_struct hs hv
  refine ⟨cs, rfl, hc, fun i f hf hi => ?_⟩
  obtain ⟨fuel, hfu⟩ := h
  obtain ⟨xs, n, _, _, _, hl, hx⟩ := DataW.trod_struct hs hfu
  obtain ⟨ho, hk⟩ := hone_of hone i f hf
  have hfi : i < fs.size := (Array.getElem?_eq_some_iff.1 hf).1
  have h1 := hx i f hf
  rw [ho, hk] at h1
  have e : (((Value.agg cs).cells.toList).drop i).take 1 = [cs.getD i undef] := by
    show (cs.toList.drop i).take 1 = _
    rw [List.drop_eq_getElem_cons (by simpa using hi)]
    simp [Array.getD_eq_getD_getElem?, hi]
  rw [e, List.getElem?_eq_getElem (by omega)] at h1
  exact ⟨n, _, h1⟩
end
end Go.Proofs.Ytahmnpbfjfllmaa
