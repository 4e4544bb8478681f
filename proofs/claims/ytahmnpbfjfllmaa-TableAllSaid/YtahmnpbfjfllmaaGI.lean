/- Arguments: 32 bytes by value. -/
import Derived.Test.YtahmnpbfjfllmaaG
namespace Go.Proofs.Ytahmnpbfjfllmaa
open Go Go.RowKit Go.ChangeShapes Go.WideShapes Go.Deep

section
variable {H : Type} {enc : TypeId × Value → H} {w : World} {base : Nat} {spare : Nat → Bool} {held : Bool}
theorem arg_byte {n : Nat} {v : Value} {y : DataW H × List MemPlace} (h : DataW.trod enc Try.prog w base spare held n 5 [v] = some y) : ∃ b : BitVec 8, v = U8 b := by
  obtain ⟨m, e, _, hw⟩ := DataW.trod_int Try.underlying5 h
  injection e with e
  obtain ⟨b, hb⟩ := open_u8 hw
  exact ⟨b, by rw [e, hb]⟩
/-- The list of some bytes that each place has. -/
theorem bytes_of_cells : ∀ l : List Value, (∀ v ∈ l, ∃ b : BitVec 8, v = U8 b) → ∃ k : List (BitVec 8), k.length = l.length ∧ l = k.map U8
  | [], _ => ⟨[], rfl, rfl⟩
  | v :: l, h => by
    obtain ⟨b, hb⟩ := h v (by simp)
    obtain ⟨k, h1, h2⟩ := bytes_of_cells l fun x hx => h x (by simp [hx])
    exact ⟨b :: k, by simp [h1], by rw [hb, h2]; rfl⟩
set_option maxRecDepth 20000 in
theorem arg_id {r : Reach} {b0 : Nat} {v : Value} {d : DataW H} {p : List MemPlace} (hv : Value.okWide Try.prog w r b0 23 v) (h : DataW.Trod enc Try.prog w base spare held 23 v d p) :
    ∃ k : List (BitVec 8), v = .agg (k.map U8).toArray ∧ k.length = 32 := by
  have hu : Try.prog.underlying 23 = some (.array 32 5) := by kernel_rfl
  have hcell : Try.prog.cellsOf 5 = 1 := by kernel_rfl
  have hcells : Try.prog.cellsOf 23 = 32 := by kernel_rfl
  obtain ⟨cs, rfl, hc⟩ : ∃ xs : Array Value, v = .agg xs ∧ xs.size = 32 := by
    simp only [Value.okWide, hu] at hv
    obtain ⟨cs, h1, h2, _⟩ := hv
    exact ⟨cs, h1, by rw [h2, hcells]⟩
  obtain ⟨fuel, hf⟩ := h
  obtain ⟨xs, m, _, _, _, hl, hx⟩ := DataW.trod_array hu hf
  obtain ⟨k, hk, he⟩ := bytes_of_cells cs.toList fun v hv => by
    obtain ⟨i, hi, e⟩ := List.getElem_of_mem hv
    have hi2 : i < 32 := by rw [Array.length_toList] at hi; omega
    have h1 := hx i hi2
    rw [hcell, Nat.mul_one] at h1
    have e2 : (((Value.agg cs).cells.toList).drop i).take 1 = [v] := by
      show (cs.toList.drop i).take 1 = _
      rw [List.drop_eq_getElem_cons hi, e]
      simp
    rw [e2, List.getElem?_eq_getElem (by omega)] at h1
    exact arg_byte h1
  refine ⟨k, ?_, by rw [hk, Array.length_toList, hc]⟩
  rw [← he]
end
end Go.Proofs.Ytahmnpbfjfllmaa
