/- Arguments: texts. -/
import Derived.Test.YtnodcjjmodbjiaaDoorGI
import Derived.Test.YtnodcjjmodbjiaaDoorHex
namespace Go.Proofs.YtnodcjjmodbjiaaDoor
open Go Go.RowKit Go.ChangeShapes Go.WideShapes Go.Deep

theorem bs_all (s : ByteArray) : ∃ l : List (BitVec 8), s = bs l := by
  obtain ⟨⟨l⟩⟩ := s
  refine ⟨l.map fun c => BitVec.ofNat 8 c.toNat, ?_⟩
  unfold bs
  congr 2
  rw [List.map_map]
  have : (ub ∘ fun c : UInt8 => BitVec.ofNat 8 c.toNat) = id := by
    funext c
    show UInt8.ofNat (BitVec.ofNat 8 c.toNat).toNat = c
    apply UInt8.toNat_inj.1
    have := c.toNat_lt
    simp
  rw [this, List.map_id]
section
variable {H : Type} {enc : TypeId × Value → H} {w : World} {base : Nat} {spare : Nat → Bool} {held : Bool}
theorem arg_string {r : Reach} {b0 : Nat} {v : Value} {d : DataW H} {p : List MemPlace} (hv : Value.okWide Tryd.prog w r b0 9 v) (h : DataW.Trod enc Tryd.prog w base spare held 9 v d p) :
    ∃ l : List (BitVec 8), v = .string (bs l) ∧ l.length ≤ 9223372036854775807 := by
  obtain ⟨s, rfl, _, _, hs⟩ := Go.ChangeMaps.open_string Tryd.underlying9 hv h
  obtain ⟨l, rfl⟩ := bs_all s
  rw [bs_size] at hs
  exact ⟨l, rfl, hs⟩
end
end Go.Proofs.YtnodcjjmodbjiaaDoor
