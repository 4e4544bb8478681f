/- From what came in to what the walks are told. Arguments of further kinds: structs of one-cell fields, slices of whatever elements. For any program. -/
import Derived.Test.YtbicafgmfgdckaaDoorMgWb
import Derived.ProofKit
import Derived.OpenShut
import Derived.ShutString
import Derived.ChangeOld
import Derived.Below
import Derived.Deep.Fields
import Derived.Deep.Slices
namespace Go.Proofs.YtbicafgmfgdckaaDoor
open Go Go.RowKit

/-- A slice of numbers that came in: nil, or a row of 'cap' cells. -/
def IsRow (k : IntKind) (w : World) (a : Option Addr) (len cap : Nat) (zs : List Int) : Prop :=
  (a = none ∧ len = 0 ∧ cap = 0 ∧ zs = []) ∨
  ∃ x, a = some x ∧ len ≤ cap ∧ cap ≤ maxLen ∧ zs.length = cap ∧ (∀ i, i < zs.length → w.cell? (x.add i) = some (.int k (zs.getD i 0))) ∧ ∀ n ∈ zs, (Lit.int k n).wf = true

theorem spot_none {w : World} {x : Addr} {v : Value} (h : w.cell? x = some v) : x = ⟨x.block, x.off, none⟩ := by
  cases x with
  | mk b o s =>
    cases s with
    | none => rfl
    | some n =>
      unfold World.cell? at h
      simp only at h
      split at h <;> simp at h
theorem IsRow.reads {w : World} {a : Option Addr} {len cap : Nat} {zs : List Int} (h : IsRow .u8 w a len cap zs) : ∃ l : List (BitVec 8), len = l.length ∧ Reads w a cap l := by
  rcases h with ⟨rfl, rfl, rfl, rfl⟩ | ⟨x, rfl, hl, hm, hz, hc, hw⟩
  · exact ⟨[], rfl, reads_nil w⟩
  · refine ⟨(zs.take len).map (BitVec.ofInt 8), by rw [List.length_map, List.length_take]; omega, by rw [List.length_map, List.length_take]; omega, by unfold maxLen at hm; omega, (by intro e; cases e), ?_⟩
    by_cases h0 : len = 0
    · left; subst h0; rfl
    · right
      have hx := spot_none (hc 0 (by omega))
      have e0 : x.add 0 = x := by simp [Addr.add]
      rw [e0] at hx
      refine ⟨x.block, x.off, by rw [← hx], fun i hi => ?_⟩
      rw [List.length_map, List.length_take] at hi
      have hi2 : i < zs.length := by omega
      have hb := bounds_u8 (hw (zs.getD i 0) (by rw [List.getD_eq_getElem?_getD, List.getElem?_eq_getElem hi2]; exact List.getElem_mem hi2))
      have hci := hc i hi2
      rw [hx, Addr.add_lit] at hci
      rw [hci, u8_of _ hb.1 (by omega)]
      congr 2
      simp [byteAt, List.getD_eq_getElem?_getD, show i < len by omega, List.getElem?_eq_getElem hi2]
theorem IsRow.readsInts {w : World} {a : Option Addr} {len cap : Nat} {zs : List Int} (h : IsRow .i64 w a len cap zs) : ∃ l : List Int, len = l.length ∧ IReads w a cap l := by
  rcases h with ⟨rfl, rfl, rfl, rfl⟩ | ⟨x, rfl, hl, hm, hz, hc, hw⟩
  · exact ⟨[], rfl, by simp, by omega, fun _ => rfl, .inl rfl, by simp⟩
  · have hget : ∀ i, i < len → (zs.take len).getD i 0 = zs.getD i 0 := fun i hi => by simp [List.getD_eq_getElem?_getD, hi]
    refine ⟨zs.take len, by rw [List.length_take]; omega, by rw [List.length_take]; omega, by unfold maxLen at hm; omega, (by intro e; cases e), ?_, ?_⟩
    · by_cases h0 : len = 0
      · left; subst h0; rfl
      · right
        have hx := spot_none (hc 0 (by omega))
        have e0 : x.add 0 = x := by simp [Addr.add]
        rw [e0] at hx
        refine ⟨x.block, x.off, by rw [← hx], fun i hi => ?_⟩
        rw [List.length_take] at hi
        have hci := hc i (by omega)
        rw [hx, Addr.add_lit] at hci
        rw [hci, hget i (by omega)]
    · intro i hi
      rw [List.length_take] at hi
      rw [hget i (by omega)]
      exact bounds_i64 (hw (zs.getD i 0) (by rw [List.getD_eq_getElem?_getD, List.getElem?_eq_getElem (show i < zs.length by omega)]; exact List.getElem_mem _))
theorem open_u32 {n : Int} (h : (Lit.int .u32 n).wf = true) : ∃ b : BitVec 32, Value.int .u32 n = U32 b := ⟨_, u32_of n (bounds_u32 h).1 (by have := (bounds_u32 h).2; omega)⟩
theorem open_u8 {n : Int} (h : (Lit.int .u8 n).wf = true) : ∃ b : BitVec 8, Value.int .u8 n = U8 b := ⟨_, u8_of n (bounds_u8 h).1 (by have := (bounds_u8 h).2; omega)⟩
end Go.Proofs.YtbicafgmfgdckaaDoor
namespace Go.Proofs.YtbicafgmfgdckaaDoor
open Go Go.RowKit Go.ChangeShapes Go.WideShapes Go.Deep

section
variable {H : Type} {enc : TypeId × Value → H} {P : Program} {w : World} {base : Nat} {spare : Nat → Bool} {held : Bool}
/-- A struct by value, each of its fields of one cell: its cells, each read by its field's type. -/
theorem arg_fields {r : Reach} {b0 : Nat} {t : TypeId} {fs : Array Field} {v : Value} {d : DataW H} {p : List MemPlace} (hs : P.underlying t = some (.struct fs)) (hone : oneCellFields P fs = true)
    (hv : Value.okWide P w r b0 t v) (h : DataW.Trod enc P w base spare held t v d p) :
    ∃ cs : Array Value, v = .agg cs ∧ cs.size = P.cellsOf t ∧ ∀ (i : Nat) (f : Field), fs[i]? = some f → i < cs.size → ∃ n y, DataW.trod enc P w base spare held n f.type [cs.getD i undef] = some y := by
  obtain ⟨cs, rfl, hc⟩ := okWide_struct hs hv
  refine ⟨cs, rfl, hc, fun i f hf hi => ?_⟩
  obtain ⟨fuel, hfu⟩ := h
  obtain ⟨xs, n, _, _, _, hl, hx⟩ := DataW.trod_struct hs hfu
  obtain ⟨ho, hk⟩ := hone_of hone i f hf
  have hfi : i < fs.size := (Array.getElem?_eq_some_iff.1 hf).1
  have h1 := hx i f hf
  rw [ho, hk] at h1
  have e : (((Value.agg cs).cells.toList).drop i).take 1 = [cs.getD i undef] := by
    show (cs.toList.drop i).take 1 = _
    rw [List.drop_eq_getElem_cons (by simpa using hi)]
    simp [Array.getD_eq_getD_getElem?, hi]
  rw [e, List.getElem?_eq_getElem (by omega)] at h1
  exact ⟨n, _, h1⟩
end
end Go.Proofs.YtbicafgmfgdckaaDoor
