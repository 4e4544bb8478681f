/- From what came in to what the walks are told. -/
import Derived.Test.YtahmnpbfjfllmaaR01
import Derived.Test.YtahmnpbfjfllmaaS
import Derived.ProofKit
import Derived.OpenShut
import Derived.ShutString
import Derived.ChangeOld
import Derived.Below
namespace Go.Proofs.Ytahmnpbfjfllmaa
open Go Go.RowKit

/-- A slice of numbers that came in: nil, or a row of 'cap' cells. -/
def IsRow (k : IntKind) (w : World) (a : Option Addr) (len cap : Nat) (zs : List Int) : Prop :=
  (a = none ∧ len = 0 ∧ cap = 0 ∧ zs = []) ∨
  ∃ x, a = some x ∧ len ≤ cap ∧ cap ≤ maxLen ∧ zs.length = cap ∧ (∀ i, i < zs.length → w.cell? (x.add i) = some (.int k (zs.getD i 0))) ∧ ∀ n ∈ zs, (Lit.int k n).wf = true

theorem spot_none {w : World} {x : Addr} {v : Value} (h : w.cell? x = some v) : x = ⟨x.block, x.off, none⟩ := by
  cases x with
  | mk b o s =>
    cases s with
    | none => rfl
    | some n =>
      unfold World.cell? at h
      simp only at h
      split at h <;> simp at h
theorem IsRow.reads {w : World} {a : Option Addr} {len cap : Nat} {zs : List Int} (h : IsRow .u8 w a len cap zs) : ∃ l : List (BitVec 8), len = l.length ∧ Reads w a cap l := by
  rcases h with ⟨rfl, rfl, rfl, rfl⟩ | ⟨x, rfl, hl, hm, hz, hc, hw⟩
  · exact ⟨[], rfl, reads_nil w⟩
  · refine ⟨(zs.take len).map (BitVec.ofInt 8), by rw [List.length_map, List.length_take]; omega, by rw [List.length_map, List.length_take]; omega, by unfold maxLen at hm; omega, (by intro e; cases e), ?_⟩
    by_cases h0 : len = 0
    · left; subst h0; rfl
    · right
      have hx := spot_none (hc 0 (by omega))
      have e0 : x.add 0 = x := by simp [Addr.add]
      rw [e0] at hx
      refine ⟨x.block, x.off, by rw [← hx], fun i hi => ?_⟩
      rw [List.length_map, List.length_take] at hi
      have hi2 : i < zs.length := by omega
      have hb := bounds_u8 (hw (zs.getD i 0) (by rw [List.getD_eq_getElem?_getD, List.getElem?_eq_getElem hi2]; exact List.getElem_mem hi2))
      have hci := hc i hi2
      rw [hx, Addr.add_lit] at hci
      rw [hci, u8_of _ hb.1 (by omega)]
      congr 2
      simp [byteAt, List.getD_eq_getElem?_getD, show i < len by omega, List.getElem?_eq_getElem hi2]
theorem IsRow.readsInts {w : World} {a : Option Addr} {len cap : Nat} {zs : List Int} (h : IsRow .i64 w a len cap zs) : ∃ l : List Int, len = l.length ∧ IReads w a cap l := by
  rcases h with ⟨rfl, rfl, rfl, rfl⟩ | ⟨x, rfl, hl, hm, hz, hc, hw⟩
  · exact ⟨[], rfl, by simp, by omega, fun _ => rfl, .inl rfl, by simp⟩
  · have hget : ∀ i, i < len → (zs.take len).getD i 0 = zs.getD i 0 := fun i hi => by simp [List.getD_eq_getElem?_getD, hi]
    refine ⟨zs.take len, by rw [List.length_take]; omega, by rw [List.length_take]; omega, by unfold maxLen at hm; omega, (by intro e; cases e), ?_, ?_⟩
    · by_cases h0 : len = 0
      · left; subst h0; rfl
      · right
        have hx := spot_none (hc 0 (by omega))
        have e0 : x.add 0 = x := by simp [Addr.add]
        rw [e0] at hx
        refine ⟨x.block, x.off, by rw [← hx], fun i hi => ?_⟩
        rw [List.length_take] at hi
        have hci := hc i (by omega)
        rw [hx, Addr.add_lit] at hci
        rw [hci, hget i (by omega)]
    · intro i hi
      rw [List.length_take] at hi
      rw [hget i (by omega)]
      exact bounds_i64 (hw (zs.getD i 0) (by rw [List.getD_eq_getElem?_getD, List.getElem?_eq_getElem (show i < zs.length by omega)]; exact List.getElem_mem _))
theorem open_u32 {n : Int} (h : (Lit.int .u32 n).wf = true) : ∃ b : BitVec 32, Value.int .u32 n = U32 b := ⟨_, u32_of n (bounds_u32 h).1 (by have := (bounds_u32 h).2; omega)⟩
theorem open_u8 {n : Int} (h : (Lit.int .u8 n).wf = true) : ∃ b : BitVec 8, Value.int .u8 n = U8 b := ⟨_, u8_of n (bounds_u8 h).1 (by have := (bounds_u8 h).2; omega)⟩
end Go.Proofs.Ytahmnpbfjfllmaa
