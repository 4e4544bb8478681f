/- Whether two keys are the same: what '==' gives. -/
import Derived.Test.YtahmnpbfjfllmaaKeyMath
import Derived.Stop.BytesEq
namespace Go.Proofs.Ytahmnpbfjfllmaa
open Go Go.RowKit

theorem ub_inj {c d : BitVec 8} (h : ub c = ub d) : c = d := by
  apply BitVec.eq_of_toNat_eq
  have := congrArg UInt8.toNat h
  simpa [ub] using this
theorem map_ub_beq : ∀ k m : List (BitVec 8), (k.map ub == m.map ub) = (k == m) := fun k m => by
  rw [Bool.eq_iff_iff, beq_iff_eq, beq_iff_eq]
  constructor
  · intro h
    induction k generalizing m with
    | nil => cases m with
      | nil => rfl
      | cons d m => simp at h
    | cons c k ih => cases m with
      | nil => simp at h
      | cons d m =>
        simp only [List.map_cons, List.cons.injEq] at h
        rw [ub_inj h.1, ih m h.2]
  · rintro rfl; rfl
theorem map_cell (k : List (BitVec 8)) : (k.map ub).map Extern.Stop.cell = k.map U8 := by
  rw [List.map_map]
  apply List.map_congr_left
  intro c _
  simp [Extern.Stop.cell, ub, U8]
theorem run_eq_key (k m : List (BitVec 8)) (hk : k.length = 32) (hm : m.length = 32) (w : World) :
    (binOp .eql 23 (.agg (k.map U8).toArray) (.agg (m.map U8).toArray)).run Try.prog w = .ok (.bool (k == m)) w := by
  have h := run_eql_bytes (P := Try.prog) w 23 5 32 Try.underlying23 Try.underlying5 (fun w => by kernel_rfl) (k.map ub) (m.map ub) (by simpa using hk) (by simpa using hm)
  rw [map_cell, map_cell, map_ub_beq] at h
  exact h
end Go.Proofs.Ytahmnpbfjfllmaa
