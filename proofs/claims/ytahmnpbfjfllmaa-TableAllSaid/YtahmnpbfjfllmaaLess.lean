/- The order of keys, in the program: what it gives. -/
import Derived.Test.YtahmnpbfjfllmaaKey
namespace Go.Proofs.Ytahmnpbfjfllmaa
open Go Go.RowKit

theorem BytesAt.below' {w w' : World} {b off : Nat} {l : List (BitVec 8)} (h : BytesAt w b off l) (hb : Below w.heap.size w w') : BytesAt w' b off l := fun i hi => Keeps.below hb _ _ (h i hi)
theorem less_any (k m : List (BitVec 8)) (hk : k.length = 32) (hm : m.length = 32) (w : World) :
    Calls Try.prog 11 #[.agg (k.map U8).toArray, .agg (m.map U8).toArray] w fun e w' => e = .returned (.bool (decide (cmpB k m < 0))) ∧ Below w.heap.size w w' := by
  obtain ⟨K, hK⟩ : ∃ K, (k.map U8).toArray = K := ⟨_, rfl⟩
  obtain ⟨M, hM⟩ : ∃ M, (m.map U8).toArray = M := ⟨_, rfl⟩
  have sK : K.size = 32 := by rw [← hK]; simp [hk]
  have sM : M.size = 32 := by rw [← hM]; simp [hm]
  have hb1 := (Below.refl w.heap.size w).alloc (Nat.le_refl _) (.cells K 23)
  have hb2 := hb1.alloc hb1.size (.cells M 23)
  have B1 := (bytes_lit w K 23 (0, 0) k (by rw [← hK])).below' ((Below.refl _ (w.alloc (.cells K 23))).alloc (Nat.le_refl _) (.cells M 23))
  have B2 := bytes_lit (w.alloc (.cells K 23)) M 23 (0, 0) m (by rw [← hM])
  rw [show (w.alloc (.cells K 23)).heap.size = w.heap.size + 1 by simp] at B2
  have CQ := fun n => (compare_any (((w.alloc (.cells K 23)).alloc (.cells M 23)).drewN n) w.heap.size 0 32 (w.heap.size + 1) 0 32 32 k m hk hm B1 B2).mono fun e w' ⟨he, hw⟩ => (⟨he, n, hw.symm⟩ : e = Ending.returned (.int .i64 (cmpB k m)) ∧ ∃ j, w' = ((w.alloc (.cells K 23)).alloc (.cells M 23)).drewN j)
  rw [hK, hM]
  clear hK hM B1 B2 hb1
  generalize cmpB k m = V at *
  go_enter Try.func11, Try.ntmps11
  go_wp2
  generalize (w.alloc (.cells K 23)).alloc (.cells M 23) = w2 at *
  go_quiet (exact CQ _)
  go_wp2
  go_ret
  exact ⟨rfl, below_drewN hb2 _⟩
end Go.Proofs.Ytahmnpbfjfllmaa
