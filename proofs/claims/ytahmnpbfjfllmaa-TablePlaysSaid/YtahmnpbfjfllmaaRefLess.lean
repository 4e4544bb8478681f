/- The order of keys in the document's own answer. -/
import Derived.Test.YtahmnpbfjfllmaaKeyMath
import Derived.Test.YtahmnpbfjfllmaaLess
namespace Go.Proofs.Ytahmnpbfjfllmaa
open Go Go.RowKit

def LessRel (k m : List (BitVec 8)) (w : World) (i : Value) (wr : World) : Prop := ∃ j n : Nat, j ≤ 32 ∧ i = .int .i64 j ∧ k.take j = m.take j ∧ wr = w.drewN n
theorem refLess_any (k m : List (BitVec 8)) (hk : k.length = 32) (hm : m.length = 32) (w : World) :
    Calls Try.prog 12 #[.agg (k.map U8).toArray, .agg (m.map U8).toArray] w fun e w' => e = .returned (.bool (decide (cmpB k m < 0))) ∧ Below w.heap.size w w' := by
  obtain ⟨K, hK⟩ : ∃ K, (k.map U8).toArray = K := ⟨_, rfl⟩
  obtain ⟨M, hM⟩ : ∃ M, (m.map U8).toArray = M := ⟨_, rfl⟩
  have sK : K.size = 32 := by rw [← hK]; simp [hk]
  have sM : M.size = 32 := by rw [← hM]; simp [hm]
  have hb1 := (Below.refl w.heap.size w).alloc (Nat.le_refl _) (.cells K 23)
  have hb2 := hb1.alloc hb1.size (.cells M 23)
  have B1 := (bytes_lit w K 23 (0, 0) k (by rw [← hK])).below' ((Below.refl _ (w.alloc (.cells K 23))).alloc (Nat.le_refl _) (.cells M 23))
  have B2 := bytes_lit (w.alloc (.cells K 23)) M 23 (0, 0) m (by rw [← hM])
  rw [show (w.alloc (.cells K 23)).heap.size = w.heap.size + 1 by simp] at B2
  rw [hK, hM]
  clear hK hM hb1
  go_enter Try.func12, Try.ntmps12
  go_wp2
  generalize (w.alloc (.cells K 23)).alloc (.cells M 23) = w2 at *
  go_loopw [5] (fun i wr => LessRel k m w2 i wr) (fun i _ => 32 - (intOf i).toNat)
  case atStart => exact ⟨0, 0, by omega, rfl, rfl, rfl⟩
  case round =>
    obtain ⟨j, n, hj, rfl, he, rfl⟩ := hrel
    by_cases hlt : j < 32
    · have c1 := B1 j (by omega)
      have c2 := B2 j (by omega)
      have h0 := cmpB_at j k m (by omega) (by omega) he
      have hs : byteAt k j = byteAt m j → k.take (j + 1) = m.take (j + 1) := fun e => by rw [take_snoc k j (by omega), take_snoc m j (by omega), he, e]
      rw [Nat.zero_add] at c1 c2
      generalize byteAt k j = x at *
      generalize byteAt m j = y at *
      by_cases hxy : x = y
      · have hn : (x != y) = false := by simp [hxy]
        have HS := Lib.hid (hs hxy)
        clear hs h0 he B1 B2 hxy
        go_wp2_with fail
        go_quiet (fail)
        go_wp2
        go_roundw
        case rel => exact ⟨j + 1, _, by omega, by go_num, HS.out, rfl⟩
        case measure => simp [intOf]; omega
      · have hn : (x != y) = true := by simp [hxy]
        have h1 : decide (cmpB k m < 0) = decide (x.toNat < y.toNat) := by rw [decide_eq_decide, h0 hxy]
        have HD := Lib.hid h1
        clear hs h0 he B1 B2 hxy h1
        go_wp2_with fail
        go_quiet (fail)
        go_wp2_with fail
        go_quiet (fail)
        go_wp2
        go_ret
        exact ⟨ret_bool HD.out.symm, below_drewN (below_drewN (below_drewN hb2 _) _) _⟩
    · have e : k = m := by rw [← List.take_of_length_le (show k.length ≤ j by omega), he, List.take_of_length_le (by omega)]
      have h1 : decide (cmpB k m < 0) = false := by rw [e, cmpB_refl]; rfl
      have HD := Lib.hid h1
      clear he e h1 B1 B2
      go_wp2
      go_ret
      exact ⟨ret_bool HD.out.symm, below_drewN hb2 _⟩
end Go.Proofs.Ytahmnpbfjfllmaa
