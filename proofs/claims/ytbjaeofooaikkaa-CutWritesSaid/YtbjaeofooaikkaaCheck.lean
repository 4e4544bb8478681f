/- Whether a shape is right: in the program and in the document's answer. -/
import Derived.Test.YtbjaeofooaikkaaBase
namespace Go.Proofs.Ytbjaeofooaikkaa
open Go Go.RowKit

set_option maxRecDepth 100000 in
set_option maxHeartbeats 2000000 in
theorem check_yes (L M K W : Int) (s : BitVec 32) (w : World) (h1 : 1 ≤ W) (h2 : W ≤ 63) (h3 : W ≤ L) (h4 : L ≤ M) (h5 : M ≤ 8192) (h6 : 0 ≤ K) (h7 : K ≤ 20) :
    Calls Try.prog 15 #[shapeV L M K W s] w fun e w' => e = .returned (.int .i64 0) ∧ Below w.heap.size w w' := by
  unfold shapeV
  go_enter Try.func15, Try.ntmps15
  go_wp2
  go_ret
  exact ⟨rfl, (Below.refl _ _).alloc (Nat.le_refl _) _⟩
set_option maxRecDepth 100000 in
set_option maxHeartbeats 2000000 in
theorem check_no (L M K W : Int) (s : BitVec 32) (w : World) (h : W < 1 ∨ 63 < W ∨ L < W ∨ M < L ∨ 8192 < M ∨ K < 0 ∨ 20 < K) :
    Calls Try.prog 15 #[shapeV L M K W s] w fun e w' => e = .returned (.int .i64 2) ∧ Below w.heap.size w w' := by
  unfold shapeV
  have key : W < 1 ∨ (1 ≤ W ∧ 63 < W) ∨ (1 ≤ W ∧ W ≤ 63 ∧ L < W) ∨ (1 ≤ W ∧ W ≤ 63 ∧ W ≤ L ∧ M < L) ∨ (1 ≤ W ∧ W ≤ 63 ∧ W ≤ L ∧ L ≤ M ∧ 8192 < M) ∨ (1 ≤ W ∧ W ≤ 63 ∧ W ≤ L ∧ L ≤ M ∧ M ≤ 8192 ∧ K < 0) ∨ (1 ≤ W ∧ W ≤ 63 ∧ W ≤ L ∧ L ≤ M ∧ M ≤ 8192 ∧ 0 ≤ K ∧ 20 < K) := by omega
  clear h
  rcases key with h1 | ⟨h1, h2⟩ | ⟨h1, h2, h3⟩ | ⟨h1, h2, h3, h4⟩ | ⟨h1, h2, h3, h4, h5⟩ | ⟨h1, h2, h3, h4, h5, h6⟩ | ⟨h1, h2, h3, h4, h5, h6, h7⟩
  all_goals
    go_enter Try.func15, Try.ntmps15
    go_wp2
    go_ret
    exact ⟨rfl, (Below.refl _ _).alloc (Nat.le_refl _) _⟩
theorem good_iff {L M K W : Int} : goodB L M K W = true ↔ 1 ≤ W ∧ W ≤ 63 ∧ W ≤ L ∧ L ≤ M ∧ M ≤ 8192 ∧ 0 ≤ K ∧ K ≤ 20 := by unfold goodB; rw [decide_eq_true_eq]
theorem bad_iff {L M K W : Int} : goodB L M K W = false ↔ W < 1 ∨ 63 < W ∨ L < W ∨ M < L ∨ 8192 < M ∨ K < 0 ∨ 20 < K := by
  unfold goodB; rw [decide_eq_false_iff_not]; omega
set_option maxRecDepth 100000 in
set_option maxHeartbeats 2000000 in
theorem refCheck_yes (L M K W : Int) (s : BitVec 32) (w : World) (h1 : 1 ≤ W) (h2 : W ≤ 63) (h3 : W ≤ L) (h4 : L ≤ M) (h5 : M ≤ 8192) (h6 : 0 ≤ K) (h7 : K ≤ 20) :
    Calls Try.prog 14 #[shapeV L M K W s] w fun e w' => e = .returned (.bool true) ∧ Below w.heap.size w w' := by
  unfold shapeV
  go_enter Try.func14, Try.ntmps14
  go_wp2
  go_ret
  exact ⟨rfl, (Below.refl _ _).alloc (Nat.le_refl _) _⟩
set_option maxRecDepth 100000 in
set_option maxHeartbeats 2000000 in
theorem refCheck_no (L M K W : Int) (s : BitVec 32) (w : World) (h : W < 1 ∨ 63 < W ∨ L < W ∨ M < L ∨ 8192 < M ∨ K < 0 ∨ 20 < K) :
    Calls Try.prog 14 #[shapeV L M K W s] w fun e w' => e = .returned (.bool false) ∧ Below w.heap.size w w' := by
  unfold shapeV
  have key : W < 1 ∨ (1 ≤ W ∧ 63 < W) ∨ (1 ≤ W ∧ W ≤ 63 ∧ L < W) ∨ (1 ≤ W ∧ W ≤ 63 ∧ W ≤ L ∧ M < L) ∨ (1 ≤ W ∧ W ≤ 63 ∧ W ≤ L ∧ L ≤ M ∧ 8192 < M) ∨ (1 ≤ W ∧ W ≤ 63 ∧ W ≤ L ∧ L ≤ M ∧ M ≤ 8192 ∧ K < 0) ∨ (1 ≤ W ∧ W ≤ 63 ∧ W ≤ L ∧ L ≤ M ∧ M ≤ 8192 ∧ 0 ≤ K ∧ 20 < K) := by omega
  clear h
  rcases key with h1 | ⟨h1, h2⟩ | ⟨h1, h2, h3⟩ | ⟨h1, h2, h3, h4⟩ | ⟨h1, h2, h3, h4, h5⟩ | ⟨h1, h2, h3, h4, h5, h6⟩ | ⟨h1, h2, h3, h4, h5, h6, h7⟩
  all_goals
    go_enter Try.func14, Try.ntmps14
    go_wp2
    go_ret
    exact ⟨ret_bool (by first | rfl | (simp; omega)), (Below.refl _ _).alloc (Nat.le_refl _) _⟩
end Go.Proofs.Ytbjaeofooaikkaa
