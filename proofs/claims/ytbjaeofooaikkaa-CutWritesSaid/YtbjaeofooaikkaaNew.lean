/- A new roller. -/
import Derived.Test.YtbjaeofooaikkaaNew0
namespace Go.Proofs.Ytbjaeofooaikkaa
open Go Go.RowKit

theorem small_u8 (k : Nat) (h : k < 256) : Value.int .u8 (k : Int) = U8 (BitVec.ofNat 8 k) := by
  have : (BitVec.ofNat 8 k).toNat = k := by rw [BitVec.toNat_ofNat]; omega
  unfold U8; rw [this]
theorem word_small (s : BitVec 32) (k : Nat) (h : k < 256) (w : World) (n : Nat) : Calls Try.prog 33 #[U32 s, .int .u8 k] (w.drewN n) fun e w'' => e = .returned (U32 (RollMath.word s (BitVec.ofNat 8 k))) ∧ ∃ m, w'' = w.drewN m := by
  rw [small_u8 k h]; exact word_quiet s _ w n

set_option maxRecDepth 100000 in
set_option maxHeartbeats 400000 in
theorem new_some (w : World) (s : BitVec 32) (win : Nat) (h1 : 1 ≤ win) (h63 : win ≤ 63) :
    Calls Try.prog 28 #[U32 s, .int .i64 win] w fun e w' => ∃ b, w.heap.size ≤ b ∧ e = .returned (.tuple #[.pointer (some ⟨b, 0, none⟩), .int .i64 0]) ∧ Roller w' b s win [] ∧ Below w.heap.size w w' := by
  obtain ⟨Z, hz, hs, zw, zr, z0, z1, z2, z3⟩ := zero_roller
  go_enter Try.func28, Try.ntmps28
  go_wp2
  have hf := fresh_new w s win Z 66 hs zw zr z1 z2 z3
  have hb : Below w.heap.size w (w.alloc (.cells (Z.setIfInBounds 319 (.int .i64 win)) 66)) := (Below.refl _ _).alloc (Nat.le_refl _) _
  clear hz hs zw zr z0 z1 z2 z3
  generalize w.alloc (.cells (Z.setIfInBounds 319 (.int .i64 win)) 66) = w1 at *
  generalize Z.setIfInBounds 319 (.int .i64 win) = Z' at *
  generalize decide ((win : Int) < 1) = q1
  generalize decide ((63 : Int) < win) = q2
  go_loopw [17] (fun i wr => FreshRel w s win i wr) (fun i _ => 256 - (intOf i).toNat)
  case atStart => exact ⟨0, by omega, rfl, hf, hb⟩
  case round =>
    clear hf hb
    obtain ⟨k, hk, rfl, hf, hb⟩ := hrel
    by_cases hlt : k < 256
    · obtain ⟨v, c1, _⟩ := hf.words k hlt
      have c2 := hf.thawed k
      have WQ := word_small s k hlt
      go_wp2_with fail
      refine wp_region_mid 9 (by kernel_rfl) (by kernel_rfl) rfl ?_
      simp only [List.take_succ_cons, List.take_zero, List.drop_zero]
      repeat (first | go_big_quiet_step (exact WQ _ _) | quiet_step (exact WQ _ _))
      refine wpQuiet_nil ?_
      intro j
      go_wp2
      refine midPost_normal (rest_quiet (by kernel_rfl) ?_)
      simp only [List.drop_succ_cons, List.drop_nil]
      refine wpQuiet_nil ?_
      intro j'
      have hf2 := Lib.hid (((hf.drewN j).step hlt).drewN j')
      have hb2 := Lib.hid (below_drewN ((below_drewN hb j).setCell (p := ⟨w.heap.size, k, none⟩) (Nat.le_refl _) (U32 (RollMath.word s (BitVec.ofNat 8 k)))) j')
      clear hf hb c1 c2
      go_wp2
      go_roundw
      case rel => exact ⟨k + 1, by omega, by go_num, hf2.out, hb2.out⟩
      case measure => simp [intOf]; omega
    · obtain rfl : k = 256 := by omega
      go_wp2
      go_ret2
      exact ⟨_, Nat.le_refl _, rfl, hf.done h1, hb⟩
end Go.Proofs.Ytbjaeofooaikkaa
