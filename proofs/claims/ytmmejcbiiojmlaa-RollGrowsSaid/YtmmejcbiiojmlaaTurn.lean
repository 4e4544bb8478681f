/- The document's turn of a word. -/
import Derived.Test.YtmmejcbiiojmlaaLast
namespace Go.Proofs.Ytmmejcbiiojmlaa
open Go Go.RowKit

theorem bit_any (x : BitVec 64) (k : Nat) (hk : k < 32) (w : World) : Calls Try.prog 25 #[U64 x, .int .i64 k] w fun e w' => e = .returned (U64 ((x >>> k) &&& 1#64)) ∧ w = w' := by
  go_enter Try.func25, Try.ntmps25
  go_wp2
  go_ret
  exact ⟨rfl, rfl⟩
theorem place_any (k n : Nat) (hk : k < 32) (hn : n ≤ 100000) (w : World) : Calls Try.prog 26 #[.int .i64 k, .int .i64 n, .int .i64 32] w fun e w' => e = .returned (.int .i64 ((k + n % 32) % 32 : Nat)) ∧ w = w' := by
  have h1 : (0 : Int) ≤ (k : Int) + (n : Int) % 32 := by omega
  have h2 : (0 : Int) ≤ ((k : Int) + (n : Int) % 32) % 32 := by omega
  go_enter Try.func26, Try.ntmps26
  go_wp2
  go_ret
  exact ⟨rfl, rfl⟩
def TurnRel (x : BitVec 64) (m : Nat) (y i : Value) : Prop := ∃ k : Nat, k ≤ 32 ∧ i = .int .i64 k ∧ y = U64 (RollMath.turnTo x m k)
theorem turn_step (x : BitVec 64) (m k : Nat) (p : Nat) (hp : (k + m) % 32 = p) : RollMath.turnTo x m k ||| (((x >>> k) &&& 1#64) <<< p) = RollMath.turnTo x m (k + 1) := by subst hp; rfl
theorem turnTo_any (x : BitVec 64) (n : Nat) (hn : n ≤ 100000) (w : World) : Calls Try.prog 16 #[U64 x, .int .i64 n, .int .i64 32] w fun e w' => e = .returned (U64 (RollMath.turnTo x (n % 32) 32)) ∧ w = w' := by
  go_enter Try.func16, Try.ntmps16
  go_wp2
  go_loop [7, 8] (fun y i => TurnRel x (n % 32) y i) (fun _ i => 32 - (intOf i).toNat)
  case atStart => exact ⟨0, by omega, rfl, rfl⟩
  case round =>
    obtain ⟨k, hk, rfl, rfl⟩ := hrel
    by_cases hlt : k < 32
    · have hp : (k + n % 32) % 32 < 32 := Nat.mod_lt _ (by decide)
      have HS := Lib.hid (turn_step x (n % 32) k _ rfl)
      have BA := bit_any x k hlt w
      have PA := place_any k n hlt hn w
      generalize (x >>> k) &&& 1#64 = c at *
      generalize (k + n % 32) % 32 = p at *
      generalize RollMath.turnTo x (n % 32) k = Y at *
      go_wp2_with fail
      refine BA.mono ?_
      rintro e w' ⟨rfl, rfl⟩
      go_wp2_with fail
      refine PA.mono ?_
      rintro e w' ⟨rfl, rfl⟩
      go_wp2
      go_round
      case rel => exact ⟨k + 1, by omega, by go_num, by rw [← HS.out]⟩
      case measure => simp [intOf]; omega
    · obtain rfl : k = 32 := by omega
      go_wp2
      go_ret
      exact ⟨rfl, rfl⟩

theorem sum_len (s : BitVec 32) (a : Option Addr) (cap : Nat) (l : List (BitVec 8)) (w : World) (k : Nat) (hk : l.length = k) (hb : Reads w a cap l) : Calls Try.prog 13 #[U32 s, .slice a k cap] w (Gives w (U32 (RollMath.sum s l))) := by
  subst hk; exact rollSum_any s a cap l w hb
theorem grows_ahead (s : BitVec 32) (c : BitVec 8) (m : List (BitVec 8)) : (BitVec.setWidth 64 (RollMath.sum s ([c] ++ m)) == BitVec.setWidth 64 (RollMath.sum s m) ^^^ RollMath.turnTo (BitVec.setWidth 64 (RollMath.word s c)) (m.length % 32) 32) = true := by
  rw [beq_iff_eq, List.singleton_append, RollMath.sum_cons, RollMath.turn_is, BitVec.setWidth_xor, BitVec.xor_comm]
theorem grows_behind (s : BitVec 32) (c : BitVec 8) (m : List (BitVec 8)) : (BitVec.setWidth 64 (RollMath.sum s (m ++ [c])) == RollMath.turnTo (BitVec.setWidth 64 (RollMath.sum s m)) (1 % 32) 32 ^^^ BitVec.setWidth 64 (RollMath.word s c)) = true := by
  rw [beq_iff_eq, RollMath.sum_snoc, RollMath.turn_is, BitVec.setWidth_xor]
theorem owns_block {w : World} {B : Nat} {E : TypeId} {v : Value} {l : List (BitVec 8)} (h : Owns w B E v l) (k : Nat) (hk : v.ownBlock = some k) : B ≤ k := by
  rcases h.2 with ⟨rfl, _⟩ | ⟨g, cap, cur, rfl, hb, _⟩
  · simp [Value.ownBlock] at hk
  · simp [Value.ownBlock] at hk; omega
theorem size_alloc (w : World) (o : Obj) : w.heap.size ≤ (w.alloc o).heap.size := ((Below.refl w.heap.size w).alloc (Nat.le_refl _) o).size
theorem owns_one (w : World) (c : BitVec 8) : Owns (w.alloc (.cells #[U8 c] 5)) w.heap.size 5 (.slice (some ⟨w.heap.size, 0, none⟩) 1 1) [c] := by
  refine ⟨rfl, .inr ⟨w.heap.size, 1, #[U8 c], rfl, Nat.le_refl _, heap_alloc_new _ _, Nat.le_refl _, by unfold maxLen; omega, rfl, rfl⟩⟩
theorem reads_one (w : World) (c : BitVec 8) : Reads (w.alloc (.cells #[U8 c] 5)) (some ⟨w.heap.size, 0, none⟩) 1 [c] :=
  reads_lit w #[U8 c] 5 (0, 0) [c] rfl (by simp)
end Go.Proofs.Ytmmejcbiiojmlaa
