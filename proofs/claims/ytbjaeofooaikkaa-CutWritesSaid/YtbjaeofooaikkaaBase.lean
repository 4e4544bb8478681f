/- Ground for the cutter: the last bytes, worlds that part in some blocks alone, shapes. -/
import Derived.Test.YtbjaeofooaikkaaNew
import Derived.Test.YtbjaeofooaikkaaE
import Derived.Test.YtbjaeofooaikkaaCutMath
namespace Go.Proofs.Ytbjaeofooaikkaa
open Go Go.RowKit

def lastN (n : Nat) (l : List (BitVec 8)) : List (BitVec 8) := l.drop (l.length - n)
theorem lastN_length (n : Nat) (l : List (BitVec 8)) : (lastN n l).length = min n l.length := by
  unfold lastN; rw [List.length_drop]; omega
theorem lastN_short {n : Nat} {l : List (BitVec 8)} (h : l.length ≤ n) : lastN n l = l := by
  unfold lastN; rw [show l.length - n = 0 by omega, List.drop_zero]
theorem pushed_last (n : Nat) (l : List (BitVec 8)) (c : BitVec 8) (hn : 0 < n) : pushed n (lastN n l) c = lastN n (l ++ [c]) := by
  unfold pushed
  rw [lastN_length]
  by_cases h : l.length < n
  · rw [if_pos (by omega), lastN_short (by omega), lastN_short (by rw [List.length_append, List.length_singleton]; omega)]
  · rw [if_neg (by omega)]
    unfold lastN
    rw [List.length_append, List.length_singleton, List.drop_drop, List.drop_append_of_le_length (by omega)]
    congr 2
    omega
theorem lastN_drop {n m : Nat} (l : List (BitVec 8)) (h : n + m ≤ l.length) : lastN n (l.drop m) = lastN n l := by
  unfold lastN; rw [List.drop_drop, List.length_drop]; congr 1; omega
theorem Roller.drewN {w : World} {b : Nat} {s : BitVec 32} {win : Nat} {L : List (BitVec 8)} (h : Roller w b s win L) (n : Nat) : Roller (w.drewN n) b s win L := by
  obtain ⟨at_, ring, h1, h2⟩ := h
  exact ⟨at_, ring, h1.drewN n, h2⟩
theorem new_none (w : World) (s : BitVec 32) (win : Int) (h : win < 1 ∨ 63 < win) :
    Calls Try.prog 28 #[U32 s, .int .i64 win] w fun e w' => e = .returned (.tuple #[.pointer none, .int .i64 2]) ∧ w = w' := by
  by_cases h1 : win < 1
  · clear h
    go_enter Try.func28, Try.ntmps28
    go_wp2
    go_ret2
    exact ⟨rfl, rfl⟩
  · have h2 : 63 < win := by omega
    clear h
    go_enter Try.func28, Try.ntmps28
    go_wp2
    go_ret2
    exact ⟨rfl, rfl⟩

theorem Touch.of_only {F : Nat → Prop} {b : Nat} {w w' : World} (h : Only b w w') (hb : F b) : Touch F w w' :=
  ⟨h.os, h.tape, h.output, h.size, fun k hk hn => h.block k hk (fun e => hn (Option.some.inj e ▸ hb))⟩

/-- A shape as a value. -/
def shapeV (L M K W : Int) (s : BitVec 32) : Value := .agg #[.int .i64 L, .int .i64 M, .int .i64 K, .int .i64 W, U32 s]
def goodB (L M K W : Int) : Bool := decide (1 ≤ W ∧ W ≤ 63 ∧ W ≤ L ∧ L ≤ M ∧ M ≤ 8192 ∧ 0 ≤ K ∧ K ≤ 20)
end Go.Proofs.Ytbjaeofooaikkaa
