/- The last bytes of a text. -/
import Derived.Test.YtmmejcbiiojmlaaLives
import Derived.Test.YtmmejcbiiojmlaaS
namespace Go.Proofs.Ytmmejcbiiojmlaa
open Go Go.RowKit

def lastN (n : Nat) (l : List (BitVec 8)) : List (BitVec 8) := l.drop (l.length - n)
theorem lastN_length (n : Nat) (l : List (BitVec 8)) : (lastN n l).length = min n l.length := by
  unfold lastN; rw [List.length_drop]; omega
theorem lastN_short {n : Nat} {l : List (BitVec 8)} (h : l.length ≤ n) : lastN n l = l := by
  unfold lastN; rw [show l.length - n = 0 by omega, List.drop_zero]
theorem pushed_last (n : Nat) (l : List (BitVec 8)) (c : BitVec 8) (hn : 0 < n) : pushed n (lastN n l) c = lastN n (l ++ [c]) := by
  unfold pushed
  rw [lastN_length]
  by_cases h : l.length < n
  · rw [if_pos (by omega), lastN_short (by omega), lastN_short (by rw [List.length_append, List.length_singleton]; omega)]
  · rw [if_neg (by omega)]
    unfold lastN
    rw [List.length_append, List.length_singleton, List.drop_drop, List.drop_append_of_le_length (by omega)]
    congr 2
    omega
theorem given_step (m : List (BitVec 8)) (f k : Nat) (hf : f ≤ k) (hk : k < m.length) : (m.take (k + 1)).drop f = (m.take k).drop f ++ [byteAt m k] := by
  rw [take_snoc m k hk, List.drop_append_of_le_length (by rw [List.length_take]; omega)]
theorem last_any (a : Option Addr) (cap : Nat) (l : List (BitVec 8)) (n : Nat) (w : World) (hr : Reads w a cap l) (hn : n ≤ 1048576) :
    Calls Try.prog 21 #[.slice a l.length cap, .int .i64 n] w fun e w' => ∃ a2 cap2, e = .returned (.slice a2 (lastN n l).length cap2) ∧ Reads w a2 cap2 (lastN n l) ∧ w = w' := by
  have h1 := hr.fits
  have h2 := hr.room
  by_cases h : n < l.length
  · have hd := hr.drop (l.length - n) (by omega)
    have sl := fun w => run_slice_from byteSlice w a l.length cap .i64 (l.length - n) ((l.length : Int) - n) (by omega) (by omega)
    have hl : (lastN n l).length = l.length - (l.length - n) := by unfold lastN; rw [List.length_drop]
    rw [hl]
    clear hl hr
    go_enter Try.func21, Try.ntmps21
    go_wp2
    go_ret
    exact ⟨_, _, rfl, hd, rfl⟩
  · have hl : lastN n l = l := lastN_short (by omega)
    rw [hl]
    clear hl
    have HR := Lib.hid hr
    clear hr
    go_enter Try.func21, Try.ntmps21
    go_wp2
    go_ret
    exact ⟨_, _, rfl, HR.out, rfl⟩
theorem Roller.drewN {w : World} {b : Nat} {s : BitVec 32} {win : Nat} {L : List (BitVec 8)} (h : Roller w b s win L) (n : Nat) : Roller (w.drewN n) b s win L := by
  obtain ⟨at_, ring, h1, h2⟩ := h
  exact ⟨at_, ring, h1.drewN n, h2⟩
theorem new_none (w : World) (s : BitVec 32) (win : Int) (h : win < 1 ∨ 63 < win) :
    Calls Try.prog 17 #[U32 s, .int .i64 win] w fun e w' => e = .returned (.tuple #[.pointer none, .int .i64 2]) ∧ w = w' := by
  by_cases h1 : win < 1
  · clear h
    go_enter Try.func17, Try.ntmps17
    go_wp2
    go_ret2
    exact ⟨rfl, rfl⟩
  · have h2 : 63 < win := by omega
    clear h
    go_enter Try.func17, Try.ntmps17
    go_wp2
    go_ret2
    exact ⟨rfl, rfl⟩
end Go.Proofs.Ytmmejcbiiojmlaa
