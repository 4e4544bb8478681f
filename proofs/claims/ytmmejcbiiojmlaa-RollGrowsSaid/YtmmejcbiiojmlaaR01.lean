/- The small helpers of the document's first reference: what each gives. -/
import Derived.Test.YtmmejcbiiojmlaaB
import Derived.Test.YtmmejcbiiojmlaaProg
import Derived.Lib.Hide
import Derived.Deep.QuietTactic
import Derived.BigQuiet
namespace Go.Proofs.Ytmmejcbiiojmlaa
open Go Go.RowKit

theorem byteSlice : ByteSlice Try.prog 26 5 := ⟨by kernel_rfl, by kernel_rfl⟩
theorem ret_slice {a : Option Addr} {m n c : Nat} (h : m = n) : Ending.returned (.slice a m c) = .returned (.slice a n c) := by rw [h]
theorem ret_bool {a b : Bool} (h : a = b) : Ending.returned (.bool a) = .returned (.bool b) := by rw [h]
theorem ret_i64 {a b : Int} (h : a = b) : Ending.returned (.int .i64 a) = .returned (.int .i64 b) := by rw [h]
theorem ret_u32 {a b : BitVec 32} (h : a = b) : Ending.returned (U32 a) = .returned (U32 b) := by rw [h]
theorem ret_u64 {a b : BitVec 64} (h : a = b) : Ending.returned (U64 a) = .returned (U64 b) := by rw [h]

theorem cut_any (a : Option Addr) (cap : Nat) (l : List (BitVec 8)) (n : Nat) (N : Int) (w : World) (hN : (n : Int) = N) (hr : Reads w a cap l) (hn : n ≤ 1048576) :
    Calls Try.prog 11 #[.slice a l.length cap, .int .i64 N] w fun e w' => e = .returned (.slice a (l.take n).length cap) ∧ w = w' := by
  subst hN
  have hl := hr.fits
  have hc := hr.room
  by_cases h : n < l.length
  · rcases hr.bytes with rfl | ⟨b, off, rfl, _⟩
    · simp at h
    · clear hr
      go_enter Try.func11, Try.ntmps11
      go_wp2
      go_ret
      exact ⟨ret_slice (by rw [List.length_take]; omega), rfl⟩
  · clear hr
    go_enter Try.func11, Try.ntmps11
    go_wp2
    go_ret
    exact ⟨ret_slice (by rw [List.length_take]; omega), rfl⟩

/-- A number, put between two others. -/
def within (x lo hi : Int) : Int := if x < lo then lo else if hi < x then hi else x
theorem within_any (x lo hi : Int) (w : World) :
    Calls Try.prog 23 #[.int .i64 x, .int .i64 lo, .int .i64 hi] w fun e w' => e = .returned (.int .i64 (within x lo hi)) ∧ w = w' := by
  by_cases h1 : x < lo
  · go_enter Try.func23, Try.ntmps23
    go_wp2
    go_ret
    exact ⟨ret_i64 (by unfold within; omega), rfl⟩
  · by_cases h2 : hi < x
    · go_enter Try.func23, Try.ntmps23
      go_wp2
      go_ret
      exact ⟨ret_i64 (by unfold within; omega), rfl⟩
    · go_enter Try.func23, Try.ntmps23
      go_wp2
      go_ret
      exact ⟨ret_i64 (by unfold within; omega), rfl⟩

/-- What a copy is: bytes of the call's own; all that was there stays. -/
def Copies (w : World) (l : List (BitVec 8)) (e : Ending) (w' : World) : Prop := ∃ v, e = .returned v ∧ Owns w' w.heap.size 5 v l ∧ Below w.heap.size w w'
theorem copy_any (a : Option Addr) (cap : Nat) (l : List (BitVec 8)) (w : World) (hr : Reads w a cap l) (hl : l.length ≤ 140737488355328) :
    Calls Try.prog 15 #[.slice a l.length cap] w (Copies w l) := by
  go_enter Try.func15, Try.ntmps15
  go_wp2_with (at_builtin; refine wpList_append_bytes byteSlice rfl _ _ rfl w.heap.size (.slice none 0 0) [] rfl (owns_nil _ _ _) a cap l rfl hr (by simpa using hl) (Nat.le_refl _) ?_; intro v' w' h1 h2)
  go_ret
  exact ⟨_, rfl, h1, ⟨h2.os, h2.tape, h2.output, h2.size, fun k hk => h2.block k hk (by simp [Value.ownBlock])⟩⟩

/-- A test that reads in an order of its own. -/
def Tells (w : World) (b : Bool) (e : Ending) (w' : World) : Prop := ∃ n, e = .returned (.bool b) ∧ w' = w.drewN n
end Go.Proofs.Ytmmejcbiiojmlaa
