/- The small helpers of the document's first reference: what each gives. -/
import Derived.Test.YtahmnpbfjfllmaaB
import Derived.Test.YtahmnpbfjfllmaaProg
import Derived.Lib.Hide
import Derived.Deep.QuietTactic
import Derived.BigQuiet
namespace Go.Proofs.Ytahmnpbfjfllmaa
open Go Go.RowKit

theorem byteSlice : ByteSlice Try.prog 78 5 := ⟨by kernel_rfl, by kernel_rfl⟩
theorem ret_slice {a : Option Addr} {m n c : Nat} (h : m = n) : Ending.returned (.slice a m c) = .returned (.slice a n c) := by rw [h]
theorem ret_bool {a b : Bool} (h : a = b) : Ending.returned (.bool a) = .returned (.bool b) := by rw [h]
theorem ret_i64 {a b : Int} (h : a = b) : Ending.returned (.int .i64 a) = .returned (.int .i64 b) := by rw [h]
theorem ret_u32 {a b : BitVec 32} (h : a = b) : Ending.returned (U32 a) = .returned (U32 b) := by rw [h]
theorem ret_u64 {a b : BitVec 64} (h : a = b) : Ending.returned (U64 a) = .returned (U64 b) := by rw [h]


/-- A number, put between two others. -/
def within (x lo hi : Int) : Int := if x < lo then lo else if hi < x then hi else x


/-- A test that reads in an order of its own. -/
def Tells (w : World) (b : Bool) (e : Ending) (w' : World) : Prop := ∃ n, e = .returned (.bool b) ∧ w' = w.drewN n
end Go.Proofs.Ytahmnpbfjfllmaa
