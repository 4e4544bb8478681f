/- That anything is summed at all: what the law's own check gives. -/
import Derived.Test.YthdfblhlkkbloaaDoorRefAdd
namespace Go.Proofs.YthdfblhlkkbloaaDoor
open Go Go.RowKit

def nine : List (BitVec 8) := [49#8, 50#8, 51#8, 52#8, 53#8, 54#8, 55#8, 56#8, 57#8]
theorem nine_sum : (CrcMath.sum nine == 3421780262#32) = true := by decide +kernel
theorem lives_any (w : World) (hh : Half w) : Calls Tryd.prog 16 #[] w fun e w' => e = .returned (.bool true) ∧ Below w.heap.size w w' := by
  have hc := fun (w : World) (cs : Array Value) (E : TypeId) (len cap : Nat) => conv_lit (P := Tryd.prog) w 23 5 cs E len cap (by kernel_rfl) (by kernel_rfl)
  go_enter Tryd.func16, Tryd.ntmps16
  go_wp2_with fail
  refine (sum_any _ _ nine _ (hh.keeps (Keeps.alloc w _)) (reads_lit w _ _ _ nine rfl (by decide))).mono ?_
  rintro e w' ⟨rfl, rfl⟩
  have h9 := nine_sum
  generalize CrcMath.sum nine = S at *
  go_wp2
  go_ret
  exact ⟨rfl, (Below.refl _ _).alloc (Nat.le_refl _) _⟩
end Go.Proofs.YthdfblhlkkbloaaDoor
