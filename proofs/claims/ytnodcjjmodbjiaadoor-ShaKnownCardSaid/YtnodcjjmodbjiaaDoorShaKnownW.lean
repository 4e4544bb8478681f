/- The law's walk: ShaKnown. -/
import Derived.Test.YtnodcjjmodbjiaaDoorHex
namespace Go.Proofs.YtnodcjjmodbjiaaDoor
open Go Go.RowKit

def known1 : List (BitVec 8) := [97#8, 98#8, 99#8]
def known2 : List (BitVec 8) := [97#8, 98#8, 99#8, 100#8, 98#8, 99#8, 100#8, 101#8, 99#8, 100#8, 101#8, 102#8, 100#8, 101#8, 102#8, 103#8, 101#8, 102#8, 103#8, 104#8, 102#8, 103#8, 104#8, 105#8, 103#8, 104#8, 105#8, 106#8, 104#8, 105#8, 106#8, 107#8, 105#8, 106#8, 107#8, 108#8, 106#8, 107#8, 108#8, 109#8, 107#8, 108#8, 109#8, 110#8, 108#8, 109#8, 110#8, 111#8, 109#8, 110#8, 111#8, 112#8, 110#8, 111#8, 112#8, 113#8]
theorem known1_hex : hexOf (Sha.sum known1) = [98#8, 97#8, 55#8, 56#8, 49#8, 54#8, 98#8, 102#8, 56#8, 102#8, 48#8, 49#8, 99#8, 102#8, 101#8, 97#8, 52#8, 49#8, 52#8, 49#8, 52#8, 48#8, 100#8, 101#8, 53#8, 100#8, 97#8, 101#8, 50#8, 50#8, 50#8, 51#8, 98#8, 48#8, 48#8, 51#8, 54#8, 49#8, 97#8, 51#8, 57#8, 54#8, 49#8, 55#8, 55#8, 97#8, 57#8, 99#8, 98#8, 52#8, 49#8, 48#8, 102#8, 102#8, 54#8, 49#8, 102#8, 50#8, 48#8, 48#8, 49#8, 53#8, 97#8, 100#8] := by decide +kernel
theorem known2_hex : hexOf (Sha.sum known2) = [50#8, 52#8, 56#8, 100#8, 54#8, 97#8, 54#8, 49#8, 100#8, 50#8, 48#8, 54#8, 51#8, 56#8, 98#8, 56#8, 101#8, 53#8, 99#8, 48#8, 50#8, 54#8, 57#8, 51#8, 48#8, 99#8, 51#8, 101#8, 54#8, 48#8, 51#8, 57#8, 97#8, 51#8, 51#8, 99#8, 101#8, 52#8, 53#8, 57#8, 54#8, 52#8, 102#8, 102#8, 50#8, 49#8, 54#8, 55#8, 102#8, 54#8, 101#8, 99#8, 101#8, 100#8, 100#8, 52#8, 49#8, 57#8, 100#8, 98#8, 48#8, 54#8, 99#8, 49#8] := by decide +kernel
theorem known1_str : bs (hexOf (Sha.sum known1)) = ⟨#[98, 97, 55, 56, 49, 54, 98, 102, 56, 102, 48, 49, 99, 102, 101, 97, 52, 49, 52, 49, 52, 48, 100, 101, 53, 100, 97, 101, 50, 50, 50, 51, 98, 48, 48, 51, 54, 49, 97, 51, 57, 54, 49, 55, 55, 97, 57, 99, 98, 52, 49, 48, 102, 102, 54, 49, 102, 50, 48, 48, 49, 53, 97, 100]⟩ := by rw [known1_hex]; rfl
theorem known2_str : bs (hexOf (Sha.sum known2)) = ⟨#[50, 52, 56, 100, 54, 97, 54, 49, 100, 50, 48, 54, 51, 56, 98, 56, 101, 53, 99, 48, 50, 54, 57, 51, 48, 99, 51, 101, 54, 48, 51, 57, 97, 51, 51, 99, 101, 52, 53, 57, 54, 52, 102, 102, 50, 49, 54, 55, 102, 54, 101, 99, 101, 100, 100, 52, 49, 57, 100, 98, 48, 54, 99, 49]⟩ := by rw [known2_hex]; rfl
set_option maxRecDepth 40000 in
set_option maxHeartbeats 1000000 in
theorem shaKnown_walk (w : World) (hk : KTab w) : Calls Tryd.prog 4 #[] w fun e w' => e = .returned (.bool true) ∧ Below w.heap.size w w' := by
  have hc := fun (w : World) (cs : Array Value) (E : TypeId) (len cap : Nat) => conv_lit (P := Tryd.prog) w 22 5 cs E len cap (by kernel_rfl) (by kernel_rfl)
  have S1 := fun (w' : World) (a : Option Addr) (cap : Nat) (h1 : Reads w' a cap known1) (h2 : KTab w') => sum_any' a cap known1 w' h1 (by decide) h2
  have S2 := fun (w' : World) (a : Option Addr) (cap : Nat) (h1 : Reads w' a cap known2) (h2 : KTab w') => sum_any' a cap known2 w' h1 (by decide) h2
  have X1 := hex_any (Sha.sum known1) (sum_length known1)
  have X2 := hex_any (Sha.sum known2) (sum_length known2)
  rw [known1_str] at X1
  rw [known2_str] at X2
  generalize Sha.sum known1 = D1 at *
  generalize Sha.sum known2 = D2 at *
  go_enter Tryd.func4, Tryd.ntmps4
  go_wp2_with fail
  refine (S1 _ _ _ (reads_lit w #[.int .u8 97, .int .u8 98, .int .u8 99] 5 (3, 4) known1 rfl (by decide)) (hk.keeps (Keeps.alloc w _))).mono ?_
  rintro e w2 ⟨rfl, hb2⟩
  have hb12 := ((Below.refl w.heap.size w).alloc (Nat.le_refl _) (.cells #[.int .u8 97, .int .u8 98, .int .u8 99] 5 (3, 4))).trans (hb2.mono (by simp))
  clear S1 hb2
  go_wp2_with fail
  refine (X1 _).mono ?_
  rintro e w3 ⟨rfl, hb3⟩
  have hb13 := hb12.trans (hb3.mono hb12.size)
  clear X1 hb12 hb3
  go_wp2_with fail
  have hk3 := hk.keeps (Keeps.below hb13)
  refine (S2 _ _ _ (reads_lit w3 #[.int .u8 97, .int .u8 98, .int .u8 99, .int .u8 100, .int .u8 98, .int .u8 99, .int .u8 100, .int .u8 101, .int .u8 99, .int .u8 100, .int .u8 101, .int .u8 102, .int .u8 100, .int .u8 101, .int .u8 102, .int .u8 103, .int .u8 101, .int .u8 102, .int .u8 103, .int .u8 104, .int .u8 102, .int .u8 103, .int .u8 104, .int .u8 105, .int .u8 103, .int .u8 104, .int .u8 105, .int .u8 106, .int .u8 104, .int .u8 105, .int .u8 106, .int .u8 107, .int .u8 105, .int .u8 106, .int .u8 107, .int .u8 108, .int .u8 106, .int .u8 107, .int .u8 108, .int .u8 109, .int .u8 107, .int .u8 108, .int .u8 109, .int .u8 110, .int .u8 108, .int .u8 109, .int .u8 110, .int .u8 111, .int .u8 109, .int .u8 110, .int .u8 111, .int .u8 112, .int .u8 110, .int .u8 111, .int .u8 112, .int .u8 113] 5 (56, 57) known2 rfl (by decide)) (hk3.keeps (Keeps.alloc w3 _))).mono ?_
  rintro e w4 ⟨rfl, hb4⟩
  have hb14 := (hb13.alloc hb13.size (.cells #[.int .u8 97, .int .u8 98, .int .u8 99, .int .u8 100, .int .u8 98, .int .u8 99, .int .u8 100, .int .u8 101, .int .u8 99, .int .u8 100, .int .u8 101, .int .u8 102, .int .u8 100, .int .u8 101, .int .u8 102, .int .u8 103, .int .u8 101, .int .u8 102, .int .u8 103, .int .u8 104, .int .u8 102, .int .u8 103, .int .u8 104, .int .u8 105, .int .u8 103, .int .u8 104, .int .u8 105, .int .u8 106, .int .u8 104, .int .u8 105, .int .u8 106, .int .u8 107, .int .u8 105, .int .u8 106, .int .u8 107, .int .u8 108, .int .u8 106, .int .u8 107, .int .u8 108, .int .u8 109, .int .u8 107, .int .u8 108, .int .u8 109, .int .u8 110, .int .u8 108, .int .u8 109, .int .u8 110, .int .u8 111, .int .u8 109, .int .u8 110, .int .u8 111, .int .u8 112, .int .u8 110, .int .u8 111, .int .u8 112, .int .u8 113] 5 (56, 57))).trans (hb4.mono (by have := hb13.size; simp; omega))
  clear S2 hb4
  go_wp2_with fail
  refine (X2 _).mono ?_
  rintro e w5 ⟨rfl, hb5⟩
  have hb15 := hb14.trans (hb5.mono hb14.size)
  clear X2 hb14 hb5
  go_wp2_with fail
  refine (lives_any _ (hk.keeps (Keeps.below hb15))).mono ?_
  rintro e w6 ⟨rfl, hb6⟩
  go_wp2
  go_ret
  exact ⟨rfl, hb15.trans (hb6.mono hb15.size)⟩
end Go.Proofs.YtnodcjjmodbjiaaDoor
