/- The law's walk: CrcLinear. -/
import Derived.Test.YthdfblhlkkbloaaDoorLives
import Derived.Test.YthdfblhlkkbloaaDoorPoly
namespace Go.Proofs.YthdfblhlkkbloaaDoor
open Go Go.RowKit

theorem within_nat (x : Int) (h : Nat) : ∃ n : Nat, within x 0 h = n ∧ n ≤ h := by
  refine ⟨(within x 0 h).toNat, ?_, ?_⟩ <;> unfold within <;> split <;> (try split) <;> omega
theorem moved_nat (s : BitVec 32) (n : Nat) : moved s n = CrcMath.shift s n := rfl
theorem moved_both (s : BitVec 32) (n m : Nat) : moved s ((n : Int) + (m : Int)) = moved (moved s n) m := by
  rw [moved_nat, moved_nat, CrcMath.shift_add]; rfl
theorem moved_xor (s t : BitVec 32) (n : Nat) : moved (s ^^^ t) n = moved s n ^^^ moved t n := by
  rw [moved_nat, moved_nat, moved_nat, CrcMath.shift_xor]
theorem moved_zero (n : Nat) : moved 0#32 n = 0#32 := by rw [moved_nat, CrcMath.shift_zero]

theorem crcLinear_walk (s t : BitVec 32) (n0 m0 : Int) (w : World) (hh : Half w) (_hn : -9223372036854775808 ≤ n0 ∧ n0 ≤ 9223372036854775807) (_hm : -9223372036854775808 ≤ m0 ∧ m0 ≤ 9223372036854775807) :
    Calls Tryd.prog 6 #[U32 s, U32 t, .int .i64 n0, .int .i64 m0] w fun e w' => e = .returned (.bool true) ∧ Below w.heap.size w w' := by
  clear _hn _hm
  go_enter Tryd.func6, Tryd.ntmps6
  go_wp2_with fail
  refine (within_any _ _ _ _).mono ?_
  rintro e w' ⟨rfl, rfl⟩
  obtain ⟨n, en, hn⟩ := within_nat n0 1073741824
  rw [show within n0 0 1073741824 = (n : Int) from en]; clear en
  go_wp2_with fail
  refine (within_any _ _ _ _).mono ?_
  rintro e w' ⟨rfl, rfl⟩
  obtain ⟨m, em, hm⟩ := within_nat m0 1073741824
  rw [show within m0 0 1073741824 = (m : Int) from em]; clear em
  have s1 := moved_both s n m
  have s2 := moved_xor s t n
  have s3 := moved_zero n
  have S1 := Lib.hid s1; clear s1
  have S2 := Lib.hid s2; clear s2
  have S3 := Lib.hid s3; clear s3
  go_wp2_with fail
  refine (shift_any _ _ _ (by omega)).mono ?_
  rintro e w' ⟨rfl, rfl⟩
  go_wp2_with fail
  refine (shift_any _ _ _ (by omega)).mono ?_
  rintro e w' ⟨rfl, rfl⟩
  go_wp2_with fail
  refine (shift_any _ _ _ (by omega)).mono ?_
  rintro e w' ⟨rfl, rfl⟩
  rw [S1.out]
  go_wp2_with fail
  refine (shift_any _ _ _ (by omega)).mono ?_
  rintro e w' ⟨rfl, rfl⟩
  go_wp2_with fail
  refine (shift_any _ _ _ (by omega)).mono ?_
  rintro e w' ⟨rfl, rfl⟩
  go_wp2_with fail
  refine (shift_any _ _ _ (by omega)).mono ?_
  rintro e w' ⟨rfl, rfl⟩
  rw [S2.out]
  go_wp2_with fail
  refine (shift_any 0#32 _ _ (by omega)).mono ?_
  rintro e w' ⟨rfl, rfl⟩
  rw [S3.out]
  go_wp2_with fail
  refine (lives_any _ hh).mono ?_
  rintro e w2 ⟨rfl, hb2⟩
  go_wp2
  go_ret
  exact ⟨rfl, hb2⟩
end Go.Proofs.YthdfblhlkkbloaaDoor
