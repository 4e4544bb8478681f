/- The law's walk: CrcShifts. -/
import Derived.Test.YthdfblhlkkbloaaDoorLives
import Derived.Test.YthdfblhlkkbloaaDoorPoly
namespace Go.Proofs.YthdfblhlkkbloaaDoor
open Go Go.RowKit

theorem crcShifts_walk (s t : BitVec 32) (n : Int) (w : World) (hh : Half w) (hn : -9223372036854775808 ≤ n ∧ n ≤ 9223372036854775807) :
    Calls Tryd.prog 7 #[U32 s, U32 t, .int .i64 n] w fun e w' => e = .returned (.bool true) ∧ Below w.heap.size w w' := by
  have h := hn.2
  clear hn
  go_enter Tryd.func7, Tryd.ntmps7
  go_wp2_with fail
  refine (shift_any _ _ _ h).mono ?_
  rintro e w' ⟨rfl, rfl⟩
  go_wp2_with fail
  refine (refShift_any _ _ _ h).mono ?_
  rintro e w' ⟨rfl, rfl⟩
  go_wp2_with fail
  refine (join_any _ _ _ _ h).mono ?_
  rintro e w' ⟨rfl, rfl⟩
  go_wp2_with fail
  refine (refShift_any _ _ _ h).mono ?_
  rintro e w' ⟨rfl, rfl⟩
  go_wp2_with fail
  refine (lives_any _ hh).mono ?_
  rintro e w2 ⟨rfl, hb2⟩
  go_wp2
  go_ret
  exact ⟨rfl, hb2⟩
end Go.Proofs.YthdfblhlkkbloaaDoor
