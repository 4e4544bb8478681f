/- Turns of 32 bits: the program's and the reference's. -/
import Derived.Test.YtnodcjjmodbjiaaDoorShaMath
import Derived.Test.YtnodcjjmodbjiaaDoorD
import Derived.Test.YtnodcjjmodbjiaaDoorS
import Derived.Test.YtnodcjjmodbjiaaDoorR01
namespace Go.Proofs.YtnodcjjmodbjiaaDoor
open Go Go.RowKit

theorem and31 (N : Int) : bits .and .i64 N 31 = N % 32 := by
  have e2 : bits .and .i64 N 31 = IntKind.i64.wrap ((BitVec.ofInt 64 N) &&& (BitVec.ofInt 64 31)).toNat := rfl
  have e1 : ((BitVec.ofInt 64 N) &&& (BitVec.ofInt 64 31)).toNat = (N % 18446744073709551616).toNat % 32 := by
    rw [BitVec.toNat_and, BitVec.toNat_ofInt, show (BitVec.ofInt 64 31).toNat = 31 from rfl]
    exact Nat.and_two_pow_sub_one_eq_mod _ 5
  rw [e2, e1, IntWalk.i64_in _ (by omega)]
  omega
/-- A function that only reads, in an order of its own. -/
def Gives (w : World) (v : Value) (e : Ending) (w' : World) : Prop := ∃ n, e = .returned v ∧ w' = w.drewN n

theorem turn32_any (x : BitVec 32) (N : Int) (k : Nat) (hk : N % 32 = k) (w : World) : Calls Tryd.prog 45 #[U32 x, .int .i64 N] w (Gives w (U32 (x <<< k ||| x >>> (32 - k)))) := by
  have hb := and31 N
  have hk32 : k < 32 := by omega
  rw [hk] at hb
  clear hk
  have h0 : (0 : Int) ≤ 32 - (k : Int) := by omega
  have h3 : (k : Int) ≤ 32 := by omega
  have h1 : ((32 : Int) - (k : Int)).toNat = 32 - k := by omega
  have h2 : IntKind.i64.wrap (32 - (k : Int)) = 32 - (k : Int) := IntWalk.i64_in _ (by omega)
  go_enter Tryd.func45, Tryd.ntmps45
  go_wp2
  go_quiet (fail)
  go_wp2
  go_ret
  exact ⟨_, rfl, rfl⟩
theorem right_any (x : BitVec 32) (n : Nat) (h1 : 1 ≤ n) (h2 : n ≤ 31) (w : World) : Calls Tryd.prog 41 #[U32 x, .int .i64 n] w (Gives w (U32 (Sha.rotr x n))) := by
  have TU := turn32_any x (-(n : Int)) (32 - n) (by omega) w
  rw [show 32 - (32 - n) = n by omega, BitVec.or_comm] at TU
  have h3 : IntKind.i64.wrap (-(n : Int)) = -(n : Int) := IntWalk.i64_in _ (by omega)
  clear h1 h2
  go_enter Tryd.func41, Tryd.ntmps41
  go_wp2_with fail
  refine TU.mono ?_
  rintro e w' ⟨m, rfl, rfl⟩
  go_wp2
  go_ret
  exact ⟨_, rfl, rfl⟩
theorem turned_any (x : BitVec 32) (n : Nat) (h1 : 1 ≤ n) (h2 : n ≤ 31) (w : World) : Calls Tryd.prog 38 #[U32 x, .int .u64 n] w fun e w' => e = .returned (U32 (Sha.rotr x n)) ∧ w = w' := by
  have h0 : (0 : Int) ≤ 32 - (n : Int) := by omega
  have h3 : ((32 : Int) - (n : Int)).toNat = 32 - n := by omega
  have h5 : (n : Int) ≤ 32 := by omega
  have h4 : IntKind.u64.wrap (32 - (n : Int)) = 32 - (n : Int) := IntWalk.u64_in _ (by omega)
  go_enter Tryd.func38, Tryd.ntmps38
  go_wp2
  go_ret
  exact ⟨rfl, rfl⟩
end Go.Proofs.YtnodcjjmodbjiaaDoor
