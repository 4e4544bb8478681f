/- Words and sums of the rolling kind: what each function gives. -/
import Derived.Test.YtbjaeofooaikkaaR01
import Derived.Test.YtbjaeofooaikkaaRollMath
namespace Go.Proofs.Ytbjaeofooaikkaa
open Go Go.RowKit

theorem and31 (N : Int) : bits .and .i64 N 31 = N % 32 := by
  have e2 : bits .and .i64 N 31 = IntKind.i64.wrap ((BitVec.ofInt 64 N) &&& (BitVec.ofInt 64 31)).toNat := rfl
  have e1 : ((BitVec.ofInt 64 N) &&& (BitVec.ofInt 64 31)).toNat = (N % 18446744073709551616).toNat % 32 := by
    rw [BitVec.toNat_and, BitVec.toNat_ofInt, show (BitVec.ofInt 64 31).toNat = 31 from rfl]
    exact Nat.and_two_pow_sub_one_eq_mod _ 5
  rw [e2, e1, IntWalk.i64_in _ (by omega)]
  omega
theorem shifts_rot (x : BitVec 32) (k : Nat) (hk : k < 32) : x <<< k ||| x >>> (32 - k) = RollMath.rot x k := RollMath.rot_shifts x k hk

/-- A function that only reads, in an order of its own. -/
def Gives (w : World) (v : Value) (e : Ending) (w' : World) : Prop := ∃ n, e = .returned v ∧ w' = w.drewN n

theorem turn32_any (x : BitVec 32) (N : Int) (w : World) : Calls Try.prog 39 #[U32 x, .int .i64 N] w (Gives w (U32 (RollMath.rot x (N % 32).toNat))) := by
  have hb := and31 N
  obtain ⟨k, hk⟩ : ∃ k : Nat, N % 32 = k := ⟨(N % 32).toNat, by omega⟩
  have hk32 : k < 32 := by omega
  rw [hk] at hb ⊢
  rw [Int.toNat_natCast]
  clear hk
  have HR := Lib.hid (shifts_rot x k hk32)
  have h0 : (0 : Int) ≤ 32 - (k : Int) := by omega
  have h3 : (k : Int) ≤ 32 := by omega
  have h1 : ((32 : Int) - (k : Int)).toNat = 32 - k := by omega
  have h2 : IntKind.i64.wrap (32 - (k : Int)) = 32 - (k : Int) := IntWalk.i64_in _ (by omega)
  go_enter Try.func39, Try.ntmps39
  go_wp2
  go_quiet (fail)
  go_wp2
  go_ret
  exact ⟨_, ret_u32 HR.out, rfl⟩
theorem word_any (s : BitVec 32) (c : BitVec 8) (w : World) : Calls Try.prog 33 #[U32 s, U8 c] w fun e w' => e = .returned (U32 (RollMath.word s c)) ∧ w = w' := by
  go_enter Try.func33, Try.ntmps33
  go_wp2
  go_ret
  exact ⟨rfl, rfl⟩
theorem refWord_any (s : BitVec 32) (c : BitVec 8) (w : World) : Calls Try.prog 37 #[U32 s, U8 c] w fun e w' => e = .returned (U32 (RollMath.word s c)) ∧ w = w' := by
  rw [← RollMath.word64_is]
  go_enter Try.func37, Try.ntmps37
  go_wp2
  go_ret
  exact ⟨ret_u32 (by simp only [RollMath.word64, BitVec.setWidth_xor]), rfl⟩

theorem sum_step (s : BitVec 32) (l : List (BitVec 8)) (k : Nat) (h : k < l.length) : RollMath.sum s (l.take (k + 1)) = RollMath.rot (RollMath.sum s (l.take k)) 1 ^^^ RollMath.word s (byteAt l k) := by
  rw [take_snoc l k h, RollMath.sum_snoc]

theorem part_step (s : BitVec 32) (l : List (BitVec 8)) (k n : Nat) (hn : n = (l.length - 1 - k) % 32) :
    RollMath.part s l (k + 1) = RollMath.part s l k ^^^ ((RollMath.word s (byteAt l k) <<< n) ||| (RollMath.word s (byteAt l k) >>> (32 - n))) := by
  have hn32 : n < 32 := by omega
  rw [shifts_rot _ n hn32, RollMath.part_succ, hn]; rfl
theorem refSum_some (s : BitVec 32) (b off cap : Nat) (l : List (BitVec 8)) (w : World) (hl : l.length ≤ 9223372036854775807) (hb : BytesAt w b off l) :
    Calls Try.prog 32 #[U32 s, .slice (some ⟨b, off, none⟩) l.length cap] w fun e w' => e = .returned (U32 (RollMath.sum s l)) ∧ w = w' := by
  go_enter Try.func32, Try.ntmps32
  go_wp2
  go_loop [5, 6] (fun x i => ∃ k : Nat, k ≤ l.length ∧ i = .int .i64 k ∧ x = U32 (RollMath.part s l k)) (fun _ i => l.length - (intOf i).toNat)
  case atStart => exact ⟨0, Nat.zero_le _, rfl, rfl⟩
  case round =>
    obtain ⟨k, hk, rfl, rfl⟩ := hrel
    by_cases hlt : k < l.length
    · have hc := hb k hlt
      clear hb
      obtain ⟨n, hn⟩ : ∃ n, n = (l.length - 1 - k) % 32 := ⟨_, rfl⟩
      have HS := Lib.hid (part_step s l k n hn)
      have hn2 : ((l.length : Int) - 1 - (k : Int)) % 32 = (n : Int) := by omega
      have hn3 : n < 32 := by omega
      have h3 : (n : Int) ≤ 32 := by omega
      have h1 : ((32 : Int) - (n : Int)).toNat = 32 - n := by omega
      have HN := Lib.hid hn; clear hn
      generalize RollMath.part s l k = X at *
      generalize byteAt l k = c at *
      go_wp2_with (go_at_call 37; refine (refWord_any _ _ _).mono ?_; rintro e w' ⟨rfl, rfl⟩)
      go_round
      case rel => exact ⟨k + 1, by omega, by go_num, by rw [HS.out]⟩
      case measure => simp [intOf]; omega
    · go_wp2
      go_ret
      exact ⟨ret_u32 (by rw [show k = l.length by omega, RollMath.part_all]), rfl⟩
theorem refSum_none (s : BitVec 32) (a : Option Addr) (cap : Nat) (w : World) : Calls Try.prog 32 #[U32 s, .slice a 0 cap] w fun e w' => e = .returned (U32 (RollMath.sum s [])) ∧ w = w' := by
  go_enter Try.func32, Try.ntmps32
  go_wp2
  refine wp_loop_once ?_
  go_wp2
  go_ret
  exact ⟨rfl, rfl⟩
theorem refRollSum_any (s : BitVec 32) (a : Option Addr) (cap : Nat) (l : List (BitVec 8)) (w : World) (hb : Reads w a cap l) : Calls Try.prog 32 #[U32 s, .slice a l.length cap] w fun e w' => e = .returned (U32 (RollMath.sum s l)) ∧ w = w' := by
  rcases hb.bytes with rfl | ⟨b, off, rfl, h⟩
  · exact refSum_none s a cap w
  · exact refSum_some s b off cap l w hb.len h
end Go.Proofs.Ytbjaeofooaikkaa
