/- Words of 8, 32 and 64 bits as values of the model, and what each operation on them gives: for any program. Rows of bytes in memory, as lists of words of 8 bits: for any program. -/
import Derived.WalkKit
import Derived.WalkLawsBesides
import Derived.WalkSpells
import Derived.Laws.AppendOwnNone
import Derived.WalkSmall
namespace Go.Proofs.YtbicafgmfgdckaaDoor
open Go

theorem ofInt_toNat (n : Nat) (x : BitVec n) : BitVec.ofInt n (x.toNat : Int) = x := by
  rw [BitVec.ofInt_natCast, BitVec.ofNat_toNat, BitVec.setWidth_eq]
theorem wrap_u8_nat (n : Nat) : IntKind.u8.wrap (n : Int) = ((n % 256 : Nat) : Int) := by rw [IntKind.wrap_u8']; omega
theorem wrap_u32_nat (n : Nat) : IntKind.u32.wrap (n : Int) = ((n % 4294967296 : Nat) : Int) := by rw [IntKind.wrap_u32']; omega
theorem wrap_u64_nat (n : Nat) : IntKind.u64.wrap (n : Int) = ((n % 18446744073709551616 : Nat) : Int) := by rw [IntKind.wrap_u64]; omega
theorem wrap_u8_bv (n : Int) : IntKind.u8.wrap n = ((BitVec.ofInt 8 n).toNat : Int) := by rw [IntKind.wrap_u8', BitVec.toNat_ofInt]; omega
theorem wrap_u32_bv (n : Int) : IntKind.u32.wrap n = ((BitVec.ofInt 32 n).toNat : Int) := by rw [IntKind.wrap_u32', BitVec.toNat_ofInt]; omega
theorem wrap_u64_bv (n : Int) : IntKind.u64.wrap n = ((BitVec.ofInt 64 n).toNat : Int) := by rw [IntKind.wrap_u64, BitVec.toNat_ofInt]; omega
/-- A word as a place: under a name of its own, so that nothing turns it. -/
def idx {n : Nat} (x : BitVec n) : Nat := x.toNat
def U8 (x : BitVec 8) : Value := .int .u8 x.toNat
def U32 (x : BitVec 32) : Value := .int .u32 x.toNat
def U64 (x : BitVec 64) : Value := .int .u64 x.toNat


/-! Words of 8 bits. -/
section
variable (t : TypeId) (x y : BitVec 8) (n : Int)
theorem u8_bits (x : BitVec 8) : (U8 x) = .int .u8 x.toNat := rfl
theorem u8_back (r : BitVec 8) : Value.int .u8 (IntKind.wrap .u8 r.toNat) = U8 r := by
  have h := r.isLt
  rw [wrap_u8_nat, Nat.mod_eq_of_lt h]; rfl
theorem u8_and : binOp .and t (U8 x) (U8 y) = pure (U8 (x &&& y)) := by
  have h : binOp .and t (U8 x) (U8 y) = pure (.int .u8 (IntKind.wrap .u8 ((BitVec.ofInt 8 (x.toNat : Int)) &&& (BitVec.ofInt 8 (y.toNat : Int))).toNat)) := rfl
  rw [h, u8_back]; simp only [ofInt_toNat]
attribute [go_sem high] u8_and
theorem u8_andc : binOp .and t (U8 x) (.int .u8 n) = pure (U8 (x &&& BitVec.ofInt 8 n)) := by
  have h : binOp .and t (U8 x) (.int .u8 n) = pure (.int .u8 (IntKind.wrap .u8 ((BitVec.ofInt 8 (x.toNat : Int)) &&& (BitVec.ofInt 8 n)).toNat)) := rfl
  rw [h, u8_back]; simp only [ofInt_toNat]
attribute [go_sem high] u8_andc
theorem u8_andd : binOp .and t (.int .u8 n) (U8 y) = pure (U8 (BitVec.ofInt 8 n &&& y)) := by
  have h : binOp .and t (.int .u8 n) (U8 y) = pure (.int .u8 (IntKind.wrap .u8 ((BitVec.ofInt 8 n) &&& (BitVec.ofInt 8 (y.toNat : Int))).toNat)) := rfl
  rw [h, u8_back]; simp only [ofInt_toNat]
attribute [go_sem high] u8_andd
theorem u8_or : binOp .or t (U8 x) (U8 y) = pure (U8 (x ||| y)) := by
  have h : binOp .or t (U8 x) (U8 y) = pure (.int .u8 (IntKind.wrap .u8 ((BitVec.ofInt 8 (x.toNat : Int)) ||| (BitVec.ofInt 8 (y.toNat : Int))).toNat)) := rfl
  rw [h, u8_back]; simp only [ofInt_toNat]
attribute [go_sem high] u8_or
theorem u8_orc : binOp .or t (U8 x) (.int .u8 n) = pure (U8 (x ||| BitVec.ofInt 8 n)) := by
  have h : binOp .or t (U8 x) (.int .u8 n) = pure (.int .u8 (IntKind.wrap .u8 ((BitVec.ofInt 8 (x.toNat : Int)) ||| (BitVec.ofInt 8 n)).toNat)) := rfl
  rw [h, u8_back]; simp only [ofInt_toNat]
attribute [go_sem high] u8_orc
theorem u8_ord : binOp .or t (.int .u8 n) (U8 y) = pure (U8 (BitVec.ofInt 8 n ||| y)) := by
  have h : binOp .or t (.int .u8 n) (U8 y) = pure (.int .u8 (IntKind.wrap .u8 ((BitVec.ofInt 8 n) ||| (BitVec.ofInt 8 (y.toNat : Int))).toNat)) := rfl
  rw [h, u8_back]; simp only [ofInt_toNat]
attribute [go_sem high] u8_ord
theorem u8_xor : binOp .xor t (U8 x) (U8 y) = pure (U8 (x ^^^ y)) := by
  have h : binOp .xor t (U8 x) (U8 y) = pure (.int .u8 (IntKind.wrap .u8 ((BitVec.ofInt 8 (x.toNat : Int)) ^^^ (BitVec.ofInt 8 (y.toNat : Int))).toNat)) := rfl
  rw [h, u8_back]; simp only [ofInt_toNat]
attribute [go_sem high] u8_xor
theorem u8_xorc : binOp .xor t (U8 x) (.int .u8 n) = pure (U8 (x ^^^ BitVec.ofInt 8 n)) := by
  have h : binOp .xor t (U8 x) (.int .u8 n) = pure (.int .u8 (IntKind.wrap .u8 ((BitVec.ofInt 8 (x.toNat : Int)) ^^^ (BitVec.ofInt 8 n)).toNat)) := rfl
  rw [h, u8_back]; simp only [ofInt_toNat]
attribute [go_sem high] u8_xorc
theorem u8_xord : binOp .xor t (.int .u8 n) (U8 y) = pure (U8 (BitVec.ofInt 8 n ^^^ y)) := by
  have h : binOp .xor t (.int .u8 n) (U8 y) = pure (.int .u8 (IntKind.wrap .u8 ((BitVec.ofInt 8 n) ^^^ (BitVec.ofInt 8 (y.toNat : Int))).toNat)) := rfl
  rw [h, u8_back]; simp only [ofInt_toNat]
attribute [go_sem high] u8_xord
theorem u8_add : binOp .add t (U8 x) (U8 y) = pure (U8 (x + y)) := by
  have e : BitVec.ofInt 8 ((x.toNat : Int) + (y.toNat : Int)) = x + y := by rw [BitVec.ofInt_add]; simp only [ofInt_toNat]
  have h : binOp .add t (U8 x) (U8 y) = pure (.int .u8 (IntKind.wrap .u8 ((x.toNat : Int) + (y.toNat : Int)))) := by simp [binOp, Op.intArith, U8]
  rw [h, wrap_u8_bv, e]; rfl
attribute [go_sem high] u8_add
theorem u8_addc : binOp .add t (U8 x) (.int .u8 n) = pure (U8 (x + BitVec.ofInt 8 n)) := by
  have e : BitVec.ofInt 8 ((x.toNat : Int) + n) = x + BitVec.ofInt 8 n := by rw [BitVec.ofInt_add]; simp only [ofInt_toNat]
  have h : binOp .add t (U8 x) (.int .u8 n) = pure (.int .u8 (IntKind.wrap .u8 ((x.toNat : Int) + n))) := by simp [binOp, Op.intArith, U8]
  rw [h, wrap_u8_bv, e]; rfl
attribute [go_sem high] u8_addc
theorem u8_addd : binOp .add t (.int .u8 n) (U8 y) = pure (U8 (BitVec.ofInt 8 n + y)) := by
  have e : BitVec.ofInt 8 (n + (y.toNat : Int)) = BitVec.ofInt 8 n + y := by rw [BitVec.ofInt_add]; simp only [ofInt_toNat]
  have h : binOp .add t (.int .u8 n) (U8 y) = pure (.int .u8 (IntKind.wrap .u8 (n + (y.toNat : Int)))) := by simp [binOp, Op.intArith, U8]
  rw [h, wrap_u8_bv, e]; rfl
attribute [go_sem high] u8_addd
theorem u8_sub : binOp .sub t (U8 x) (U8 y) = pure (U8 (x - y)) := by
  have e : BitVec.ofInt 8 ((x.toNat : Int) - (y.toNat : Int)) = x - y := by rw [Int.sub_eq_add_neg, BitVec.ofInt_add, BitVec.ofInt_neg, ← BitVec.sub_eq_add_neg]; simp only [ofInt_toNat]
  have h : binOp .sub t (U8 x) (U8 y) = pure (.int .u8 (IntKind.wrap .u8 ((x.toNat : Int) - (y.toNat : Int)))) := by simp [binOp, Op.intArith, U8]
  rw [h, wrap_u8_bv, e]; rfl
attribute [go_sem high] u8_sub
theorem u8_subc : binOp .sub t (U8 x) (.int .u8 n) = pure (U8 (x - BitVec.ofInt 8 n)) := by
  have e : BitVec.ofInt 8 ((x.toNat : Int) - n) = x - BitVec.ofInt 8 n := by rw [Int.sub_eq_add_neg, BitVec.ofInt_add, BitVec.ofInt_neg, ← BitVec.sub_eq_add_neg]; simp only [ofInt_toNat]
  have h : binOp .sub t (U8 x) (.int .u8 n) = pure (.int .u8 (IntKind.wrap .u8 ((x.toNat : Int) - n))) := by simp [binOp, Op.intArith, U8]
  rw [h, wrap_u8_bv, e]; rfl
attribute [go_sem high] u8_subc
theorem u8_subd : binOp .sub t (.int .u8 n) (U8 y) = pure (U8 (BitVec.ofInt 8 n - y)) := by
  have e : BitVec.ofInt 8 (n - (y.toNat : Int)) = BitVec.ofInt 8 n - y := by rw [Int.sub_eq_add_neg, BitVec.ofInt_add, BitVec.ofInt_neg, ← BitVec.sub_eq_add_neg]; simp only [ofInt_toNat]
  have h : binOp .sub t (.int .u8 n) (U8 y) = pure (.int .u8 (IntKind.wrap .u8 (n - (y.toNat : Int)))) := by simp [binOp, Op.intArith, U8]
  rw [h, wrap_u8_bv, e]; rfl
attribute [go_sem high] u8_subd
theorem u8_mul : binOp .mul t (U8 x) (U8 y) = pure (U8 (x * y)) := by
  have e : BitVec.ofInt 8 ((x.toNat : Int) * (y.toNat : Int)) = x * y := by rw [BitVec.ofInt_mul]; simp only [ofInt_toNat]
  have h : binOp .mul t (U8 x) (U8 y) = pure (.int .u8 (IntKind.wrap .u8 ((x.toNat : Int) * (y.toNat : Int)))) := by simp [binOp, Op.intArith, U8]
  rw [h, wrap_u8_bv, e]; rfl
attribute [go_sem high] u8_mul
theorem u8_mulc : binOp .mul t (U8 x) (.int .u8 n) = pure (U8 (x * BitVec.ofInt 8 n)) := by
  have e : BitVec.ofInt 8 ((x.toNat : Int) * n) = x * BitVec.ofInt 8 n := by rw [BitVec.ofInt_mul]; simp only [ofInt_toNat]
  have h : binOp .mul t (U8 x) (.int .u8 n) = pure (.int .u8 (IntKind.wrap .u8 ((x.toNat : Int) * n))) := by simp [binOp, Op.intArith, U8]
  rw [h, wrap_u8_bv, e]; rfl
attribute [go_sem high] u8_mulc
theorem u8_muld : binOp .mul t (.int .u8 n) (U8 y) = pure (U8 (BitVec.ofInt 8 n * y)) := by
  have e : BitVec.ofInt 8 (n * (y.toNat : Int)) = BitVec.ofInt 8 n * y := by rw [BitVec.ofInt_mul]; simp only [ofInt_toNat]
  have h : binOp .mul t (.int .u8 n) (U8 y) = pure (.int .u8 (IntKind.wrap .u8 (n * (y.toNat : Int)))) := by simp [binOp, Op.intArith, U8]
  rw [h, wrap_u8_bv, e]; rfl
attribute [go_sem high] u8_muld
theorem u8_quoc (h0 : 0 < n) (h1 : n < 256) : binOp .quo t (U8 x) (.int .u8 n) = pure (U8 (x / BitVec.ofInt 8 n)) := by
  obtain ⟨m, rfl⟩ := Int.eq_ofNat_of_zero_le (Int.le_of_lt h0)
  have e : (x / BitVec.ofInt 8 (m : Int)).toNat = x.toNat / m := by
    rw [BitVec.toNat_udiv, BitVec.ofInt_natCast, BitVec.toNat_ofNat, Nat.mod_eq_of_lt (show m < 2 ^ 8 by omega)]
  have h : binOp .quo t (U8 x) (.int .u8 (m : Int)) = pure (.int .u8 (IntKind.wrap .u8 ((x.toNat : Int).tdiv m))) := by
    have hm : ¬ (m : Int) = 0 := by omega
    show Op.intDiv .quo .u8 x.toNat (m : Int) = _
    unfold Op.intDiv; rw [if_neg hm]
  rw [h, show ((x.toNat : Int).tdiv m) = ((x.toNat / m : Nat) : Int) from rfl, ← e, u8_back]
theorem u8_remc (h0 : 0 < n) (h1 : n < 256) : binOp .rem t (U8 x) (.int .u8 n) = pure (U8 (x % BitVec.ofInt 8 n)) := by
  obtain ⟨m, rfl⟩ := Int.eq_ofNat_of_zero_le (Int.le_of_lt h0)
  have e : (x % BitVec.ofInt 8 (m : Int)).toNat = x.toNat % m := by
    rw [BitVec.toNat_umod, BitVec.ofInt_natCast, BitVec.toNat_ofNat, Nat.mod_eq_of_lt (show m < 2 ^ 8 by omega)]
  have h : binOp .rem t (U8 x) (.int .u8 (m : Int)) = pure (.int .u8 ((x.toNat : Int).tmod m)) := by
    have hm : ¬ (m : Int) = 0 := by omega
    show Op.intDiv .rem .u8 x.toNat (m : Int) = _
    unfold Op.intDiv; rw [if_neg hm]
  rw [h, show ((x.toNat : Int).tmod m) = ((x.toNat % m : Nat) : Int) from rfl, ← e]; rfl
attribute [go_sem high] u8_quoc u8_remc
theorem u8_shr_nat (yk : IntKind) (m : Nat) : binOp .shr t (U8 x) (.int yk (m : Int)) = pure (U8 (x >>> m)) := by
  have h : binOp .shr t (U8 x) (.int yk (m : Int)) = pure (.int .u8 ((x.toNat : Int) / 2 ^ min m 8)) := by
    show Op.shift .shr .u8 x.toNat yk (m : Int) = _
    rw [shift_shr_any _ _ _ _ (by omega)]; rfl
  have e : ((x.toNat : Int) / 2 ^ min m 8) = (((x >>> m).toNat : Nat) : Int) := by
    have hp : ((2 : Int) ^ min m 8) = ((2 ^ min m 8 : Nat) : Int) := by simp
    rw [hp, BitVec.toNat_ushiftRight, Nat.shiftRight_eq_div_pow, ← Int.natCast_ediv]
    congr 1
    by_cases hm : m ≤ 8
    · rw [Nat.min_eq_left hm]
    · rw [Nat.min_eq_right (by omega), Nat.div_eq_of_lt x.isLt, Nat.div_eq_of_lt]
      exact Nat.lt_of_lt_of_le x.isLt (Nat.pow_le_pow_right (by decide) (by omega))
  rw [h, e]; rfl
theorem u8_shl_nat (yk : IntKind) (m : Nat) : binOp .shl t (U8 x) (.int yk (m : Int)) = pure (U8 (x <<< m)) := by
  have h : binOp .shl t (U8 x) (.int yk (m : Int)) = pure (.int .u8 (IntKind.wrap .u8 ((x.toNat : Int) * 2 ^ min m 8))) := by
    show Op.shift .shl .u8 x.toNat yk (m : Int) = _
    rw [shift_shl_any _ _ _ _ (by omega)]; rfl
  have e : ((x.toNat : Int) * 2 ^ min m 8) = ((x.toNat * 2 ^ min m 8 : Nat) : Int) := by
    have hp : ((2 : Int) ^ min m 8) = ((2 ^ min m 8 : Nat) : Int) := by simp
    rw [hp, Int.natCast_mul]
  have e2 : x.toNat * 2 ^ min m 8 % 256 = (x <<< m).toNat := by
    rw [BitVec.toNat_shiftLeft, Nat.shiftLeft_eq]
    by_cases hm : m ≤ 8
    · rw [Nat.min_eq_left hm]
    · obtain ⟨j, rfl⟩ : ∃ j, m = 8 + j := ⟨m - 8, by omega⟩
      rw [Nat.min_eq_right (by omega), Nat.pow_add, Nat.mul_comm (2 ^ 8) (2 ^ j), ← Nat.mul_assoc, Nat.mul_mod_left]
      exact (Nat.mul_mod_left _ _).symm
  rw [h, e, wrap_u8_nat, e2]; rfl
theorem u8_shrc (yk : IntKind) (h : 0 ≤ n) : binOp .shr t (U8 x) (.int yk n) = pure (U8 (x >>> n.toNat)) := by
  obtain ⟨m, rfl⟩ := Int.eq_ofNat_of_zero_le h
  exact u8_shr_nat t x yk m
theorem u8_shlc (yk : IntKind) (h : 0 ≤ n) : binOp .shl t (U8 x) (.int yk n) = pure (U8 (x <<< n.toNat)) := by
  obtain ⟨m, rfl⟩ := Int.eq_ofNat_of_zero_le h
  exact u8_shl_nat t x yk m
attribute [go_sem high] u8_shrc u8_shlc
theorem u8_shrU (c : BitVec 64) : binOp .shr t (U8 x) (U64 c) = pure (U8 (x >>> c.toNat)) := u8_shr_nat t x .u64 c.toNat
theorem u8_shlU (c : BitVec 64) : binOp .shl t (U8 x) (U64 c) = pure (U8 (x <<< c.toNat)) := u8_shl_nat t x .u64 c.toNat
attribute [go_sem high] u8_shrU u8_shlU
theorem u8_shld (yk : IntKind) (m : Int) (h0 : 0 ≤ n) (h1 : n < 256) (h : 0 ≤ m) : binOp .shl t (.int .u8 n) (.int yk m) = pure (U8 (BitVec.ofInt 8 n <<< m.toNat)) := by
  have e : Value.int .u8 n = U8 (BitVec.ofInt 8 n) := by rw [U8, BitVec.toNat_ofInt]; congr 1; omega
  rw [e]; exact u8_shlc t (BitVec.ofInt 8 n) m yk h
attribute [go_sem high] u8_shld
theorem u8_eql : binOp .eql t (U8 x) (U8 y) = pure (.bool (x == y)) := by
  have h : binOp .eql t (U8 x) (U8 y) = pure (.bool ((x.toNat : Int) == (y.toNat : Int))) := by simp [binOp, Op.intCmp, U8]
  have e : ((x.toNat : Int) == (y.toNat : Int)) = (x == y) := by
    rw [Bool.eq_iff_iff, beq_iff_eq, beq_iff_eq]
    exact ⟨fun e => BitVec.eq_of_toNat_eq (by omega), fun e => by rw [e]⟩
  rw [h, e]
theorem u8_neq : binOp .neq t (U8 x) (U8 y) = pure (.bool (x != y)) := by
  have h : binOp .neq t (U8 x) (U8 y) = pure (.bool ((x.toNat : Int) != (y.toNat : Int))) := by simp [binOp, Op.intCmp, U8]
  have e : ((x.toNat : Int) != (y.toNat : Int)) = (x != y) := by
    rw [Bool.eq_iff_iff, bne_iff_ne, bne_iff_ne]
    exact ⟨fun e f => e (by rw [f]), fun e f => e (BitVec.eq_of_toNat_eq (by omega))⟩
  rw [h, e]
theorem u8_of (h0 : 0 ≤ n) (h1 : n < 256) : Value.int .u8 n = U8 (BitVec.ofInt 8 n) := by
  rw [U8, BitVec.toNat_ofInt]; congr 1; omega
theorem u8_eqlc (h0 : 0 ≤ n) (h1 : n < 256) : binOp .eql t (U8 x) (.int .u8 n) = pure (.bool (x == BitVec.ofInt 8 n)) := by
  rw [u8_of n h0 h1, u8_eql]
theorem u8_neqc (h0 : 0 ≤ n) (h1 : n < 256) : binOp .neq t (U8 x) (.int .u8 n) = pure (.bool (x != BitVec.ofInt 8 n)) := by
  rw [u8_of n h0 h1, u8_neq]
attribute [go_sem high] u8_eql u8_neq u8_eqlc u8_neqc
theorem u8_lss : binOp .lss t (U8 x) (U8 y) = pure (.bool (decide ((x.toNat : Int) < (y.toNat : Int)))) := by simp [binOp, Op.intCmp, U8]
theorem u8_lssc : binOp .lss t (U8 x) (.int .u8 n) = pure (.bool (decide ((x.toNat : Int) < n))) := by simp [binOp, Op.intCmp, U8]
attribute [go_sem high] u8_lss u8_lssc
theorem u8_leq : binOp .leq t (U8 x) (U8 y) = pure (.bool (decide ((x.toNat : Int) ≤ (y.toNat : Int)))) := by simp [binOp, Op.intCmp, U8]
theorem u8_leqc : binOp .leq t (U8 x) (.int .u8 n) = pure (.bool (decide ((x.toNat : Int) ≤ n))) := by simp [binOp, Op.intCmp, U8]
attribute [go_sem high] u8_leq u8_leqc
theorem u8_gtr : binOp .gtr t (U8 x) (U8 y) = pure (.bool (decide ((x.toNat : Int) > (y.toNat : Int)))) := by simp [binOp, Op.intCmp, U8]
theorem u8_gtrc : binOp .gtr t (U8 x) (.int .u8 n) = pure (.bool (decide ((x.toNat : Int) > n))) := by simp [binOp, Op.intCmp, U8]
attribute [go_sem high] u8_gtr u8_gtrc
theorem u8_geq : binOp .geq t (U8 x) (U8 y) = pure (.bool (decide ((x.toNat : Int) ≥ (y.toNat : Int)))) := by simp [binOp, Op.intCmp, U8]
theorem u8_geqc : binOp .geq t (U8 x) (.int .u8 n) = pure (.bool (decide ((x.toNat : Int) ≥ n))) := by simp [binOp, Op.intCmp, U8]
attribute [go_sem high] u8_geq u8_geqc
theorem u8_not : Op.unary .xor (U8 x) = pure (U8 (~~~ x)) := by
  have e : (BitVec.ofInt 8 (IntKind.max .u8)) ^^^ x = ~~~ x := by
    have : (BitVec.ofInt 8 (IntKind.max .u8)) = BitVec.allOnes 8 := by decide
    rw [this, BitVec.allOnes_xor]
  show (pure (Value.int .u8 (IntKind.wrap .u8 ((BitVec.ofInt 8 (IntKind.max .u8)) ^^^ (BitVec.ofInt 8 (x.toNat : Int))).toNat)) : Sem Value) = _
  rw [ofInt_toNat, e, u8_back]
attribute [go_sem high] u8_not
theorem u8_store (P : Program) (w : World) (a : Addr) (m : Go.Mode) : (store a (U8 x) m).run P w = stored P w a (U8 x) m := run_store P w a _ m rfl
attribute [go_sem] u8_store
theorem u8_cells : (U8 x).cells = #[U8 x] := rfl
theorem u8_one : (U8 x).oneCell' = true := rfl
theorem u8_match : Value.cells.match_1 (motive := fun _ => Array Value) (U8 x) (fun cs => cs) (fun v => #[v]) = #[U8 x] := rfl
attribute [go_sem ↓ high] u8_cells u8_one
attribute [go_sem] u8_match
theorem u8_storeVar (a : Addr) : storeVar t a (U8 x) = (do
    if 1 ≠ (← sizeOf t) then stuck "storeVar: the value has not the size of the variable"
    store a (U8 x)) := by
  unfold storeVar
  have e : storeCells a (U8 x).cells.toList = store a (U8 x) := by
    show (store (a.add 0) (U8 x) >>= fun _ => pure ()) = _
    rw [show a.add 0 = a from rfl]
    exact bind_pure_unit
  rw [e]; rfl
attribute [go_sem ↓ high] u8_storeVar
theorem u8_guard (op : BinOp) (p q : Operand) (v : Value) : eqGuard op t p q (U8 x) v = pure () := by
  cases op <;> rfl
attribute [go_sem high] u8_guard
end

/-! Words of 32 bits. -/
section
variable (t : TypeId) (x y : BitVec 32) (n : Int)
theorem u32_bits (x : BitVec 32) : (U32 x) = .int .u32 x.toNat := rfl
theorem u32_back (r : BitVec 32) : Value.int .u32 (IntKind.wrap .u32 r.toNat) = U32 r := by
  have h := r.isLt
  rw [wrap_u32_nat, Nat.mod_eq_of_lt h]; rfl
theorem u32_and : binOp .and t (U32 x) (U32 y) = pure (U32 (x &&& y)) := by
  have h : binOp .and t (U32 x) (U32 y) = pure (.int .u32 (IntKind.wrap .u32 ((BitVec.ofInt 32 (x.toNat : Int)) &&& (BitVec.ofInt 32 (y.toNat : Int))).toNat)) := rfl
  rw [h, u32_back]; simp only [ofInt_toNat]
attribute [go_sem high] u32_and
theorem u32_andc : binOp .and t (U32 x) (.int .u32 n) = pure (U32 (x &&& BitVec.ofInt 32 n)) := by
  have h : binOp .and t (U32 x) (.int .u32 n) = pure (.int .u32 (IntKind.wrap .u32 ((BitVec.ofInt 32 (x.toNat : Int)) &&& (BitVec.ofInt 32 n)).toNat)) := rfl
  rw [h, u32_back]; simp only [ofInt_toNat]
attribute [go_sem high] u32_andc
theorem u32_andd : binOp .and t (.int .u32 n) (U32 y) = pure (U32 (BitVec.ofInt 32 n &&& y)) := by
  have h : binOp .and t (.int .u32 n) (U32 y) = pure (.int .u32 (IntKind.wrap .u32 ((BitVec.ofInt 32 n) &&& (BitVec.ofInt 32 (y.toNat : Int))).toNat)) := rfl
  rw [h, u32_back]; simp only [ofInt_toNat]
attribute [go_sem high] u32_andd
theorem u32_or : binOp .or t (U32 x) (U32 y) = pure (U32 (x ||| y)) := by
  have h : binOp .or t (U32 x) (U32 y) = pure (.int .u32 (IntKind.wrap .u32 ((BitVec.ofInt 32 (x.toNat : Int)) ||| (BitVec.ofInt 32 (y.toNat : Int))).toNat)) := rfl
  rw [h, u32_back]; simp only [ofInt_toNat]
attribute [go_sem high] u32_or
theorem u32_orc : binOp .or t (U32 x) (.int .u32 n) = pure (U32 (x ||| BitVec.ofInt 32 n)) := by
  have h : binOp .or t (U32 x) (.int .u32 n) = pure (.int .u32 (IntKind.wrap .u32 ((BitVec.ofInt 32 (x.toNat : Int)) ||| (BitVec.ofInt 32 n)).toNat)) := rfl
  rw [h, u32_back]; simp only [ofInt_toNat]
attribute [go_sem high] u32_orc
theorem u32_ord : binOp .or t (.int .u32 n) (U32 y) = pure (U32 (BitVec.ofInt 32 n ||| y)) := by
  have h : binOp .or t (.int .u32 n) (U32 y) = pure (.int .u32 (IntKind.wrap .u32 ((BitVec.ofInt 32 n) ||| (BitVec.ofInt 32 (y.toNat : Int))).toNat)) := rfl
  rw [h, u32_back]; simp only [ofInt_toNat]
attribute [go_sem high] u32_ord
theorem u32_xor : binOp .xor t (U32 x) (U32 y) = pure (U32 (x ^^^ y)) := by
  have h : binOp .xor t (U32 x) (U32 y) = pure (.int .u32 (IntKind.wrap .u32 ((BitVec.ofInt 32 (x.toNat : Int)) ^^^ (BitVec.ofInt 32 (y.toNat : Int))).toNat)) := rfl
  rw [h, u32_back]; simp only [ofInt_toNat]
attribute [go_sem high] u32_xor
theorem u32_xorc : binOp .xor t (U32 x) (.int .u32 n) = pure (U32 (x ^^^ BitVec.ofInt 32 n)) := by
  have h : binOp .xor t (U32 x) (.int .u32 n) = pure (.int .u32 (IntKind.wrap .u32 ((BitVec.ofInt 32 (x.toNat : Int)) ^^^ (BitVec.ofInt 32 n)).toNat)) := rfl
  rw [h, u32_back]; simp only [ofInt_toNat]
attribute [go_sem high] u32_xorc
theorem u32_xord : binOp .xor t (.int .u32 n) (U32 y) = pure (U32 (BitVec.ofInt 32 n ^^^ y)) := by
  have h : binOp .xor t (.int .u32 n) (U32 y) = pure (.int .u32 (IntKind.wrap .u32 ((BitVec.ofInt 32 n) ^^^ (BitVec.ofInt 32 (y.toNat : Int))).toNat)) := rfl
  rw [h, u32_back]; simp only [ofInt_toNat]
attribute [go_sem high] u32_xord
theorem u32_add : binOp .add t (U32 x) (U32 y) = pure (U32 (x + y)) := by
  have e : BitVec.ofInt 32 ((x.toNat : Int) + (y.toNat : Int)) = x + y := by rw [BitVec.ofInt_add]; simp only [ofInt_toNat]
  have h : binOp .add t (U32 x) (U32 y) = pure (.int .u32 (IntKind.wrap .u32 ((x.toNat : Int) + (y.toNat : Int)))) := by simp [binOp, Op.intArith, U32]
  rw [h, wrap_u32_bv, e]; rfl
attribute [go_sem high] u32_add
theorem u32_addc : binOp .add t (U32 x) (.int .u32 n) = pure (U32 (x + BitVec.ofInt 32 n)) := by
  have e : BitVec.ofInt 32 ((x.toNat : Int) + n) = x + BitVec.ofInt 32 n := by rw [BitVec.ofInt_add]; simp only [ofInt_toNat]
  have h : binOp .add t (U32 x) (.int .u32 n) = pure (.int .u32 (IntKind.wrap .u32 ((x.toNat : Int) + n))) := by simp [binOp, Op.intArith, U32]
  rw [h, wrap_u32_bv, e]; rfl
attribute [go_sem high] u32_addc
theorem u32_addd : binOp .add t (.int .u32 n) (U32 y) = pure (U32 (BitVec.ofInt 32 n + y)) := by
  have e : BitVec.ofInt 32 (n + (y.toNat : Int)) = BitVec.ofInt 32 n + y := by rw [BitVec.ofInt_add]; simp only [ofInt_toNat]
  have h : binOp .add t (.int .u32 n) (U32 y) = pure (.int .u32 (IntKind.wrap .u32 (n + (y.toNat : Int)))) := by simp [binOp, Op.intArith, U32]
  rw [h, wrap_u32_bv, e]; rfl
attribute [go_sem high] u32_addd
theorem u32_sub : binOp .sub t (U32 x) (U32 y) = pure (U32 (x - y)) := by
  have e : BitVec.ofInt 32 ((x.toNat : Int) - (y.toNat : Int)) = x - y := by rw [Int.sub_eq_add_neg, BitVec.ofInt_add, BitVec.ofInt_neg, ← BitVec.sub_eq_add_neg]; simp only [ofInt_toNat]
  have h : binOp .sub t (U32 x) (U32 y) = pure (.int .u32 (IntKind.wrap .u32 ((x.toNat : Int) - (y.toNat : Int)))) := by simp [binOp, Op.intArith, U32]
  rw [h, wrap_u32_bv, e]; rfl
attribute [go_sem high] u32_sub
theorem u32_subc : binOp .sub t (U32 x) (.int .u32 n) = pure (U32 (x - BitVec.ofInt 32 n)) := by
  have e : BitVec.ofInt 32 ((x.toNat : Int) - n) = x - BitVec.ofInt 32 n := by rw [Int.sub_eq_add_neg, BitVec.ofInt_add, BitVec.ofInt_neg, ← BitVec.sub_eq_add_neg]; simp only [ofInt_toNat]
  have h : binOp .sub t (U32 x) (.int .u32 n) = pure (.int .u32 (IntKind.wrap .u32 ((x.toNat : Int) - n))) := by simp [binOp, Op.intArith, U32]
  rw [h, wrap_u32_bv, e]; rfl
attribute [go_sem high] u32_subc
theorem u32_subd : binOp .sub t (.int .u32 n) (U32 y) = pure (U32 (BitVec.ofInt 32 n - y)) := by
  have e : BitVec.ofInt 32 (n - (y.toNat : Int)) = BitVec.ofInt 32 n - y := by rw [Int.sub_eq_add_neg, BitVec.ofInt_add, BitVec.ofInt_neg, ← BitVec.sub_eq_add_neg]; simp only [ofInt_toNat]
  have h : binOp .sub t (.int .u32 n) (U32 y) = pure (.int .u32 (IntKind.wrap .u32 (n - (y.toNat : Int)))) := by simp [binOp, Op.intArith, U32]
  rw [h, wrap_u32_bv, e]; rfl
attribute [go_sem high] u32_subd
theorem u32_mul : binOp .mul t (U32 x) (U32 y) = pure (U32 (x * y)) := by
  have e : BitVec.ofInt 32 ((x.toNat : Int) * (y.toNat : Int)) = x * y := by rw [BitVec.ofInt_mul]; simp only [ofInt_toNat]
  have h : binOp .mul t (U32 x) (U32 y) = pure (.int .u32 (IntKind.wrap .u32 ((x.toNat : Int) * (y.toNat : Int)))) := by simp [binOp, Op.intArith, U32]
  rw [h, wrap_u32_bv, e]; rfl
attribute [go_sem high] u32_mul
theorem u32_mulc : binOp .mul t (U32 x) (.int .u32 n) = pure (U32 (x * BitVec.ofInt 32 n)) := by
  have e : BitVec.ofInt 32 ((x.toNat : Int) * n) = x * BitVec.ofInt 32 n := by rw [BitVec.ofInt_mul]; simp only [ofInt_toNat]
  have h : binOp .mul t (U32 x) (.int .u32 n) = pure (.int .u32 (IntKind.wrap .u32 ((x.toNat : Int) * n))) := by simp [binOp, Op.intArith, U32]
  rw [h, wrap_u32_bv, e]; rfl
attribute [go_sem high] u32_mulc
theorem u32_muld : binOp .mul t (.int .u32 n) (U32 y) = pure (U32 (BitVec.ofInt 32 n * y)) := by
  have e : BitVec.ofInt 32 (n * (y.toNat : Int)) = BitVec.ofInt 32 n * y := by rw [BitVec.ofInt_mul]; simp only [ofInt_toNat]
  have h : binOp .mul t (.int .u32 n) (U32 y) = pure (.int .u32 (IntKind.wrap .u32 (n * (y.toNat : Int)))) := by simp [binOp, Op.intArith, U32]
  rw [h, wrap_u32_bv, e]; rfl
attribute [go_sem high] u32_muld
theorem u32_quoc (h0 : 0 < n) (h1 : n < 4294967296) : binOp .quo t (U32 x) (.int .u32 n) = pure (U32 (x / BitVec.ofInt 32 n)) := by
  obtain ⟨m, rfl⟩ := Int.eq_ofNat_of_zero_le (Int.le_of_lt h0)
  have e : (x / BitVec.ofInt 32 (m : Int)).toNat = x.toNat / m := by
    rw [BitVec.toNat_udiv, BitVec.ofInt_natCast, BitVec.toNat_ofNat, Nat.mod_eq_of_lt (show m < 2 ^ 32 by omega)]
  have h : binOp .quo t (U32 x) (.int .u32 (m : Int)) = pure (.int .u32 (IntKind.wrap .u32 ((x.toNat : Int).tdiv m))) := by
    have hm : ¬ (m : Int) = 0 := by omega
    show Op.intDiv .quo .u32 x.toNat (m : Int) = _
    unfold Op.intDiv; rw [if_neg hm]
  rw [h, show ((x.toNat : Int).tdiv m) = ((x.toNat / m : Nat) : Int) from rfl, ← e, u32_back]
theorem u32_remc (h0 : 0 < n) (h1 : n < 4294967296) : binOp .rem t (U32 x) (.int .u32 n) = pure (U32 (x % BitVec.ofInt 32 n)) := by
  obtain ⟨m, rfl⟩ := Int.eq_ofNat_of_zero_le (Int.le_of_lt h0)
  have e : (x % BitVec.ofInt 32 (m : Int)).toNat = x.toNat % m := by
    rw [BitVec.toNat_umod, BitVec.ofInt_natCast, BitVec.toNat_ofNat, Nat.mod_eq_of_lt (show m < 2 ^ 32 by omega)]
  have h : binOp .rem t (U32 x) (.int .u32 (m : Int)) = pure (.int .u32 ((x.toNat : Int).tmod m)) := by
    have hm : ¬ (m : Int) = 0 := by omega
    show Op.intDiv .rem .u32 x.toNat (m : Int) = _
    unfold Op.intDiv; rw [if_neg hm]
  rw [h, show ((x.toNat : Int).tmod m) = ((x.toNat % m : Nat) : Int) from rfl, ← e]; rfl
attribute [go_sem high] u32_quoc u32_remc
theorem u32_shr_nat (yk : IntKind) (m : Nat) : binOp .shr t (U32 x) (.int yk (m : Int)) = pure (U32 (x >>> m)) := by
  have h : binOp .shr t (U32 x) (.int yk (m : Int)) = pure (.int .u32 ((x.toNat : Int) / 2 ^ min m 32)) := by
    show Op.shift .shr .u32 x.toNat yk (m : Int) = _
    rw [shift_shr_any _ _ _ _ (by omega)]; rfl
  have e : ((x.toNat : Int) / 2 ^ min m 32) = (((x >>> m).toNat : Nat) : Int) := by
    have hp : ((2 : Int) ^ min m 32) = ((2 ^ min m 32 : Nat) : Int) := by simp
    rw [hp, BitVec.toNat_ushiftRight, Nat.shiftRight_eq_div_pow, ← Int.natCast_ediv]
    congr 1
    by_cases hm : m ≤ 32
    · rw [Nat.min_eq_left hm]
    · rw [Nat.min_eq_right (by omega), Nat.div_eq_of_lt x.isLt, Nat.div_eq_of_lt]
      exact Nat.lt_of_lt_of_le x.isLt (Nat.pow_le_pow_right (by decide) (by omega))
  rw [h, e]; rfl
theorem u32_shl_nat (yk : IntKind) (m : Nat) : binOp .shl t (U32 x) (.int yk (m : Int)) = pure (U32 (x <<< m)) := by
  have h : binOp .shl t (U32 x) (.int yk (m : Int)) = pure (.int .u32 (IntKind.wrap .u32 ((x.toNat : Int) * 2 ^ min m 32))) := by
    show Op.shift .shl .u32 x.toNat yk (m : Int) = _
    rw [shift_shl_any _ _ _ _ (by omega)]; rfl
  have e : ((x.toNat : Int) * 2 ^ min m 32) = ((x.toNat * 2 ^ min m 32 : Nat) : Int) := by
    have hp : ((2 : Int) ^ min m 32) = ((2 ^ min m 32 : Nat) : Int) := by simp
    rw [hp, Int.natCast_mul]
  have e2 : x.toNat * 2 ^ min m 32 % 4294967296 = (x <<< m).toNat := by
    rw [BitVec.toNat_shiftLeft, Nat.shiftLeft_eq]
    by_cases hm : m ≤ 32
    · rw [Nat.min_eq_left hm]
    · obtain ⟨j, rfl⟩ : ∃ j, m = 32 + j := ⟨m - 32, by omega⟩
      rw [Nat.min_eq_right (by omega), Nat.pow_add, Nat.mul_comm (2 ^ 32) (2 ^ j), ← Nat.mul_assoc, Nat.mul_mod_left]
      exact (Nat.mul_mod_left _ _).symm
  rw [h, e, wrap_u32_nat, e2]; rfl
theorem u32_shrc (yk : IntKind) (h : 0 ≤ n) : binOp .shr t (U32 x) (.int yk n) = pure (U32 (x >>> n.toNat)) := by
  obtain ⟨m, rfl⟩ := Int.eq_ofNat_of_zero_le h
  exact u32_shr_nat t x yk m
theorem u32_shlc (yk : IntKind) (h : 0 ≤ n) : binOp .shl t (U32 x) (.int yk n) = pure (U32 (x <<< n.toNat)) := by
  obtain ⟨m, rfl⟩ := Int.eq_ofNat_of_zero_le h
  exact u32_shl_nat t x yk m
attribute [go_sem high] u32_shrc u32_shlc
theorem u32_shrU (c : BitVec 64) : binOp .shr t (U32 x) (U64 c) = pure (U32 (x >>> c.toNat)) := u32_shr_nat t x .u64 c.toNat
theorem u32_shlU (c : BitVec 64) : binOp .shl t (U32 x) (U64 c) = pure (U32 (x <<< c.toNat)) := u32_shl_nat t x .u64 c.toNat
attribute [go_sem high] u32_shrU u32_shlU
theorem u32_shld (yk : IntKind) (m : Int) (h0 : 0 ≤ n) (h1 : n < 4294967296) (h : 0 ≤ m) : binOp .shl t (.int .u32 n) (.int yk m) = pure (U32 (BitVec.ofInt 32 n <<< m.toNat)) := by
  have e : Value.int .u32 n = U32 (BitVec.ofInt 32 n) := by rw [U32, BitVec.toNat_ofInt]; congr 1; omega
  rw [e]; exact u32_shlc t (BitVec.ofInt 32 n) m yk h
attribute [go_sem high] u32_shld
theorem u32_eql : binOp .eql t (U32 x) (U32 y) = pure (.bool (x == y)) := by
  have h : binOp .eql t (U32 x) (U32 y) = pure (.bool ((x.toNat : Int) == (y.toNat : Int))) := by simp [binOp, Op.intCmp, U32]
  have e : ((x.toNat : Int) == (y.toNat : Int)) = (x == y) := by
    rw [Bool.eq_iff_iff, beq_iff_eq, beq_iff_eq]
    exact ⟨fun e => BitVec.eq_of_toNat_eq (by omega), fun e => by rw [e]⟩
  rw [h, e]
theorem u32_neq : binOp .neq t (U32 x) (U32 y) = pure (.bool (x != y)) := by
  have h : binOp .neq t (U32 x) (U32 y) = pure (.bool ((x.toNat : Int) != (y.toNat : Int))) := by simp [binOp, Op.intCmp, U32]
  have e : ((x.toNat : Int) != (y.toNat : Int)) = (x != y) := by
    rw [Bool.eq_iff_iff, bne_iff_ne, bne_iff_ne]
    exact ⟨fun e f => e (by rw [f]), fun e f => e (BitVec.eq_of_toNat_eq (by omega))⟩
  rw [h, e]
theorem u32_of (h0 : 0 ≤ n) (h1 : n < 4294967296) : Value.int .u32 n = U32 (BitVec.ofInt 32 n) := by
  rw [U32, BitVec.toNat_ofInt]; congr 1; omega
theorem u32_eqlc (h0 : 0 ≤ n) (h1 : n < 4294967296) : binOp .eql t (U32 x) (.int .u32 n) = pure (.bool (x == BitVec.ofInt 32 n)) := by
  rw [u32_of n h0 h1, u32_eql]
theorem u32_neqc (h0 : 0 ≤ n) (h1 : n < 4294967296) : binOp .neq t (U32 x) (.int .u32 n) = pure (.bool (x != BitVec.ofInt 32 n)) := by
  rw [u32_of n h0 h1, u32_neq]
attribute [go_sem high] u32_eql u32_neq u32_eqlc u32_neqc
theorem u32_lss : binOp .lss t (U32 x) (U32 y) = pure (.bool (decide ((x.toNat : Int) < (y.toNat : Int)))) := by simp [binOp, Op.intCmp, U32]
theorem u32_lssc : binOp .lss t (U32 x) (.int .u32 n) = pure (.bool (decide ((x.toNat : Int) < n))) := by simp [binOp, Op.intCmp, U32]
attribute [go_sem high] u32_lss u32_lssc
theorem u32_leq : binOp .leq t (U32 x) (U32 y) = pure (.bool (decide ((x.toNat : Int) ≤ (y.toNat : Int)))) := by simp [binOp, Op.intCmp, U32]
theorem u32_leqc : binOp .leq t (U32 x) (.int .u32 n) = pure (.bool (decide ((x.toNat : Int) ≤ n))) := by simp [binOp, Op.intCmp, U32]
attribute [go_sem high] u32_leq u32_leqc
theorem u32_gtr : binOp .gtr t (U32 x) (U32 y) = pure (.bool (decide ((x.toNat : Int) > (y.toNat : Int)))) := by simp [binOp, Op.intCmp, U32]
theorem u32_gtrc : binOp .gtr t (U32 x) (.int .u32 n) = pure (.bool (decide ((x.toNat : Int) > n))) := by simp [binOp, Op.intCmp, U32]
attribute [go_sem high] u32_gtr u32_gtrc
theorem u32_geq : binOp .geq t (U32 x) (U32 y) = pure (.bool (decide ((x.toNat : Int) ≥ (y.toNat : Int)))) := by simp [binOp, Op.intCmp, U32]
theorem u32_geqc : binOp .geq t (U32 x) (.int .u32 n) = pure (.bool (decide ((x.toNat : Int) ≥ n))) := by simp [binOp, Op.intCmp, U32]
attribute [go_sem high] u32_geq u32_geqc
theorem u32_not : Op.unary .xor (U32 x) = pure (U32 (~~~ x)) := by
  have e : (BitVec.ofInt 32 (IntKind.max .u32)) ^^^ x = ~~~ x := by
    have : (BitVec.ofInt 32 (IntKind.max .u32)) = BitVec.allOnes 32 := by decide
    rw [this, BitVec.allOnes_xor]
  show (pure (Value.int .u32 (IntKind.wrap .u32 ((BitVec.ofInt 32 (IntKind.max .u32)) ^^^ (BitVec.ofInt 32 (x.toNat : Int))).toNat)) : Sem Value) = _
  rw [ofInt_toNat, e, u32_back]
attribute [go_sem high] u32_not
theorem u32_store (P : Program) (w : World) (a : Addr) (m : Go.Mode) : (store a (U32 x) m).run P w = stored P w a (U32 x) m := run_store P w a _ m rfl
attribute [go_sem] u32_store
theorem u32_cells : (U32 x).cells = #[U32 x] := rfl
theorem u32_one : (U32 x).oneCell' = true := rfl
theorem u32_match : Value.cells.match_1 (motive := fun _ => Array Value) (U32 x) (fun cs => cs) (fun v => #[v]) = #[U32 x] := rfl
attribute [go_sem ↓ high] u32_cells u32_one
attribute [go_sem] u32_match
theorem u32_storeVar (a : Addr) : storeVar t a (U32 x) = (do
    if 1 ≠ (← sizeOf t) then stuck "storeVar: the value has not the size of the variable"
    store a (U32 x)) := by
  unfold storeVar
  have e : storeCells a (U32 x).cells.toList = store a (U32 x) := by
    show (store (a.add 0) (U32 x) >>= fun _ => pure ()) = _
    rw [show a.add 0 = a from rfl]
    exact bind_pure_unit
  rw [e]; rfl
attribute [go_sem ↓ high] u32_storeVar
theorem u32_guard (op : BinOp) (p q : Operand) (v : Value) : eqGuard op t p q (U32 x) v = pure () := by
  cases op <;> rfl
attribute [go_sem high] u32_guard
end

/-! Words of 64 bits. -/
section
variable (t : TypeId) (x y : BitVec 64) (n : Int)
theorem u64_bits (x : BitVec 64) : (U64 x) = .int .u64 x.toNat := rfl
theorem u64_back (r : BitVec 64) : Value.int .u64 (IntKind.wrap .u64 r.toNat) = U64 r := by
  have h := r.isLt
  rw [wrap_u64_nat, Nat.mod_eq_of_lt h]; rfl
theorem u64_and : binOp .and t (U64 x) (U64 y) = pure (U64 (x &&& y)) := by
  have h : binOp .and t (U64 x) (U64 y) = pure (.int .u64 (IntKind.wrap .u64 ((BitVec.ofInt 64 (x.toNat : Int)) &&& (BitVec.ofInt 64 (y.toNat : Int))).toNat)) := rfl
  rw [h, u64_back]; simp only [ofInt_toNat]
attribute [go_sem high] u64_and
theorem u64_andc : binOp .and t (U64 x) (.int .u64 n) = pure (U64 (x &&& BitVec.ofInt 64 n)) := by
  have h : binOp .and t (U64 x) (.int .u64 n) = pure (.int .u64 (IntKind.wrap .u64 ((BitVec.ofInt 64 (x.toNat : Int)) &&& (BitVec.ofInt 64 n)).toNat)) := rfl
  rw [h, u64_back]; simp only [ofInt_toNat]
attribute [go_sem high] u64_andc
theorem u64_andd : binOp .and t (.int .u64 n) (U64 y) = pure (U64 (BitVec.ofInt 64 n &&& y)) := by
  have h : binOp .and t (.int .u64 n) (U64 y) = pure (.int .u64 (IntKind.wrap .u64 ((BitVec.ofInt 64 n) &&& (BitVec.ofInt 64 (y.toNat : Int))).toNat)) := rfl
  rw [h, u64_back]; simp only [ofInt_toNat]
attribute [go_sem high] u64_andd
theorem u64_or : binOp .or t (U64 x) (U64 y) = pure (U64 (x ||| y)) := by
  have h : binOp .or t (U64 x) (U64 y) = pure (.int .u64 (IntKind.wrap .u64 ((BitVec.ofInt 64 (x.toNat : Int)) ||| (BitVec.ofInt 64 (y.toNat : Int))).toNat)) := rfl
  rw [h, u64_back]; simp only [ofInt_toNat]
attribute [go_sem high] u64_or
theorem u64_orc : binOp .or t (U64 x) (.int .u64 n) = pure (U64 (x ||| BitVec.ofInt 64 n)) := by
  have h : binOp .or t (U64 x) (.int .u64 n) = pure (.int .u64 (IntKind.wrap .u64 ((BitVec.ofInt 64 (x.toNat : Int)) ||| (BitVec.ofInt 64 n)).toNat)) := rfl
  rw [h, u64_back]; simp only [ofInt_toNat]
attribute [go_sem high] u64_orc
theorem u64_ord : binOp .or t (.int .u64 n) (U64 y) = pure (U64 (BitVec.ofInt 64 n ||| y)) := by
  have h : binOp .or t (.int .u64 n) (U64 y) = pure (.int .u64 (IntKind.wrap .u64 ((BitVec.ofInt 64 n) ||| (BitVec.ofInt 64 (y.toNat : Int))).toNat)) := rfl
  rw [h, u64_back]; simp only [ofInt_toNat]
attribute [go_sem high] u64_ord
theorem u64_xor : binOp .xor t (U64 x) (U64 y) = pure (U64 (x ^^^ y)) := by
  have h : binOp .xor t (U64 x) (U64 y) = pure (.int .u64 (IntKind.wrap .u64 ((BitVec.ofInt 64 (x.toNat : Int)) ^^^ (BitVec.ofInt 64 (y.toNat : Int))).toNat)) := rfl
  rw [h, u64_back]; simp only [ofInt_toNat]
attribute [go_sem high] u64_xor
theorem u64_xorc : binOp .xor t (U64 x) (.int .u64 n) = pure (U64 (x ^^^ BitVec.ofInt 64 n)) := by
  have h : binOp .xor t (U64 x) (.int .u64 n) = pure (.int .u64 (IntKind.wrap .u64 ((BitVec.ofInt 64 (x.toNat : Int)) ^^^ (BitVec.ofInt 64 n)).toNat)) := rfl
  rw [h, u64_back]; simp only [ofInt_toNat]
attribute [go_sem high] u64_xorc
theorem u64_xord : binOp .xor t (.int .u64 n) (U64 y) = pure (U64 (BitVec.ofInt 64 n ^^^ y)) := by
  have h : binOp .xor t (.int .u64 n) (U64 y) = pure (.int .u64 (IntKind.wrap .u64 ((BitVec.ofInt 64 n) ^^^ (BitVec.ofInt 64 (y.toNat : Int))).toNat)) := rfl
  rw [h, u64_back]; simp only [ofInt_toNat]
attribute [go_sem high] u64_xord
theorem u64_add : binOp .add t (U64 x) (U64 y) = pure (U64 (x + y)) := by
  have e : BitVec.ofInt 64 ((x.toNat : Int) + (y.toNat : Int)) = x + y := by rw [BitVec.ofInt_add]; simp only [ofInt_toNat]
  have h : binOp .add t (U64 x) (U64 y) = pure (.int .u64 (IntKind.wrap .u64 ((x.toNat : Int) + (y.toNat : Int)))) := by simp [binOp, Op.intArith, U64]
  rw [h, wrap_u64_bv, e]; rfl
attribute [go_sem high] u64_add
theorem u64_addc : binOp .add t (U64 x) (.int .u64 n) = pure (U64 (x + BitVec.ofInt 64 n)) := by
  have e : BitVec.ofInt 64 ((x.toNat : Int) + n) = x + BitVec.ofInt 64 n := by rw [BitVec.ofInt_add]; simp only [ofInt_toNat]
  have h : binOp .add t (U64 x) (.int .u64 n) = pure (.int .u64 (IntKind.wrap .u64 ((x.toNat : Int) + n))) := by simp [binOp, Op.intArith, U64]
  rw [h, wrap_u64_bv, e]; rfl
attribute [go_sem high] u64_addc
theorem u64_addd : binOp .add t (.int .u64 n) (U64 y) = pure (U64 (BitVec.ofInt 64 n + y)) := by
  have e : BitVec.ofInt 64 (n + (y.toNat : Int)) = BitVec.ofInt 64 n + y := by rw [BitVec.ofInt_add]; simp only [ofInt_toNat]
  have h : binOp .add t (.int .u64 n) (U64 y) = pure (.int .u64 (IntKind.wrap .u64 (n + (y.toNat : Int)))) := by simp [binOp, Op.intArith, U64]
  rw [h, wrap_u64_bv, e]; rfl
attribute [go_sem high] u64_addd
theorem u64_sub : binOp .sub t (U64 x) (U64 y) = pure (U64 (x - y)) := by
  have e : BitVec.ofInt 64 ((x.toNat : Int) - (y.toNat : Int)) = x - y := by rw [Int.sub_eq_add_neg, BitVec.ofInt_add, BitVec.ofInt_neg, ← BitVec.sub_eq_add_neg]; simp only [ofInt_toNat]
  have h : binOp .sub t (U64 x) (U64 y) = pure (.int .u64 (IntKind.wrap .u64 ((x.toNat : Int) - (y.toNat : Int)))) := by simp [binOp, Op.intArith, U64]
  rw [h, wrap_u64_bv, e]; rfl
attribute [go_sem high] u64_sub
theorem u64_subc : binOp .sub t (U64 x) (.int .u64 n) = pure (U64 (x - BitVec.ofInt 64 n)) := by
  have e : BitVec.ofInt 64 ((x.toNat : Int) - n) = x - BitVec.ofInt 64 n := by rw [Int.sub_eq_add_neg, BitVec.ofInt_add, BitVec.ofInt_neg, ← BitVec.sub_eq_add_neg]; simp only [ofInt_toNat]
  have h : binOp .sub t (U64 x) (.int .u64 n) = pure (.int .u64 (IntKind.wrap .u64 ((x.toNat : Int) - n))) := by simp [binOp, Op.intArith, U64]
  rw [h, wrap_u64_bv, e]; rfl
attribute [go_sem high] u64_subc
theorem u64_subd : binOp .sub t (.int .u64 n) (U64 y) = pure (U64 (BitVec.ofInt 64 n - y)) := by
  have e : BitVec.ofInt 64 (n - (y.toNat : Int)) = BitVec.ofInt 64 n - y := by rw [Int.sub_eq_add_neg, BitVec.ofInt_add, BitVec.ofInt_neg, ← BitVec.sub_eq_add_neg]; simp only [ofInt_toNat]
  have h : binOp .sub t (.int .u64 n) (U64 y) = pure (.int .u64 (IntKind.wrap .u64 (n - (y.toNat : Int)))) := by simp [binOp, Op.intArith, U64]
  rw [h, wrap_u64_bv, e]; rfl
attribute [go_sem high] u64_subd
theorem u64_mul : binOp .mul t (U64 x) (U64 y) = pure (U64 (x * y)) := by
  have e : BitVec.ofInt 64 ((x.toNat : Int) * (y.toNat : Int)) = x * y := by rw [BitVec.ofInt_mul]; simp only [ofInt_toNat]
  have h : binOp .mul t (U64 x) (U64 y) = pure (.int .u64 (IntKind.wrap .u64 ((x.toNat : Int) * (y.toNat : Int)))) := by simp [binOp, Op.intArith, U64]
  rw [h, wrap_u64_bv, e]; rfl
attribute [go_sem high] u64_mul
theorem u64_mulc : binOp .mul t (U64 x) (.int .u64 n) = pure (U64 (x * BitVec.ofInt 64 n)) := by
  have e : BitVec.ofInt 64 ((x.toNat : Int) * n) = x * BitVec.ofInt 64 n := by rw [BitVec.ofInt_mul]; simp only [ofInt_toNat]
  have h : binOp .mul t (U64 x) (.int .u64 n) = pure (.int .u64 (IntKind.wrap .u64 ((x.toNat : Int) * n))) := by simp [binOp, Op.intArith, U64]
  rw [h, wrap_u64_bv, e]; rfl
attribute [go_sem high] u64_mulc
theorem u64_muld : binOp .mul t (.int .u64 n) (U64 y) = pure (U64 (BitVec.ofInt 64 n * y)) := by
  have e : BitVec.ofInt 64 (n * (y.toNat : Int)) = BitVec.ofInt 64 n * y := by rw [BitVec.ofInt_mul]; simp only [ofInt_toNat]
  have h : binOp .mul t (.int .u64 n) (U64 y) = pure (.int .u64 (IntKind.wrap .u64 (n * (y.toNat : Int)))) := by simp [binOp, Op.intArith, U64]
  rw [h, wrap_u64_bv, e]; rfl
attribute [go_sem high] u64_muld
theorem u64_quoc (h0 : 0 < n) (h1 : n < 18446744073709551616) : binOp .quo t (U64 x) (.int .u64 n) = pure (U64 (x / BitVec.ofInt 64 n)) := by
  obtain ⟨m, rfl⟩ := Int.eq_ofNat_of_zero_le (Int.le_of_lt h0)
  have e : (x / BitVec.ofInt 64 (m : Int)).toNat = x.toNat / m := by
    rw [BitVec.toNat_udiv, BitVec.ofInt_natCast, BitVec.toNat_ofNat, Nat.mod_eq_of_lt (show m < 2 ^ 64 by omega)]
  have h : binOp .quo t (U64 x) (.int .u64 (m : Int)) = pure (.int .u64 (IntKind.wrap .u64 ((x.toNat : Int).tdiv m))) := by
    have hm : ¬ (m : Int) = 0 := by omega
    show Op.intDiv .quo .u64 x.toNat (m : Int) = _
    unfold Op.intDiv; rw [if_neg hm]
  rw [h, show ((x.toNat : Int).tdiv m) = ((x.toNat / m : Nat) : Int) from rfl, ← e, u64_back]
theorem u64_remc (h0 : 0 < n) (h1 : n < 18446744073709551616) : binOp .rem t (U64 x) (.int .u64 n) = pure (U64 (x % BitVec.ofInt 64 n)) := by
  obtain ⟨m, rfl⟩ := Int.eq_ofNat_of_zero_le (Int.le_of_lt h0)
  have e : (x % BitVec.ofInt 64 (m : Int)).toNat = x.toNat % m := by
    rw [BitVec.toNat_umod, BitVec.ofInt_natCast, BitVec.toNat_ofNat, Nat.mod_eq_of_lt (show m < 2 ^ 64 by omega)]
  have h : binOp .rem t (U64 x) (.int .u64 (m : Int)) = pure (.int .u64 ((x.toNat : Int).tmod m)) := by
    have hm : ¬ (m : Int) = 0 := by omega
    show Op.intDiv .rem .u64 x.toNat (m : Int) = _
    unfold Op.intDiv; rw [if_neg hm]
  rw [h, show ((x.toNat : Int).tmod m) = ((x.toNat % m : Nat) : Int) from rfl, ← e]; rfl
attribute [go_sem high] u64_quoc u64_remc
theorem u64_shr_nat (yk : IntKind) (m : Nat) : binOp .shr t (U64 x) (.int yk (m : Int)) = pure (U64 (x >>> m)) := by
  have h : binOp .shr t (U64 x) (.int yk (m : Int)) = pure (.int .u64 ((x.toNat : Int) / 2 ^ min m 64)) := by
    show Op.shift .shr .u64 x.toNat yk (m : Int) = _
    rw [shift_shr_any _ _ _ _ (by omega)]; rfl
  have e : ((x.toNat : Int) / 2 ^ min m 64) = (((x >>> m).toNat : Nat) : Int) := by
    have hp : ((2 : Int) ^ min m 64) = ((2 ^ min m 64 : Nat) : Int) := by simp
    rw [hp, BitVec.toNat_ushiftRight, Nat.shiftRight_eq_div_pow, ← Int.natCast_ediv]
    congr 1
    by_cases hm : m ≤ 64
    · rw [Nat.min_eq_left hm]
    · rw [Nat.min_eq_right (by omega), Nat.div_eq_of_lt x.isLt, Nat.div_eq_of_lt]
      exact Nat.lt_of_lt_of_le x.isLt (Nat.pow_le_pow_right (by decide) (by omega))
  rw [h, e]; rfl
theorem u64_shl_nat (yk : IntKind) (m : Nat) : binOp .shl t (U64 x) (.int yk (m : Int)) = pure (U64 (x <<< m)) := by
  have h : binOp .shl t (U64 x) (.int yk (m : Int)) = pure (.int .u64 (IntKind.wrap .u64 ((x.toNat : Int) * 2 ^ min m 64))) := by
    show Op.shift .shl .u64 x.toNat yk (m : Int) = _
    rw [shift_shl_any _ _ _ _ (by omega)]; rfl
  have e : ((x.toNat : Int) * 2 ^ min m 64) = ((x.toNat * 2 ^ min m 64 : Nat) : Int) := by
    have hp : ((2 : Int) ^ min m 64) = ((2 ^ min m 64 : Nat) : Int) := by simp
    rw [hp, Int.natCast_mul]
  have e2 : x.toNat * 2 ^ min m 64 % 18446744073709551616 = (x <<< m).toNat := by
    rw [BitVec.toNat_shiftLeft, Nat.shiftLeft_eq]
    by_cases hm : m ≤ 64
    · rw [Nat.min_eq_left hm]
    · obtain ⟨j, rfl⟩ : ∃ j, m = 64 + j := ⟨m - 64, by omega⟩
      rw [Nat.min_eq_right (by omega), Nat.pow_add, Nat.mul_comm (2 ^ 64) (2 ^ j), ← Nat.mul_assoc, Nat.mul_mod_left]
      exact (Nat.mul_mod_left _ _).symm
  rw [h, e, wrap_u64_nat, e2]; rfl
theorem u64_shrc (yk : IntKind) (h : 0 ≤ n) : binOp .shr t (U64 x) (.int yk n) = pure (U64 (x >>> n.toNat)) := by
  obtain ⟨m, rfl⟩ := Int.eq_ofNat_of_zero_le h
  exact u64_shr_nat t x yk m
theorem u64_shlc (yk : IntKind) (h : 0 ≤ n) : binOp .shl t (U64 x) (.int yk n) = pure (U64 (x <<< n.toNat)) := by
  obtain ⟨m, rfl⟩ := Int.eq_ofNat_of_zero_le h
  exact u64_shl_nat t x yk m
attribute [go_sem high] u64_shrc u64_shlc
theorem u64_shrU (c : BitVec 64) : binOp .shr t (U64 x) (U64 c) = pure (U64 (x >>> c.toNat)) := u64_shr_nat t x .u64 c.toNat
theorem u64_shlU (c : BitVec 64) : binOp .shl t (U64 x) (U64 c) = pure (U64 (x <<< c.toNat)) := u64_shl_nat t x .u64 c.toNat
attribute [go_sem high] u64_shrU u64_shlU
theorem u64_shld (yk : IntKind) (m : Int) (h0 : 0 ≤ n) (h1 : n < 18446744073709551616) (h : 0 ≤ m) : binOp .shl t (.int .u64 n) (.int yk m) = pure (U64 (BitVec.ofInt 64 n <<< m.toNat)) := by
  have e : Value.int .u64 n = U64 (BitVec.ofInt 64 n) := by rw [U64, BitVec.toNat_ofInt]; congr 1; omega
  rw [e]; exact u64_shlc t (BitVec.ofInt 64 n) m yk h
attribute [go_sem high] u64_shld
theorem u64_eql : binOp .eql t (U64 x) (U64 y) = pure (.bool (x == y)) := by
  have h : binOp .eql t (U64 x) (U64 y) = pure (.bool ((x.toNat : Int) == (y.toNat : Int))) := by simp [binOp, Op.intCmp, U64]
  have e : ((x.toNat : Int) == (y.toNat : Int)) = (x == y) := by
    rw [Bool.eq_iff_iff, beq_iff_eq, beq_iff_eq]
    exact ⟨fun e => BitVec.eq_of_toNat_eq (by omega), fun e => by rw [e]⟩
  rw [h, e]
theorem u64_neq : binOp .neq t (U64 x) (U64 y) = pure (.bool (x != y)) := by
  have h : binOp .neq t (U64 x) (U64 y) = pure (.bool ((x.toNat : Int) != (y.toNat : Int))) := by simp [binOp, Op.intCmp, U64]
  have e : ((x.toNat : Int) != (y.toNat : Int)) = (x != y) := by
    rw [Bool.eq_iff_iff, bne_iff_ne, bne_iff_ne]
    exact ⟨fun e f => e (by rw [f]), fun e f => e (BitVec.eq_of_toNat_eq (by omega))⟩
  rw [h, e]
theorem u64_of (h0 : 0 ≤ n) (h1 : n < 18446744073709551616) : Value.int .u64 n = U64 (BitVec.ofInt 64 n) := by
  rw [U64, BitVec.toNat_ofInt]; congr 1; omega
theorem u64_eqlc (h0 : 0 ≤ n) (h1 : n < 18446744073709551616) : binOp .eql t (U64 x) (.int .u64 n) = pure (.bool (x == BitVec.ofInt 64 n)) := by
  rw [u64_of n h0 h1, u64_eql]
theorem u64_neqc (h0 : 0 ≤ n) (h1 : n < 18446744073709551616) : binOp .neq t (U64 x) (.int .u64 n) = pure (.bool (x != BitVec.ofInt 64 n)) := by
  rw [u64_of n h0 h1, u64_neq]
attribute [go_sem high] u64_eql u64_neq u64_eqlc u64_neqc
theorem u64_lss : binOp .lss t (U64 x) (U64 y) = pure (.bool (decide ((x.toNat : Int) < (y.toNat : Int)))) := by simp [binOp, Op.intCmp, U64]
theorem u64_lssc : binOp .lss t (U64 x) (.int .u64 n) = pure (.bool (decide ((x.toNat : Int) < n))) := by simp [binOp, Op.intCmp, U64]
attribute [go_sem high] u64_lss u64_lssc
theorem u64_leq : binOp .leq t (U64 x) (U64 y) = pure (.bool (decide ((x.toNat : Int) ≤ (y.toNat : Int)))) := by simp [binOp, Op.intCmp, U64]
theorem u64_leqc : binOp .leq t (U64 x) (.int .u64 n) = pure (.bool (decide ((x.toNat : Int) ≤ n))) := by simp [binOp, Op.intCmp, U64]
attribute [go_sem high] u64_leq u64_leqc
theorem u64_gtr : binOp .gtr t (U64 x) (U64 y) = pure (.bool (decide ((x.toNat : Int) > (y.toNat : Int)))) := by simp [binOp, Op.intCmp, U64]
theorem u64_gtrc : binOp .gtr t (U64 x) (.int .u64 n) = pure (.bool (decide ((x.toNat : Int) > n))) := by simp [binOp, Op.intCmp, U64]
attribute [go_sem high] u64_gtr u64_gtrc
theorem u64_geq : binOp .geq t (U64 x) (U64 y) = pure (.bool (decide ((x.toNat : Int) ≥ (y.toNat : Int)))) := by simp [binOp, Op.intCmp, U64]
theorem u64_geqc : binOp .geq t (U64 x) (.int .u64 n) = pure (.bool (decide ((x.toNat : Int) ≥ n))) := by simp [binOp, Op.intCmp, U64]
attribute [go_sem high] u64_geq u64_geqc
theorem u64_not : Op.unary .xor (U64 x) = pure (U64 (~~~ x)) := by
  have e : (BitVec.ofInt 64 (IntKind.max .u64)) ^^^ x = ~~~ x := by
    have : (BitVec.ofInt 64 (IntKind.max .u64)) = BitVec.allOnes 64 := by decide
    rw [this, BitVec.allOnes_xor]
  show (pure (Value.int .u64 (IntKind.wrap .u64 ((BitVec.ofInt 64 (IntKind.max .u64)) ^^^ (BitVec.ofInt 64 (x.toNat : Int))).toNat)) : Sem Value) = _
  rw [ofInt_toNat, e, u64_back]
attribute [go_sem high] u64_not
theorem u64_store (P : Program) (w : World) (a : Addr) (m : Go.Mode) : (store a (U64 x) m).run P w = stored P w a (U64 x) m := run_store P w a _ m rfl
attribute [go_sem] u64_store
theorem u64_cells : (U64 x).cells = #[U64 x] := rfl
theorem u64_one : (U64 x).oneCell' = true := rfl
theorem u64_match : Value.cells.match_1 (motive := fun _ => Array Value) (U64 x) (fun cs => cs) (fun v => #[v]) = #[U64 x] := rfl
attribute [go_sem ↓ high] u64_cells u64_one
attribute [go_sem] u64_match
theorem u64_storeVar (a : Addr) : storeVar t a (U64 x) = (do
    if 1 ≠ (← sizeOf t) then stuck "storeVar: the value has not the size of the variable"
    store a (U64 x)) := by
  unfold storeVar
  have e : storeCells a (U64 x).cells.toList = store a (U64 x) := by
    show (store (a.add 0) (U64 x) >>= fun _ => pure ()) = _
    rw [show a.add 0 = a from rfl]
    exact bind_pure_unit
  rw [e]; rfl
attribute [go_sem ↓ high] u64_storeVar
theorem u64_guard (op : BinOp) (p q : Operand) (v : Value) : eqGuard op t p q (U64 x) v = pure () := by
  cases op <;> rfl
attribute [go_sem high] u64_guard
end

/-! From width to width. -/
section
variable (P : Program) (w : World) (src dst : TypeId)
theorem conv_8_8 (x : BitVec 8) (hs : (P.underlying src).isSome = true) (hd : P.underlying dst = some (.int .u8)) : (convert src dst (U8 x)).run P w = .ok (U8 (x.setWidth 8)) w := by
  have hk : P.intKind dst = .u8 := by simp [Program.intKind, hd]
  have h := run_convert_int (P := P) w src dst .u8 x.toNat hs (by rw [hk]; exact hd)
  rw [hk] at h
  rw [U8, h, wrap_u8_bv]
  have e : BitVec.ofInt 8 (x.toNat : Int) = x.setWidth 8 := by rw [BitVec.ofInt_natCast, BitVec.ofNat_toNat]
  rw [e]; rfl
attribute [go_sem high] conv_8_8
theorem conv_8_32 (x : BitVec 8) (hs : (P.underlying src).isSome = true) (hd : P.underlying dst = some (.int .u32)) : (convert src dst (U8 x)).run P w = .ok (U32 (x.setWidth 32)) w := by
  have hk : P.intKind dst = .u32 := by simp [Program.intKind, hd]
  have h := run_convert_int (P := P) w src dst .u8 x.toNat hs (by rw [hk]; exact hd)
  rw [hk] at h
  rw [U8, h, wrap_u32_bv]
  have e : BitVec.ofInt 32 (x.toNat : Int) = x.setWidth 32 := by rw [BitVec.ofInt_natCast, BitVec.ofNat_toNat]
  rw [e]; rfl
attribute [go_sem high] conv_8_32
theorem conv_8_64 (x : BitVec 8) (hs : (P.underlying src).isSome = true) (hd : P.underlying dst = some (.int .u64)) : (convert src dst (U8 x)).run P w = .ok (U64 (x.setWidth 64)) w := by
  have hk : P.intKind dst = .u64 := by simp [Program.intKind, hd]
  have h := run_convert_int (P := P) w src dst .u8 x.toNat hs (by rw [hk]; exact hd)
  rw [hk] at h
  rw [U8, h, wrap_u64_bv]
  have e : BitVec.ofInt 64 (x.toNat : Int) = x.setWidth 64 := by rw [BitVec.ofInt_natCast, BitVec.ofNat_toNat]
  rw [e]; rfl
attribute [go_sem high] conv_8_64
theorem conv_32_8 (x : BitVec 32) (hs : (P.underlying src).isSome = true) (hd : P.underlying dst = some (.int .u8)) : (convert src dst (U32 x)).run P w = .ok (U8 (x.setWidth 8)) w := by
  have hk : P.intKind dst = .u8 := by simp [Program.intKind, hd]
  have h := run_convert_int (P := P) w src dst .u32 x.toNat hs (by rw [hk]; exact hd)
  rw [hk] at h
  rw [U32, h, wrap_u8_bv]
  have e : BitVec.ofInt 8 (x.toNat : Int) = x.setWidth 8 := by rw [BitVec.ofInt_natCast, BitVec.ofNat_toNat]
  rw [e]; rfl
attribute [go_sem high] conv_32_8
theorem conv_32_32 (x : BitVec 32) (hs : (P.underlying src).isSome = true) (hd : P.underlying dst = some (.int .u32)) : (convert src dst (U32 x)).run P w = .ok (U32 (x.setWidth 32)) w := by
  have hk : P.intKind dst = .u32 := by simp [Program.intKind, hd]
  have h := run_convert_int (P := P) w src dst .u32 x.toNat hs (by rw [hk]; exact hd)
  rw [hk] at h
  rw [U32, h, wrap_u32_bv]
  have e : BitVec.ofInt 32 (x.toNat : Int) = x.setWidth 32 := by rw [BitVec.ofInt_natCast, BitVec.ofNat_toNat]
  rw [e]; rfl
attribute [go_sem high] conv_32_32
theorem conv_32_64 (x : BitVec 32) (hs : (P.underlying src).isSome = true) (hd : P.underlying dst = some (.int .u64)) : (convert src dst (U32 x)).run P w = .ok (U64 (x.setWidth 64)) w := by
  have hk : P.intKind dst = .u64 := by simp [Program.intKind, hd]
  have h := run_convert_int (P := P) w src dst .u32 x.toNat hs (by rw [hk]; exact hd)
  rw [hk] at h
  rw [U32, h, wrap_u64_bv]
  have e : BitVec.ofInt 64 (x.toNat : Int) = x.setWidth 64 := by rw [BitVec.ofInt_natCast, BitVec.ofNat_toNat]
  rw [e]; rfl
attribute [go_sem high] conv_32_64
theorem conv_64_8 (x : BitVec 64) (hs : (P.underlying src).isSome = true) (hd : P.underlying dst = some (.int .u8)) : (convert src dst (U64 x)).run P w = .ok (U8 (x.setWidth 8)) w := by
  have hk : P.intKind dst = .u8 := by simp [Program.intKind, hd]
  have h := run_convert_int (P := P) w src dst .u64 x.toNat hs (by rw [hk]; exact hd)
  rw [hk] at h
  rw [U64, h, wrap_u8_bv]
  have e : BitVec.ofInt 8 (x.toNat : Int) = x.setWidth 8 := by rw [BitVec.ofInt_natCast, BitVec.ofNat_toNat]
  rw [e]; rfl
attribute [go_sem high] conv_64_8
theorem conv_64_32 (x : BitVec 64) (hs : (P.underlying src).isSome = true) (hd : P.underlying dst = some (.int .u32)) : (convert src dst (U64 x)).run P w = .ok (U32 (x.setWidth 32)) w := by
  have hk : P.intKind dst = .u32 := by simp [Program.intKind, hd]
  have h := run_convert_int (P := P) w src dst .u64 x.toNat hs (by rw [hk]; exact hd)
  rw [hk] at h
  rw [U64, h, wrap_u32_bv]
  have e : BitVec.ofInt 32 (x.toNat : Int) = x.setWidth 32 := by rw [BitVec.ofInt_natCast, BitVec.ofNat_toNat]
  rw [e]; rfl
attribute [go_sem high] conv_64_32
theorem conv_64_64 (x : BitVec 64) (hs : (P.underlying src).isSome = true) (hd : P.underlying dst = some (.int .u64)) : (convert src dst (U64 x)).run P w = .ok (U64 (x.setWidth 64)) w := by
  have hk : P.intKind dst = .u64 := by simp [Program.intKind, hd]
  have h := run_convert_int (P := P) w src dst .u64 x.toNat hs (by rw [hk]; exact hd)
  rw [hk] at h
  rw [U64, h, wrap_u64_bv]
  have e : BitVec.ofInt 64 (x.toNat : Int) = x.setWidth 64 := by rw [BitVec.ofInt_natCast, BitVec.ofNat_toNat]
  rw [e]; rfl
attribute [go_sem high] conv_64_64
theorem conv_8_i64 (x : BitVec 8) (hs : (P.underlying src).isSome = true) (hd : P.underlying dst = some (.int .i64)) : (convert src dst (U8 x)).run P w = .ok (.int .i64 x.toNat) w := by
  have hk : P.intKind dst = .i64 := by simp [Program.intKind, hd]
  have h := run_convert_int (P := P) w src dst .u8 x.toNat hs (by rw [hk]; exact hd)
  have hx := x.isLt
  rw [hk, IntWalk.i64_in _ (by omega)] at h
  exact h
attribute [go_sem high] conv_8_i64
theorem conv_32_i64 (x : BitVec 32) (hs : (P.underlying src).isSome = true) (hd : P.underlying dst = some (.int .i64)) : (convert src dst (U32 x)).run P w = .ok (.int .i64 x.toNat) w := by
  have hk : P.intKind dst = .i64 := by simp [Program.intKind, hd]
  have h := run_convert_int (P := P) w src dst .u32 x.toNat hs (by rw [hk]; exact hd)
  have hx := x.isLt
  rw [hk, IntWalk.i64_in _ (by omega)] at h
  exact h
attribute [go_sem high] conv_32_i64
end

/-! Places. -/
section
variable {P : Program} (w : World)
theorem indexAt_slice_8 (t : TypeId) (a : Addr) (len cap : Nat) (i : BitVec 8) (h : P.underlying t = some (.slice (P.elem t))) (hi : idx i < len) :
    (Instr.indexAt t (.slice (some a) len cap) (U8 i)).run P w = ((sizeOf (P.elem t)).run P w).andThen fun s w => .ok (.pointer (some (a.add (idx i * s)))) w := by
  rw [U8, run_indexAt_slice w t a len cap .u8 i.toNat h, if_pos (by unfold idx at hi; omega)]; rfl
theorem indexAt_array_8 (t : TypeId) (a : Addr) (i : BitVec 8) (h : P.underlying t = some (.array (P.arrayLen t) (P.elem t))) (hi : idx i < P.arrayLen t) :
    (Instr.indexAt t (.pointer (some a)) (U8 i)).run P w = ((sizeOf (P.elem t)).run P w).andThen fun s w => .ok (.pointer (some (a.add (idx i * s)))) w := by
  rw [U8, run_indexAt_array w t a .u8 i.toNat h, if_pos (by unfold idx at hi; omega)]; rfl
attribute [go_sem high] indexAt_slice_8 indexAt_array_8
theorem indexAt_slice_32 (t : TypeId) (a : Addr) (len cap : Nat) (i : BitVec 32) (h : P.underlying t = some (.slice (P.elem t))) (hi : idx i < len) :
    (Instr.indexAt t (.slice (some a) len cap) (U32 i)).run P w = ((sizeOf (P.elem t)).run P w).andThen fun s w => .ok (.pointer (some (a.add (idx i * s)))) w := by
  rw [U32, run_indexAt_slice w t a len cap .u32 i.toNat h, if_pos (by unfold idx at hi; omega)]; rfl
theorem indexAt_array_32 (t : TypeId) (a : Addr) (i : BitVec 32) (h : P.underlying t = some (.array (P.arrayLen t) (P.elem t))) (hi : idx i < P.arrayLen t) :
    (Instr.indexAt t (.pointer (some a)) (U32 i)).run P w = ((sizeOf (P.elem t)).run P w).andThen fun s w => .ok (.pointer (some (a.add (idx i * s)))) w := by
  rw [U32, run_indexAt_array w t a .u32 i.toNat h, if_pos (by unfold idx at hi; omega)]; rfl
attribute [go_sem high] indexAt_slice_32 indexAt_array_32
theorem indexAt_slice_64 (t : TypeId) (a : Addr) (len cap : Nat) (i : BitVec 64) (h : P.underlying t = some (.slice (P.elem t))) (hi : idx i < len) :
    (Instr.indexAt t (.slice (some a) len cap) (U64 i)).run P w = ((sizeOf (P.elem t)).run P w).andThen fun s w => .ok (.pointer (some (a.add (idx i * s)))) w := by
  rw [U64, run_indexAt_slice w t a len cap .u64 i.toNat h, if_pos (by unfold idx at hi; omega)]; rfl
theorem indexAt_array_64 (t : TypeId) (a : Addr) (i : BitVec 64) (h : P.underlying t = some (.array (P.arrayLen t) (P.elem t))) (hi : idx i < P.arrayLen t) :
    (Instr.indexAt t (.pointer (some a)) (U64 i)).run P w = ((sizeOf (P.elem t)).run P w).andThen fun s w => .ok (.pointer (some (a.add (idx i * s)))) w := by
  rw [U64, run_indexAt_array w t a .u64 i.toNat h, if_pos (by unfold idx at hi; omega)]; rfl
attribute [go_sem high] indexAt_slice_64 indexAt_array_64
end
end Go.Proofs.YtbicafgmfgdckaaDoor
namespace Go.Proofs.YtbicafgmfgdckaaDoor
open Go Go.RowKit

/-- The k-th byte: under a name of its own, so that nothing turns it. -/
def byteAt (l : List (BitVec 8)) (k : Nat) : BitVec 8 := l.getD k 0#8
/-- The cells from a place on hold these bytes. -/
def BytesAt (w : World) (b off : Nat) (l : List (BitVec 8)) : Prop := ∀ i, i < l.length → w.cell? ⟨b, off + i, none⟩ = some (U8 (byteAt l i))
/-- A slice of these bytes, by its address and its capacity. -/
structure Reads (w : World) (a : Option Addr) (cap : Nat) (l : List (BitVec 8)) : Prop where
  fits : l.length ≤ cap
  room : cap ≤ 9223372036854775807
  null : a = none → cap = 0
  bytes : l = [] ∨ ∃ b off, a = some ⟨b, off, none⟩ ∧ BytesAt w b off l
/-- A slice of the call's own, of these bytes. -/
def Owns (w : World) (B : Nat) (E : TypeId) (v : Value) (l : List (BitVec 8)) : Prop := w.ownsRow B E 1 v l.length (l.map U8)

theorem byteAt_lt {l : List (BitVec 8)} {k : Nat} (h : k < l.length) : byteAt l k = l[k] := by simp [byteAt, List.getD_eq_getElem?_getD, List.getElem?_eq_getElem h]
theorem take_snoc (l : List (BitVec 8)) (k : Nat) (h : k < l.length) : l.take (k + 1) = l.take k ++ [byteAt l k] := by
  rw [List.take_succ_eq_append_getElem h, byteAt_lt h]
theorem list_ext {l m : List (BitVec 8)} (hl : l.length = m.length) (h : ∀ i, i < l.length → byteAt l i = byteAt m i) : l = m := by
  refine List.ext_getElem hl fun i h1 h2 => ?_
  rw [← byteAt_lt h1, ← byteAt_lt h2, h i h1]
theorem byteAt_take {l : List (BitVec 8)} {n i : Nat} (h : i < n) : byteAt (l.take n) i = byteAt l i := by simp [byteAt, List.getD_eq_getElem?_getD, h]
theorem byteAt_drop (l : List (BitVec 8)) (n i : Nat) : byteAt (l.drop n) i = byteAt l (n + i) := by simp [byteAt, List.getD_eq_getElem?_getD]

theorem BytesAt.take {w : World} {b off : Nat} {l : List (BitVec 8)} (h : BytesAt w b off l) (n : Nat) : BytesAt w b off (l.take n) := by
  intro i hi
  have h1 : i < l.length ∧ i < n := by rw [List.length_take] at hi; omega
  rw [h i h1.1, byteAt_take h1.2]
theorem BytesAt.drop {w : World} {b off : Nat} {l : List (BitVec 8)} (h : BytesAt w b off l) (n : Nat) : BytesAt w b (off + n) (l.drop n) := by
  intro i hi
  rw [List.length_drop] at hi
  have := h (n + i) (by omega)
  rw [show off + n + i = off + (n + i) by omega, this, byteAt_drop]
theorem BytesAt.mono {w w' : World} {b off : Nat} {l : List (BitVec 8)} (h : BytesAt w b off l) (hw : ∀ o v, w.cell? ⟨b, o, none⟩ = some v → w'.cell? ⟨b, o, none⟩ = some v) : BytesAt w' b off l :=
  fun i hi => hw _ _ (h i hi)

/-- All that a world holds stays. -/
def Keeps (w w' : World) : Prop := ∀ a v, w.cell? a = some v → w'.cell? a = some v
theorem Keeps.refl (w : World) : Keeps w w := fun _ _ h => h
theorem Keeps.trans {a b c : World} (h : Keeps a b) (k : Keeps b c) : Keeps a c := fun p v e => k p v (h p v e)
theorem Keeps.drewN (w : World) (n : Nat) : Keeps w (w.drewN n) := fun _ _ h => h
theorem Keeps.alloc (w : World) (o : Obj) : Keeps w (w.alloc o) := fun p v h => by
  rw [World.cell?_of_block (w := w) (Below.heap_alloc w o p.block (World.block_lt_of_cell? w p h))]; exact h
theorem Keeps.below {w w' : World} (h : Below w.heap.size w w') : Keeps w w' := fun p v e => by
  rw [h.cell (World.block_lt_of_cell? w p e)]; exact e

section
variable {w w' : World} {a : Option Addr} {cap : Nat} {l : List (BitVec 8)}
theorem Reads.keeps (h : Reads w a cap l) (k : Keeps w w') : Reads w' a cap l := by
  refine ⟨h.fits, h.room, h.null, ?_⟩
  rcases h.bytes with e | ⟨b, off, e, hb⟩
  · exact .inl e
  · exact .inr ⟨b, off, e, hb.mono fun o v hv => k _ _ hv⟩
theorem Reads.take (h : Reads w a cap l) (n : Nat) : Reads w a cap (l.take n) := by
  refine ⟨Nat.le_trans (by rw [List.length_take]; omega) h.fits, h.room, h.null, ?_⟩
  rcases h.bytes with rfl | ⟨b, off, e, hb⟩
  · exact .inl (by simp)
  · exact .inr ⟨b, off, e, hb.take n⟩
theorem Reads.len (h : Reads w a cap l) : l.length ≤ 9223372036854775807 := Nat.le_trans h.fits h.room
theorem Reads.cases (h : Reads w a cap l) : l = [] ∨ ∃ b off, a = some ⟨b, off, none⟩ ∧ BytesAt w b off l := h.bytes
end

theorem reads_nil (w : World) : Reads w none 0 [] := ⟨by simp, by omega, fun _ => rfl, .inl rfl⟩

section
variable {w w' : World} {B : Nat} {E : TypeId} {v : Value} {l : List (BitVec 8)}
theorem owns_nil (w : World) (B : Nat) (E : TypeId) : Owns w B E (.slice none 0 0) [] := World.ownsRow_nil w B E 1
theorem Owns.reads (h : Owns w B E v l) : ∃ a cap, v = .slice a l.length cap ∧ Reads w a cap l := by
  rcases h.2 with ⟨rfl, h0⟩ | ⟨g, cap, cur, rfl, _, hg, hn, hc, hs, ht⟩
  · have : l = [] := List.eq_nil_of_length_eq_zero h0
    subst this
    exact ⟨none, 0, rfl, reads_nil w⟩
  · refine ⟨some ⟨g, 0, none⟩, cap, rfl, hn, by unfold maxLen at hc; omega, (by intro e; cases e), .inr ⟨g, 0, rfl, fun i hi => ?_⟩⟩
    have := h.cells (g := g) rfl i (U8 (byteAt l i)) (by rw [List.getElem?_map, List.getElem?_eq_getElem hi, byteAt_lt hi]; rfl)
    simpa [Addr.add_lit] using this
theorem Owns.below (h : Owns w B E v l) (hb : Below w.heap.size w w') : Owns w' B E v l :=
  h.kept (row := none) ⟨hb.os, hb.tape, hb.output, hb.size, fun k hk _ => hb.block k hk⟩ (by cases hv : v.ownBlock <;> simp)
theorem Owns.drewN (h : Owns w B E v l) (n : Nat) : Owns (w.drewN n) B E v l := h
theorem Owns.mono {B' : Nat} (h : Owns w B E v l) (hB : B' ≤ B) : Owns w B' E v l := by
  refine ⟨h.1, ?_⟩
  rcases h.2 with e | ⟨g, cap, cur, e, hb, r⟩
  · exact .inl e
  · exact .inr ⟨g, cap, cur, e, Nat.le_trans hB hb, r⟩
end

/-- A type of slices of bytes. -/
structure ByteSlice (P : Program) (t e : TypeId) : Prop where
  slice : P.underlying t = some (.slice e)
  info : (P.info? e).map (fun i => (i.zero, i.size, i.bytes)) = some (some (.int .u8 0), 1, 1)

/-- 'append(s, x...)', s of the call's own, x any slice of bytes. -/
theorem wpList_append_bytes {P : Program} {w : World} {ops : Array Oper} {rest : List Oper} {o : Oper} {act : Act} {Q : Exit → Act → World → Prop} {t e : TypeId} (T : ByteSlice P t e)
    (hgd : o.guard = none) (s x : Operand) (ho : o.op = .call { callee := .builtin .append, args := #[s, x], argTypes := #[t, t] })
    (B : Nat) (v : Value) (l : List (BitVec 8)) (hs : act.eval s = v) (hown : Owns w B e v l)
    (a : Option Addr) (cap : Nat) (m : List (BitVec 8)) (hx : act.eval x = .slice a m.length cap) (hm : Reads w a cap m)
    (hlen : l.length + m.length ≤ 140737488355328) (hbase : B ≤ w.heap.size)
    (h : ∀ v' w', Owns w' B e v' (l ++ m) → w.grownBy w' v.ownBlock → wpList P ops Q rest (act.put o.dst v') w') : wpList P ops Q (o :: rest) act w := by
  obtain ⟨i, hi, hz0, hz1, hz2⟩ := info_parts T.info
  have fin : ∀ v' w', w'.ownsRow B e 1 v' (l.length + m.length) (l.map U8 ++ m.map U8) → w.grownBy w' v.ownBlock → wpList P ops Q rest (act.put o.dst v') w' := by
    intro v' w' h1 h2
    exact h v' w' (by unfold Owns; rw [List.length_append, List.map_append]; exact h1) h2
  by_cases hn : a = none
  · subst hn
    have hc := hm.null rfl
    have hm0 : m = [] := List.eq_nil_of_length_eq_zero (by have := hm.fits; omega)
    subst hc hm0
    refine wpList_append_own_none hgd s x t ho B e i 1 T.slice hi v l.length (l.map U8) hs hown (by simpa using hx) ?_
    exact fin v w (by simpa [Owns] using hown) ⟨rfl, rfl, rfl, Nat.le_refl _, fun _ _ _ => rfl⟩
  · obtain ⟨ad, rfl⟩ := Option.ne_none_iff_exists'.1 hn
    refine wpList_append_own w hgd s x t ho B e i (.int .u8 0) 1 1 T.slice hi hz0 hz1 hz2 rfl (by decide) v l.length (l.map U8) hs hown ad m.length cap (m.map U8) hx (by simp) ?_ ?_ ?_ ?_ hbase ?_
    · intro j u hu
      rcases hm.bytes with rfl | ⟨b, off, e1, hb⟩
      · simp at hu
      · obtain rfl := Option.some.inj e1
        rw [List.getElem?_map] at hu
        obtain ⟨c, hc, rfl⟩ := Option.map_eq_some_iff.1 hu
        obtain ⟨hj, hc'⟩ := List.getElem?_eq_some_iff.1 hc
        rw [Addr.add_lit, hb j hj, byteAt_lt hj, hc']
    · intro u hu
      obtain ⟨c, _, rfl⟩ := List.mem_map.1 hu
      rfl
    · unfold maxLen; omega
    · omega
    · intro v' w' h1 h2 _
      exact fin v' w' h1 h2

/-- '[]byte(..)' of a row that was just written out: the same row; its place is marked behind its end. -/
theorem conv_lit {P : Program} (w : World) (t e : TypeId) (cs : Array Value) (E : TypeId) (len cap : Nat) (hs : P.underlying t = some (.slice e)) (he : P.underlying e = some (.int .u8)) :
    (convert t t (.slice (some ⟨w.heap.size, 0, none⟩) len cap)).run P (w.alloc (.cells cs E)) =
      .ok (.slice (some ⟨w.heap.size, 0, none⟩) len cap) (w.alloc (.cells cs E (cs.size, cs.size + 1))) := by
  have hsh : (w.alloc (.cells cs E)).shape? w.heap.size = some (E, cs.size) := by
    unfold World.shape?; rw [heap_alloc_new]
  have hf : (w.alloc (.cells cs E)).freeze ⟨w.heap.size, cs.size, none⟩ 1 = w.alloc (.cells cs E (cs.size, cs.size + 1)) := by
    have : (w.heap.push (.cells cs E)).modify w.heap.size (fun | .cells c elem (lo, hi) => .cells c elem (if lo == hi then (cs.size, cs.size + 1) else (min lo cs.size, max hi (cs.size + 1))) | o => o) = w.heap.push (.cells cs E (cs.size, cs.size + 1)) := by
      apply Array.ext_getElem?
      intro i
      rw [Array.getElem?_modify, Array.getElem?_push, Array.getElem?_push]
      by_cases h : i = w.heap.size
      · subst h; simp
      · simp [h, Ne.symm h]
    unfold World.freeze World.alloc
    rw [if_neg (by decide)]
    exact congrArg (fun h => ({ w with heap := h } : World)) this
  simp [convert, run_underlying hs, run_underlying he, markStringish, hsh, hf]
theorem bytes_lit (w : World) (cs : Array Value) (E : TypeId) (fr : Nat × Nat) (l : List (BitVec 8)) (h : cs.toList = l.map U8) : BytesAt (w.alloc (.cells cs E fr)) w.heap.size 0 l := by
  intro i hi
  have : (w.alloc (.cells cs E fr)).cell? ⟨w.heap.size, 0 + i, none⟩ = cs[i]? := by
    unfold World.cell?; rw [heap_alloc_new]; simp
  rw [this, ← Array.getElem?_toList, h, List.getElem?_map, List.getElem?_eq_getElem hi, byteAt_lt hi]; rfl
theorem reads_lit (w : World) (cs : Array Value) (E : TypeId) (fr : Nat × Nat) (l : List (BitVec 8)) (h : cs.toList = l.map U8) (hl : l.length ≤ 9223372036854775807) :
    Reads (w.alloc (.cells cs E fr)) (some ⟨w.heap.size, 0, none⟩) l.length l :=
  ⟨Nat.le_refl _, hl, (by intro e; cases e), .inr ⟨_, _, rfl, bytes_lit w cs E fr l h⟩⟩

/-- A slice of n bytes of the call's own, at the head of block g: its bytes may be written. -/
def RowAt (w : World) (B : Nat) (E : TypeId) (g cap n : Nat) (l : List (BitVec 8)) : Prop :=
  w.ownsRow B E 1 (.slice (some ⟨g, 0, none⟩) n cap) n (l.map U8) ∧ l.length = n
section
variable {w w' : World} {B : Nat} {E : TypeId} {g cap n : Nat} {l : List (BitVec 8)} {v : Value}
theorem Owns.row (h : Owns w B E v l) (hl : l.length ≠ 0) : ∃ g cap, v = .slice (some ⟨g, 0, none⟩) l.length cap ∧ RowAt w B E g cap l.length l ∧ B ≤ g ∧ g < w.heap.size := by
  rcases h.2 with ⟨_, h0⟩ | ⟨g, cap, cur, rfl, hb, _⟩
  · exact (hl h0).elim
  · exact ⟨g, cap, rfl, ⟨h, rfl⟩, hb, (h.lt g rfl).2⟩
theorem RowAt.owns (h : RowAt w B E g cap n l) : Owns w B E (.slice (some ⟨g, 0, none⟩) n cap) l := by
  obtain ⟨h1, rfl⟩ := h; exact h1
theorem RowAt.reads (h : RowAt w B E g cap n l) : Reads w (some ⟨g, 0, none⟩) cap l := by
  obtain ⟨h1, rfl⟩ := h
  obtain ⟨a, c, e, r⟩ := Owns.reads (v := .slice (some ⟨g, 0, none⟩) l.length cap) h1
  simp only [Value.slice.injEq, true_and] at e
  obtain ⟨rfl, rfl⟩ := e
  exact r
theorem RowAt.cell (h : RowAt w B E g cap n l) (j : Nat) (hj : j < n) : w.cell? ⟨g, j, none⟩ = some (U8 (byteAt l j)) := by
  rw [h.1.cellAt j (by omega), List.getElem?_map, List.getElem?_eq_getElem (by rw [h.2]; exact hj), byteAt_lt (by rw [h.2]; exact hj)]; rfl
theorem RowAt.thawed (h : RowAt w B E g cap n l) (j : Nat) : w.frozen? ⟨g, j, none⟩ = false := h.1.frozenAt j
theorem RowAt.set (h : RowAt w B E g cap n l) (j : Nat) (x : BitVec 8) : RowAt (w.setCell ⟨g, j, none⟩ (U8 x)) B E g cap n (l.set j x) := by
  have := (h.1.stored j (U8 x)).1
  exact ⟨by rw [List.map_set]; exact this, by rw [List.length_set]; exact h.2⟩
theorem RowAt.drewN (h : RowAt w B E g cap n l) (m : Nat) : RowAt (w.drewN m) B E g cap n l := h
theorem RowAt.lt (h : RowAt w B E g cap n l) : B ≤ g ∧ g < w.heap.size := h.1.lt g rfl
theorem RowAt.below (h : RowAt w B E g cap n l) (hb : Below w.heap.size w w') : RowAt w' B E g cap n l :=
  ⟨h.1.kept (row := none) ⟨hb.os, hb.tape, hb.output, hb.size, fun k hk _ => hb.block k hk⟩ (.inr (by simp [Value.ownBlock])), h.2⟩
/-- Another block is written: this row stays. -/
theorem RowAt.other (h : RowAt w B E g cap n l) {row : Option Nat} (hg : w.grownBy w' row) (hne : some g ≠ row) : RowAt w' B E g cap n l :=
  ⟨h.1.kept hg (.inr (by simpa [Value.ownBlock] using hne)), h.2⟩
end
end Go.Proofs.YtbicafgmfgdckaaDoor
