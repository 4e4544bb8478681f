/- Words of 8, 32 and 64 bits as values of the model, and what each operation on them gives: for any program. -/
import Derived.WalkKit
import Derived.WalkLawsBesides
import Derived.WalkSpells
namespace Go.Proofs.Ytahmnpbfjfllmaa
open Go

theorem ofInt_toNat (n : Nat) (x : BitVec n) : BitVec.ofInt n (x.toNat : Int) = x := by
  rw [BitVec.ofInt_natCast, BitVec.ofNat_toNat, BitVec.setWidth_eq]
theorem wrap_u8_nat (n : Nat) : IntKind.u8.wrap (n : Int) = ((n % 256 : Nat) : Int) := by rw [IntKind.wrap_u8']; omega
theorem wrap_u32_nat (n : Nat) : IntKind.u32.wrap (n : Int) = ((n % 4294967296 : Nat) : Int) := by rw [IntKind.wrap_u32']; omega
theorem wrap_u64_nat (n : Nat) : IntKind.u64.wrap (n : Int) = ((n % 18446744073709551616 : Nat) : Int) := by rw [IntKind.wrap_u64]; omega
theorem wrap_u8_bv (n : Int) : IntKind.u8.wrap n = ((BitVec.ofInt 8 n).toNat : Int) := by rw [IntKind.wrap_u8', BitVec.toNat_ofInt]; omega
theorem wrap_u32_bv (n : Int) : IntKind.u32.wrap n = ((BitVec.ofInt 32 n).toNat : Int) := by rw [IntKind.wrap_u32', BitVec.toNat_ofInt]; omega
theorem wrap_u64_bv (n : Int) : IntKind.u64.wrap n = ((BitVec.ofInt 64 n).toNat : Int) := by rw [IntKind.wrap_u64, BitVec.toNat_ofInt]; omega
/-- A word as a place: under a name of its own, so that nothing turns it. -/
def idx {n : Nat} (x : BitVec n) : Nat := x.toNat
def U8 (x : BitVec 8) : Value := .int .u8 x.toNat
def U32 (x : BitVec 32) : Value := .int .u32 x.toNat
def U64 (x : BitVec 64) : Value := .int .u64 x.toNat


/-! Words of 8 bits. -/
section
variable (t : TypeId) (x y : BitVec 8) (n : Int)
theorem u8_bits (x : BitVec 8) : (U8 x) = .int .u8 x.toNat := rfl
theorem u8_back (r : BitVec 8) : Value.int .u8 (IntKind.wrap .u8 r.toNat) = U8 r := by
  have h := r.isLt
  rw [wrap_u8_nat, Nat.mod_eq_of_lt h]; rfl
theorem u8_and : binOp .and t (U8 x) (U8 y) = pure (U8 (x &&& y)) := by
  have h : binOp .and t (U8 x) (U8 y) = pure (.int .u8 (IntKind.wrap .u8 ((BitVec.ofInt 8 (x.toNat : Int)) &&& (BitVec.ofInt 8 (y.toNat : Int))).toNat)) := rfl
  rw [h, u8_back]; simp only [ofInt_toNat]
attribute [go_sem high] u8_and
theorem u8_andc : binOp .and t (U8 x) (.int .u8 n) = pure (U8 (x &&& BitVec.ofInt 8 n)) := by
  have h : binOp .and t (U8 x) (.int .u8 n) = pure (.int .u8 (IntKind.wrap .u8 ((BitVec.ofInt 8 (x.toNat : Int)) &&& (BitVec.ofInt 8 n)).toNat)) := rfl
  rw [h, u8_back]; simp only [ofInt_toNat]
attribute [go_sem high] u8_andc
theorem u8_andd : binOp .and t (.int .u8 n) (U8 y) = pure (U8 (BitVec.ofInt 8 n &&& y)) := by
  have h : binOp .and t (.int .u8 n) (U8 y) = pure (.int .u8 (IntKind.wrap .u8 ((BitVec.ofInt 8 n) &&& (BitVec.ofInt 8 (y.toNat : Int))).toNat)) := rfl
  rw [h, u8_back]; simp only [ofInt_toNat]
attribute [go_sem high] u8_andd
theorem u8_or : binOp .or t (U8 x) (U8 y) = pure (U8 (x ||| y)) := by
  have h : binOp .or t (U8 x) (U8 y) = pure (.int .u8 (IntKind.wrap .u8 ((BitVec.ofInt 8 (x.toNat : Int)) ||| (BitVec.ofInt 8 (y.toNat : Int))).toNat)) := rfl
  rw [h, u8_back]; simp only [ofInt_toNat]
attribute [go_sem high] u8_or
theorem u8_orc : binOp .or t (U8 x) (.int .u8 n) = pure (U8 (x ||| BitVec.ofInt 8 n)) := by
  have h : binOp .or t (U8 x) (.int .u8 n) = pure (.int .u8 (IntKind.wrap .u8 ((BitVec.ofInt 8 (x.toNat : Int)) ||| (BitVec.ofInt 8 n)).toNat)) := rfl
  rw [h, u8_back]; simp only [ofInt_toNat]
attribute [go_sem high] u8_orc
theorem u8_ord : binOp .or t (.int .u8 n) (U8 y) = pure (U8 (BitVec.ofInt 8 n ||| y)) := by
  have h : binOp .or t (.int .u8 n) (U8 y) = pure (.int .u8 (IntKind.wrap .u8 ((BitVec.ofInt 8 n) ||| (BitVec.ofInt 8 (y.toNat : Int))).toNat)) := rfl
  rw [h, u8_back]; simp only [ofInt_toNat]
attribute [go_sem high] u8_ord
theorem u8_xor : binOp .xor t (U8 x) (U8 y) = pure (U8 (x ^^^ y)) := by
  have h : binOp .xor t (U8 x) (U8 y) = pure (.int .u8 (IntKind.wrap .u8 ((BitVec.ofInt 8 (x.toNat : Int)) ^^^ (BitVec.ofInt 8 (y.toNat : Int))).toNat)) := rfl
  rw [h, u8_back]; simp only [ofInt_toNat]
attribute [go_sem high] u8_xor
theorem u8_xorc : binOp .xor t (U8 x) (.int .u8 n) = pure (U8 (x ^^^ BitVec.ofInt 8 n)) := by
  have h : binOp .xor t (U8 x) (.int .u8 n) = pure (.int .u8 (IntKind.wrap .u8 ((BitVec.ofInt 8 (x.toNat : Int)) ^^^ (BitVec.ofInt 8 n)).toNat)) := rfl
  rw [h, u8_back]; simp only [ofInt_toNat]
attribute [go_sem high] u8_xorc
theorem u8_xord : binOp .xor t (.int .u8 n) (U8 y) = pure (U8 (BitVec.ofInt 8 n ^^^ y)) := by
  have h : binOp .xor t (.int .u8 n) (U8 y) = pure (.int .u8 (IntKind.wrap .u8 ((BitVec.ofInt 8 n) ^^^ (BitVec.ofInt 8 (y.toNat : Int))).toNat)) := rfl
  rw [h, u8_back]; simp only [ofInt_toNat]
attribute [go_sem high] u8_xord
theorem u8_add : binOp .add t (U8 x) (U8 y) = pure (U8 (x + y)) := by
  have e : BitVec.ofInt 8 ((x.toNat : Int) + (y.toNat : Int)) = x + y := by rw [BitVec.ofInt_add]; simp only [ofInt_toNat]
  have h : binOp .add t (U8 x) (U8 y) = pure (.int .u8 (IntKind.wrap .u8 ((x.toNat : Int) + (y.toNat : Int)))) := by simp [binOp, Op.intArith, U8]
  rw [h, wrap_u8_bv, e]; rfl
attribute [go_sem high] u8_add
theorem u8_addc : binOp .add t (U8 x) (.int .u8 n) = pure (U8 (x + BitVec.ofInt 8 n)) := by
  have e : BitVec.ofInt 8 ((x.toNat : Int) + n) = x + BitVec.ofInt 8 n := by rw [BitVec.ofInt_add]; simp only [ofInt_toNat]
  have h : binOp .add t (U8 x) (.int .u8 n) = pure (.int .u8 (IntKind.wrap .u8 ((x.toNat : Int) + n))) := by simp [binOp, Op.intArith, U8]
  rw [h, wrap_u8_bv, e]; rfl
attribute [go_sem high] u8_addc
theorem u8_addd : binOp .add t (.int .u8 n) (U8 y) = pure (U8 (BitVec.ofInt 8 n + y)) := by
  have e : BitVec.ofInt 8 (n + (y.toNat : Int)) = BitVec.ofInt 8 n + y := by rw [BitVec.ofInt_add]; simp only [ofInt_toNat]
  have h : binOp .add t (.int .u8 n) (U8 y) = pure (.int .u8 (IntKind.wrap .u8 (n + (y.toNat : Int)))) := by simp [binOp, Op.intArith, U8]
  rw [h, wrap_u8_bv, e]; rfl
attribute [go_sem high] u8_addd
theorem u8_sub : binOp .sub t (U8 x) (U8 y) = pure (U8 (x - y)) := by
  have e : BitVec.ofInt 8 ((x.toNat : Int) - (y.toNat : Int)) = x - y := by rw [Int.sub_eq_add_neg, BitVec.ofInt_add, BitVec.ofInt_neg, ← BitVec.sub_eq_add_neg]; simp only [ofInt_toNat]
  have h : binOp .sub t (U8 x) (U8 y) = pure (.int .u8 (IntKind.wrap .u8 ((x.toNat : Int) - (y.toNat : Int)))) := by simp [binOp, Op.intArith, U8]
  rw [h, wrap_u8_bv, e]; rfl
attribute [go_sem high] u8_sub
theorem u8_subc : binOp .sub t (U8 x) (.int .u8 n) = pure (U8 (x - BitVec.ofInt 8 n)) := by
  have e : BitVec.ofInt 8 ((x.toNat : Int) - n) = x - BitVec.ofInt 8 n := by rw [Int.sub_eq_add_neg, BitVec.ofInt_add, BitVec.ofInt_neg, ← BitVec.sub_eq_add_neg]; simp only [ofInt_toNat]
  have h : binOp .sub t (U8 x) (.int .u8 n) = pure (.int .u8 (IntKind.wrap .u8 ((x.toNat : Int) - n))) := by simp [binOp, Op.intArith, U8]
  rw [h, wrap_u8_bv, e]; rfl
attribute [go_sem high] u8_subc
theorem u8_subd : binOp .sub t (.int .u8 n) (U8 y) = pure (U8 (BitVec.ofInt 8 n - y)) := by
  have e : BitVec.ofInt 8 (n - (y.toNat : Int)) = BitVec.ofInt 8 n - y := by rw [Int.sub_eq_add_neg, BitVec.ofInt_add, BitVec.ofInt_neg, ← BitVec.sub_eq_add_neg]; simp only [ofInt_toNat]
  have h : binOp .sub t (.int .u8 n) (U8 y) = pure (.int .u8 (IntKind.wrap .u8 (n - (y.toNat : Int)))) := by simp [binOp, Op.intArith, U8]
  rw [h, wrap_u8_bv, e]; rfl
attribute [go_sem high] u8_subd
theorem u8_mul : binOp .mul t (U8 x) (U8 y) = pure (U8 (x * y)) := by
  have e : BitVec.ofInt 8 ((x.toNat : Int) * (y.toNat : Int)) = x * y := by rw [BitVec.ofInt_mul]; simp only [ofInt_toNat]
  have h : binOp .mul t (U8 x) (U8 y) = pure (.int .u8 (IntKind.wrap .u8 ((x.toNat : Int) * (y.toNat : Int)))) := by simp [binOp, Op.intArith, U8]
  rw [h, wrap_u8_bv, e]; rfl
attribute [go_sem high] u8_mul
theorem u8_mulc : binOp .mul t (U8 x) (.int .u8 n) = pure (U8 (x * BitVec.ofInt 8 n)) := by
  have e : BitVec.ofInt 8 ((x.toNat : Int) * n) = x * BitVec.ofInt 8 n := by rw [BitVec.ofInt_mul]; simp only [ofInt_toNat]
  have h : binOp .mul t (U8 x) (.int .u8 n) = pure (.int .u8 (IntKind.wrap .u8 ((x.toNat : Int) * n))) := by simp [binOp, Op.intArith, U8]
  rw [h, wrap_u8_bv, e]; rfl
attribute [go_sem high] u8_mulc
theorem u8_muld : binOp .mul t (.int .u8 n) (U8 y) = pure (U8 (BitVec.ofInt 8 n * y)) := by
  have e : BitVec.ofInt 8 (n * (y.toNat : Int)) = BitVec.ofInt 8 n * y := by rw [BitVec.ofInt_mul]; simp only [ofInt_toNat]
  have h : binOp .mul t (.int .u8 n) (U8 y) = pure (.int .u8 (IntKind.wrap .u8 (n * (y.toNat : Int)))) := by simp [binOp, Op.intArith, U8]
  rw [h, wrap_u8_bv, e]; rfl
attribute [go_sem high] u8_muld
theorem u8_quoc (h0 : 0 < n) (h1 : n < 256) : binOp .quo t (U8 x) (.int .u8 n) = pure (U8 (x / BitVec.ofInt 8 n)) := by
  obtain ⟨m, rfl⟩ := Int.eq_ofNat_of_zero_le (Int.le_of_lt h0)
  have e : (x / BitVec.ofInt 8 (m : Int)).toNat = x.toNat / m := by
    rw [BitVec.toNat_udiv, BitVec.ofInt_natCast, BitVec.toNat_ofNat, Nat.mod_eq_of_lt (show m < 2 ^ 8 by omega)]
  have h : binOp .quo t (U8 x) (.int .u8 (m : Int)) = pure (.int .u8 (IntKind.wrap .u8 ((x.toNat : Int).tdiv m))) := by
    have hm : ¬ (m : Int) = 0 := by omega
    show Op.intDiv .quo .u8 x.toNat (m : Int) = _
    unfold Op.intDiv; rw [if_neg hm]
  rw [h, show ((x.toNat : Int).tdiv m) = ((x.toNat / m : Nat) : Int) from rfl, ← e, u8_back]
theorem u8_remc (h0 : 0 < n) (h1 : n < 256) : binOp .rem t (U8 x) (.int .u8 n) = pure (U8 (x % BitVec.ofInt 8 n)) := by
  obtain ⟨m, rfl⟩ := Int.eq_ofNat_of_zero_le (Int.le_of_lt h0)
  have e : (x % BitVec.ofInt 8 (m : Int)).toNat = x.toNat % m := by
    rw [BitVec.toNat_umod, BitVec.ofInt_natCast, BitVec.toNat_ofNat, Nat.mod_eq_of_lt (show m < 2 ^ 8 by omega)]
  have h : binOp .rem t (U8 x) (.int .u8 (m : Int)) = pure (.int .u8 ((x.toNat : Int).tmod m)) := by
    have hm : ¬ (m : Int) = 0 := by omega
    show Op.intDiv .rem .u8 x.toNat (m : Int) = _
    unfold Op.intDiv; rw [if_neg hm]
  rw [h, show ((x.toNat : Int).tmod m) = ((x.toNat % m : Nat) : Int) from rfl, ← e]; rfl
attribute [go_sem high] u8_quoc u8_remc
theorem u8_shr_nat (yk : IntKind) (m : Nat) : binOp .shr t (U8 x) (.int yk (m : Int)) = pure (U8 (x >>> m)) := by
  have h : binOp .shr t (U8 x) (.int yk (m : Int)) = pure (.int .u8 ((x.toNat : Int) / 2 ^ min m 8)) := by
    show Op.shift .shr .u8 x.toNat yk (m : Int) = _
    rw [shift_shr_any _ _ _ _ (by omega)]; rfl
  have e : ((x.toNat : Int) / 2 ^ min m 8) = (((x >>> m).toNat : Nat) : Int) := by
    have hp : ((2 : Int) ^ min m 8) = ((2 ^ min m 8 : Nat) : Int) := by simp
    rw [hp, BitVec.toNat_ushiftRight, Nat.shiftRight_eq_div_pow, ← Int.natCast_ediv]
    congr 1
    by_cases hm : m ≤ 8
    · rw [Nat.min_eq_left hm]
    · rw [Nat.min_eq_right (by omega), Nat.div_eq_of_lt x.isLt, Nat.div_eq_of_lt]
      exact Nat.lt_of_lt_of_le x.isLt (Nat.pow_le_pow_right (by decide) (by omega))
  rw [h, e]; rfl
theorem u8_shl_nat (yk : IntKind) (m : Nat) : binOp .shl t (U8 x) (.int yk (m : Int)) = pure (U8 (x <<< m)) := by
  have h : binOp .shl t (U8 x) (.int yk (m : Int)) = pure (.int .u8 (IntKind.wrap .u8 ((x.toNat : Int) * 2 ^ min m 8))) := by
    show Op.shift .shl .u8 x.toNat yk (m : Int) = _
    rw [shift_shl_any _ _ _ _ (by omega)]; rfl
  have e : ((x.toNat : Int) * 2 ^ min m 8) = ((x.toNat * 2 ^ min m 8 : Nat) : Int) := by
    have hp : ((2 : Int) ^ min m 8) = ((2 ^ min m 8 : Nat) : Int) := by simp
    rw [hp, Int.natCast_mul]
  have e2 : x.toNat * 2 ^ min m 8 % 256 = (x <<< m).toNat := by
    rw [BitVec.toNat_shiftLeft, Nat.shiftLeft_eq]
    by_cases hm : m ≤ 8
    · rw [Nat.min_eq_left hm]
    · obtain ⟨j, rfl⟩ : ∃ j, m = 8 + j := ⟨m - 8, by omega⟩
      rw [Nat.min_eq_right (by omega), Nat.pow_add, Nat.mul_comm (2 ^ 8) (2 ^ j), ← Nat.mul_assoc, Nat.mul_mod_left]
      exact (Nat.mul_mod_left _ _).symm
  rw [h, e, wrap_u8_nat, e2]; rfl
theorem u8_shrc (yk : IntKind) (h : 0 ≤ n) : binOp .shr t (U8 x) (.int yk n) = pure (U8 (x >>> n.toNat)) := by
  obtain ⟨m, rfl⟩ := Int.eq_ofNat_of_zero_le h
  exact u8_shr_nat t x yk m
theorem u8_shlc (yk : IntKind) (h : 0 ≤ n) : binOp .shl t (U8 x) (.int yk n) = pure (U8 (x <<< n.toNat)) := by
  obtain ⟨m, rfl⟩ := Int.eq_ofNat_of_zero_le h
  exact u8_shl_nat t x yk m
attribute [go_sem high] u8_shrc u8_shlc
theorem u8_shrU (c : BitVec 64) : binOp .shr t (U8 x) (U64 c) = pure (U8 (x >>> c.toNat)) := u8_shr_nat t x .u64 c.toNat
theorem u8_shlU (c : BitVec 64) : binOp .shl t (U8 x) (U64 c) = pure (U8 (x <<< c.toNat)) := u8_shl_nat t x .u64 c.toNat
attribute [go_sem high] u8_shrU u8_shlU
theorem u8_shld (yk : IntKind) (m : Int) (h0 : 0 ≤ n) (h1 : n < 256) (h : 0 ≤ m) : binOp .shl t (.int .u8 n) (.int yk m) = pure (U8 (BitVec.ofInt 8 n <<< m.toNat)) := by
  have e : Value.int .u8 n = U8 (BitVec.ofInt 8 n) := by rw [U8, BitVec.toNat_ofInt]; congr 1; omega
  rw [e]; exact u8_shlc t (BitVec.ofInt 8 n) m yk h
attribute [go_sem high] u8_shld
theorem u8_eql : binOp .eql t (U8 x) (U8 y) = pure (.bool (x == y)) := by
  have h : binOp .eql t (U8 x) (U8 y) = pure (.bool ((x.toNat : Int) == (y.toNat : Int))) := by simp [binOp, Op.intCmp, U8]
  have e : ((x.toNat : Int) == (y.toNat : Int)) = (x == y) := by
    rw [Bool.eq_iff_iff, beq_iff_eq, beq_iff_eq]
    exact ⟨fun e => BitVec.eq_of_toNat_eq (by omega), fun e => by rw [e]⟩
  rw [h, e]
theorem u8_neq : binOp .neq t (U8 x) (U8 y) = pure (.bool (x != y)) := by
  have h : binOp .neq t (U8 x) (U8 y) = pure (.bool ((x.toNat : Int) != (y.toNat : Int))) := by simp [binOp, Op.intCmp, U8]
  have e : ((x.toNat : Int) != (y.toNat : Int)) = (x != y) := by
    rw [Bool.eq_iff_iff, bne_iff_ne, bne_iff_ne]
    exact ⟨fun e f => e (by rw [f]), fun e f => e (BitVec.eq_of_toNat_eq (by omega))⟩
  rw [h, e]
theorem u8_of (h0 : 0 ≤ n) (h1 : n < 256) : Value.int .u8 n = U8 (BitVec.ofInt 8 n) := by
  rw [U8, BitVec.toNat_ofInt]; congr 1; omega
theorem u8_eqlc (h0 : 0 ≤ n) (h1 : n < 256) : binOp .eql t (U8 x) (.int .u8 n) = pure (.bool (x == BitVec.ofInt 8 n)) := by
  rw [u8_of n h0 h1, u8_eql]
theorem u8_neqc (h0 : 0 ≤ n) (h1 : n < 256) : binOp .neq t (U8 x) (.int .u8 n) = pure (.bool (x != BitVec.ofInt 8 n)) := by
  rw [u8_of n h0 h1, u8_neq]
attribute [go_sem high] u8_eql u8_neq u8_eqlc u8_neqc
theorem u8_lss : binOp .lss t (U8 x) (U8 y) = pure (.bool (decide ((x.toNat : Int) < (y.toNat : Int)))) := by simp [binOp, Op.intCmp, U8]
theorem u8_lssc : binOp .lss t (U8 x) (.int .u8 n) = pure (.bool (decide ((x.toNat : Int) < n))) := by simp [binOp, Op.intCmp, U8]
attribute [go_sem high] u8_lss u8_lssc
theorem u8_leq : binOp .leq t (U8 x) (U8 y) = pure (.bool (decide ((x.toNat : Int) ≤ (y.toNat : Int)))) := by simp [binOp, Op.intCmp, U8]
theorem u8_leqc : binOp .leq t (U8 x) (.int .u8 n) = pure (.bool (decide ((x.toNat : Int) ≤ n))) := by simp [binOp, Op.intCmp, U8]
attribute [go_sem high] u8_leq u8_leqc
theorem u8_gtr : binOp .gtr t (U8 x) (U8 y) = pure (.bool (decide ((x.toNat : Int) > (y.toNat : Int)))) := by simp [binOp, Op.intCmp, U8]
theorem u8_gtrc : binOp .gtr t (U8 x) (.int .u8 n) = pure (.bool (decide ((x.toNat : Int) > n))) := by simp [binOp, Op.intCmp, U8]
attribute [go_sem high] u8_gtr u8_gtrc
theorem u8_geq : binOp .geq t (U8 x) (U8 y) = pure (.bool (decide ((x.toNat : Int) ≥ (y.toNat : Int)))) := by simp [binOp, Op.intCmp, U8]
theorem u8_geqc : binOp .geq t (U8 x) (.int .u8 n) = pure (.bool (decide ((x.toNat : Int) ≥ n))) := by simp [binOp, Op.intCmp, U8]
attribute [go_sem high] u8_geq u8_geqc
theorem u8_not : Op.unary .xor (U8 x) = pure (U8 (~~~ x)) := by
  have e : (BitVec.ofInt 8 (IntKind.max .u8)) ^^^ x = ~~~ x := by
    have : (BitVec.ofInt 8 (IntKind.max .u8)) = BitVec.allOnes 8 := by decide
    rw [this, BitVec.allOnes_xor]
  show (pure (Value.int .u8 (IntKind.wrap .u8 ((BitVec.ofInt 8 (IntKind.max .u8)) ^^^ (BitVec.ofInt 8 (x.toNat : Int))).toNat)) : Sem Value) = _
  rw [ofInt_toNat, e, u8_back]
attribute [go_sem high] u8_not
theorem u8_store (P : Program) (w : World) (a : Addr) (m : Go.Mode) : (store a (U8 x) m).run P w = stored P w a (U8 x) m := run_store P w a _ m rfl
attribute [go_sem] u8_store
theorem u8_cells : (U8 x).cells = #[U8 x] := rfl
theorem u8_one : (U8 x).oneCell' = true := rfl
theorem u8_match : Value.cells.match_1 (motive := fun _ => Array Value) (U8 x) (fun cs => cs) (fun v => #[v]) = #[U8 x] := rfl
attribute [go_sem ↓ high] u8_cells u8_one
attribute [go_sem] u8_match
theorem u8_storeVar (a : Addr) : storeVar t a (U8 x) = (do
    if 1 ≠ (← sizeOf t) then stuck "storeVar: the value has not the size of the variable"
    store a (U8 x)) := by
  unfold storeVar
  have e : storeCells a (U8 x).cells.toList = store a (U8 x) := by
    show (store (a.add 0) (U8 x) >>= fun _ => pure ()) = _
    rw [show a.add 0 = a from rfl]
    exact bind_pure_unit
  rw [e]; rfl
attribute [go_sem ↓ high] u8_storeVar
theorem u8_guard (op : BinOp) (p q : Operand) (v : Value) : eqGuard op t p q (U8 x) v = pure () := by
  cases op <;> rfl
attribute [go_sem high] u8_guard
end

/-! Words of 32 bits. -/
section
variable (t : TypeId) (x y : BitVec 32) (n : Int)
theorem u32_bits (x : BitVec 32) : (U32 x) = .int .u32 x.toNat := rfl
theorem u32_back (r : BitVec 32) : Value.int .u32 (IntKind.wrap .u32 r.toNat) = U32 r := by
  have h := r.isLt
  rw [wrap_u32_nat, Nat.mod_eq_of_lt h]; rfl
theorem u32_and : binOp .and t (U32 x) (U32 y) = pure (U32 (x &&& y)) := by
  have h : binOp .and t (U32 x) (U32 y) = pure (.int .u32 (IntKind.wrap .u32 ((BitVec.ofInt 32 (x.toNat : Int)) &&& (BitVec.ofInt 32 (y.toNat : Int))).toNat)) := rfl
  rw [h, u32_back]; simp only [ofInt_toNat]
attribute [go_sem high] u32_and
theorem u32_andc : binOp .and t (U32 x) (.int .u32 n) = pure (U32 (x &&& BitVec.ofInt 32 n)) := by
  have h : binOp .and t (U32 x) (.int .u32 n) = pure (.int .u32 (IntKind.wrap .u32 ((BitVec.ofInt 32 (x.toNat : Int)) &&& (BitVec.ofInt 32 n)).toNat)) := rfl
  rw [h, u32_back]; simp only [ofInt_toNat]
attribute [go_sem high] u32_andc
theorem u32_andd : binOp .and t (.int .u32 n) (U32 y) = pure (U32 (BitVec.ofInt 32 n &&& y)) := by
  have h : binOp .and t (.int .u32 n) (U32 y) = pure (.int .u32 (IntKind.wrap .u32 ((BitVec.ofInt 32 n) &&& (BitVec.ofInt 32 (y.toNat : Int))).toNat)) := rfl
  rw [h, u32_back]; simp only [ofInt_toNat]
attribute [go_sem high] u32_andd
theorem u32_or : binOp .or t (U32 x) (U32 y) = pure (U32 (x ||| y)) := by
  have h : binOp .or t (U32 x) (U32 y) = pure (.int .u32 (IntKind.wrap .u32 ((BitVec.ofInt 32 (x.toNat : Int)) ||| (BitVec.ofInt 32 (y.toNat : Int))).toNat)) := rfl
  rw [h, u32_back]; simp only [ofInt_toNat]
attribute [go_sem high] u32_or
theorem u32_orc : binOp .or t (U32 x) (.int .u32 n) = pure (U32 (x ||| BitVec.ofInt 32 n)) := by
  have h : binOp .or t (U32 x) (.int .u32 n) = pure (.int .u32 (IntKind.wrap .u32 ((BitVec.ofInt 32 (x.toNat : Int)) ||| (BitVec.ofInt 32 n)).toNat)) := rfl
  rw [h, u32_back]; simp only [ofInt_toNat]
attribute [go_sem high] u32_orc
theorem u32_ord : binOp .or t (.int .u32 n) (U32 y) = pure (U32 (BitVec.ofInt 32 n ||| y)) := by
  have h : binOp .or t (.int .u32 n) (U32 y) = pure (.int .u32 (IntKind.wrap .u32 ((BitVec.ofInt 32 n) ||| (BitVec.ofInt 32 (y.toNat : Int))).toNat)) := rfl
  rw [h, u32_back]; simp only [ofInt_toNat]
attribute [go_sem high] u32_ord
theorem u32_xor : binOp .xor t (U32 x) (U32 y) = pure (U32 (x ^^^ y)) := by
  have h : binOp .xor t (U32 x) (U32 y) = pure (.int .u32 (IntKind.wrap .u32 ((BitVec.ofInt 32 (x.toNat : Int)) ^^^ (BitVec.ofInt 32 (y.toNat : Int))).toNat)) := rfl
  rw [h, u32_back]; simp only [ofInt_toNat]
attribute [go_sem high] u32_xor
theorem u32_xorc : binOp .xor t (U32 x) (.int .u32 n) = pure (U32 (x ^^^ BitVec.ofInt 32 n)) := by
  have h : binOp .xor t (U32 x) (.int .u32 n) = pure (.int .u32 (IntKind.wrap .u32 ((BitVec.ofInt 32 (x.toNat : Int)) ^^^ (BitVec.ofInt 32 n)).toNat)) := rfl
  rw [h, u32_back]; simp only [ofInt_toNat]
attribute [go_sem high] u32_xorc
theorem u32_xord : binOp .xor t (.int .u32 n) (U32 y) = pure (U32 (BitVec.ofInt 32 n ^^^ y)) := by
  have h : binOp .xor t (.int .u32 n) (U32 y) = pure (.int .u32 (IntKind.wrap .u32 ((BitVec.ofInt 32 n) ^^^ (BitVec.ofInt 32 (y.toNat : Int))).toNat)) := rfl
  rw [h, u32_back]; simp only [ofInt_toNat]
attribute [go_sem high] u32_xord
theorem u32_add : binOp .add t (U32 x) (U32 y) = pure (U32 (x + y)) := by
  have e : BitVec.ofInt 32 ((x.toNat : Int) + (y.toNat : Int)) = x + y := by rw [BitVec.ofInt_add]; simp only [ofInt_toNat]
  have h : binOp .add t (U32 x) (U32 y) = pure (.int .u32 (IntKind.wrap .u32 ((x.toNat : Int) + (y.toNat : Int)))) := by simp [binOp, Op.intArith, U32]
  rw [h, wrap_u32_bv, e]; rfl
attribute [go_sem high] u32_add
theorem u32_addc : binOp .add t (U32 x) (.int .u32 n) = pure (U32 (x + BitVec.ofInt 32 n)) := by
  have e : BitVec.ofInt 32 ((x.toNat : Int) + n) = x + BitVec.ofInt 32 n := by rw [BitVec.ofInt_add]; simp only [ofInt_toNat]
  have h : binOp .add t (U32 x) (.int .u32 n) = pure (.int .u32 (IntKind.wrap .u32 ((x.toNat : Int) + n))) := by simp [binOp, Op.intArith, U32]
  rw [h, wrap_u32_bv, e]; rfl
attribute [go_sem high] u32_addc
theorem u32_addd : binOp .add t (.int .u32 n) (U32 y) = pure (U32 (BitVec.ofInt 32 n + y)) := by
  have e : BitVec.ofInt 32 (n + (y.toNat : Int)) = BitVec.ofInt 32 n + y := by rw [BitVec.ofInt_add]; simp only [ofInt_toNat]
  have h : binOp .add t (.int .u32 n) (U32 y) = pure (.int .u32 (IntKind.wrap .u32 (n + (y.toNat : Int)))) := by simp [binOp, Op.intArith, U32]
  rw [h, wrap_u32_bv, e]; rfl
attribute [go_sem high] u32_addd
theorem u32_sub : binOp .sub t (U32 x) (U32 y) = pure (U32 (x - y)) := by
  have e : BitVec.ofInt 32 ((x.toNat : Int) - (y.toNat : Int)) = x - y := by rw [Int.sub_eq_add_neg, BitVec.ofInt_add, BitVec.ofInt_neg, ← BitVec.sub_eq_add_neg]; simp only [ofInt_toNat]
  have h : binOp .sub t (U32 x) (U32 y) = pure (.int .u32 (IntKind.wrap .u32 ((x.toNat : Int) - (y.toNat : Int)))) := by simp [binOp, Op.intArith, U32]
  rw [h, wrap_u32_bv, e]; rfl
attribute [go_sem high] u32_sub
theorem u32_subc : binOp .sub t (U32 x) (.int .u32 n) = pure (U32 (x - BitVec.ofInt 32 n)) := by
  have e : BitVec.ofInt 32 ((x.toNat : Int) - n) = x - BitVec.ofInt 32 n := by rw [Int.sub_eq_add_neg, BitVec.ofInt_add, BitVec.ofInt_neg, ← BitVec.sub_eq_add_neg]; simp only [ofInt_toNat]
  have h : binOp .sub t (U32 x) (.int .u32 n) = pure (.int .u32 (IntKind.wrap .u32 ((x.toNat : Int) - n))) := by simp [binOp, Op.intArith, U32]
  rw [h, wrap_u32_bv, e]; rfl
attribute [go_sem high] u32_subc
theorem u32_subd : binOp .sub t (.int .u32 n) (U32 y) = pure (U32 (BitVec.ofInt 32 n - y)) := by
  have e : BitVec.ofInt 32 (n - (y.toNat : Int)) = BitVec.ofInt 32 n - y := by rw [Int.sub_eq_add_neg, BitVec.ofInt_add, BitVec.ofInt_neg, ← BitVec.sub_eq_add_neg]; simp only [ofInt_toNat]
  have h : binOp .sub t (.int .u32 n) (U32 y) = pure (.int .u32 (IntKind.wrap .u32 (n - (y.toNat : Int)))) := by simp [binOp, Op.intArith, U32]
  rw [h, wrap_u32_bv, e]; rfl
attribute [go_sem high] u32_subd
theorem u32_mul : binOp .mul t (U32 x) (U32 y) = pure (U32 (x * y)) := by
  have e : BitVec.ofInt 32 ((x.toNat : Int) * (y.toNat : Int)) = x * y := by rw [BitVec.ofInt_mul]; simp only [ofInt_toNat]
  have h : binOp .mul t (U32 x) (U32 y) = pure (.int .u32 (IntKind.wrap .u32 ((x.toNat : Int) * (y.toNat : Int)))) := by simp [binOp, Op.intArith, U32]
  rw [h, wrap_u32_bv, e]; rfl
attribute [go_sem high] u32_mul
theorem u32_mulc : binOp .mul t (U32 x) (.int .u32 n) = pure (U32 (x * BitVec.ofInt 32 n)) := by
  have e : BitVec.ofInt 32 ((x.toNat : Int) * n) = x * BitVec.ofInt 32 n := by rw [BitVec.ofInt_mul]; simp only [ofInt_toNat]
  have h : binOp .mul t (U32 x) (.int .u32 n) = pure (.int .u32 (IntKind.wrap .u32 ((x.toNat : Int) * n))) := by simp [binOp, Op.intArith, U32]
  rw [h, wrap_u32_bv, e]; rfl
attribute [go_sem high] u32_mulc
theorem u32_muld : binOp .mul t (.int .u32 n) (U32 y) = pure (U32 (BitVec.ofInt 32 n * y)) := by
  have e : BitVec.ofInt 32 (n * (y.toNat : Int)) = BitVec.ofInt 32 n * y := by rw [BitVec.ofInt_mul]; simp only [ofInt_toNat]
  have h : binOp .mul t (.int .u32 n) (U32 y) = pure (.int .u32 (IntKind.wrap .u32 (n * (y.toNat : Int)))) := by simp [binOp, Op.intArith, U32]
  rw [h, wrap_u32_bv, e]; rfl
attribute [go_sem high] u32_muld
theorem u32_quoc (h0 : 0 < n) (h1 : n < 4294967296) : binOp .quo t (U32 x) (.int .u32 n) = pure (U32 (x / BitVec.ofInt 32 n)) := by
  obtain ⟨m, rfl⟩ := Int.eq_ofNat_of_zero_le (Int.le_of_lt h0)
  have e : (x / BitVec.ofInt 32 (m : Int)).toNat = x.toNat / m := by
    rw [BitVec.toNat_udiv, BitVec.ofInt_natCast, BitVec.toNat_ofNat, Nat.mod_eq_of_lt (show m < 2 ^ 32 by omega)]
  have h : binOp .quo t (U32 x) (.int .u32 (m : Int)) = pure (.int .u32 (IntKind.wrap .u32 ((x.toNat : Int).tdiv m))) := by
    have hm : ¬ (m : Int) = 0 := by omega
    show Op.intDiv .quo .u32 x.toNat (m : Int) = _
    unfold Op.intDiv; rw [if_neg hm]
  rw [h, show ((x.toNat : Int).tdiv m) = ((x.toNat / m : Nat) : Int) from rfl, ← e, u32_back]
theorem u32_remc (h0 : 0 < n) (h1 : n < 4294967296) : binOp .rem t (U32 x) (.int .u32 n) = pure (U32 (x % BitVec.ofInt 32 n)) := by
  obtain ⟨m, rfl⟩ := Int.eq_ofNat_of_zero_le (Int.le_of_lt h0)
  have e : (x % BitVec.ofInt 32 (m : Int)).toNat = x.toNat % m := by
    rw [BitVec.toNat_umod, BitVec.ofInt_natCast, BitVec.toNat_ofNat, Nat.mod_eq_of_lt (show m < 2 ^ 32 by omega)]
  have h : binOp .rem t (U32 x) (.int .u32 (m : Int)) = pure (.int .u32 ((x.toNat : Int).tmod m)) := by
    have hm : ¬ (m : Int) = 0 := by omega
    show Op.intDiv .rem .u32 x.toNat (m : Int) = _
    unfold Op.intDiv; rw [if_neg hm]
  rw [h, show ((x.toNat : Int).tmod m) = ((x.toNat % m : Nat) : Int) from rfl, ← e]; rfl
attribute [go_sem high] u32_quoc u32_remc
theorem u32_shr_nat (yk : IntKind) (m : Nat) : binOp .shr t (U32 x) (.int yk (m : Int)) = pure (U32 (x >>> m)) := by
  have h : binOp .shr t (U32 x) (.int yk (m : Int)) = pure (.int .u32 ((x.toNat : Int) / 2 ^ min m 32)) := by
    show Op.shift .shr .u32 x.toNat yk (m : Int) = _
    rw [shift_shr_any _ _ _ _ (by omega)]; rfl
  have e : ((x.toNat : Int) / 2 ^ min m 32) = (((x >>> m).toNat : Nat) : Int) := by
    have hp : ((2 : Int) ^ min m 32) = ((2 ^ min m 32 : Nat) : Int) := by simp
    rw [hp, BitVec.toNat_ushiftRight, Nat.shiftRight_eq_div_pow, ← Int.natCast_ediv]
    congr 1
    by_cases hm : m ≤ 32
    · rw [Nat.min_eq_left hm]
    · rw [Nat.min_eq_right (by omega), Nat.div_eq_of_lt x.isLt, Nat.div_eq_of_lt]
      exact Nat.lt_of_lt_of_le x.isLt (Nat.pow_le_pow_right (by decide) (by omega))
  rw [h, e]; rfl
theorem u32_shl_nat (yk : IntKind) (m : Nat) : binOp .shl t (U32 x) (.int yk (m : Int)) = pure (U32 (x <<< m)) := by
  have h : binOp .shl t (U32 x) (.int yk (m : Int)) = pure (.int .u32 (IntKind.wrap .u32 ((x.toNat : Int) * 2 ^ min m 32))) := by
    show Op.shift .shl .u32 x.toNat yk (m : Int) = _
    rw [shift_shl_any _ _ _ _ (by omega)]; rfl
  have e : ((x.toNat : Int) * 2 ^ min m 32) = ((x.toNat * 2 ^ min m 32 : Nat) : Int) := by
    have hp : ((2 : Int) ^ min m 32) = ((2 ^ min m 32 : Nat) : Int) := by simp
    rw [hp, Int.natCast_mul]
  have e2 : x.toNat * 2 ^ min m 32 % 4294967296 = (x <<< m).toNat := by
    rw [BitVec.toNat_shiftLeft, Nat.shiftLeft_eq]
    by_cases hm : m ≤ 32
    · rw [Nat.min_eq_left hm]
    · obtain ⟨j, rfl⟩ : ∃ j, m = 32 + j := ⟨m - 32, by omega⟩
      rw [Nat.min_eq_right (by omega), Nat.pow_add, Nat.mul_comm (2 ^ 32) (2 ^ j), ← Nat.mul_assoc, Nat.mul_mod_left]
      exact (Nat.mul_mod_left _ _).symm
  rw [h, e, wrap_u32_nat, e2]; rfl
theorem u32_shrc (yk : IntKind) (h : 0 ≤ n) : binOp .shr t (U32 x) (.int yk n) = pure (U32 (x >>> n.toNat)) := by
  obtain ⟨m, rfl⟩ := Int.eq_ofNat_of_zero_le h
  exact u32_shr_nat t x yk m
theorem u32_shlc (yk : IntKind) (h : 0 ≤ n) : binOp .shl t (U32 x) (.int yk n) = pure (U32 (x <<< n.toNat)) := by
  obtain ⟨m, rfl⟩ := Int.eq_ofNat_of_zero_le h
  exact u32_shl_nat t x yk m
attribute [go_sem high] u32_shrc u32_shlc
theorem u32_shrU (c : BitVec 64) : binOp .shr t (U32 x) (U64 c) = pure (U32 (x >>> c.toNat)) := u32_shr_nat t x .u64 c.toNat
theorem u32_shlU (c : BitVec 64) : binOp .shl t (U32 x) (U64 c) = pure (U32 (x <<< c.toNat)) := u32_shl_nat t x .u64 c.toNat
attribute [go_sem high] u32_shrU u32_shlU
theorem u32_shld (yk : IntKind) (m : Int) (h0 : 0 ≤ n) (h1 : n < 4294967296) (h : 0 ≤ m) : binOp .shl t (.int .u32 n) (.int yk m) = pure (U32 (BitVec.ofInt 32 n <<< m.toNat)) := by
  have e : Value.int .u32 n = U32 (BitVec.ofInt 32 n) := by rw [U32, BitVec.toNat_ofInt]; congr 1; omega
  rw [e]; exact u32_shlc t (BitVec.ofInt 32 n) m yk h
attribute [go_sem high] u32_shld
theorem u32_eql : binOp .eql t (U32 x) (U32 y) = pure (.bool (x == y)) := by
  have h : binOp .eql t (U32 x) (U32 y) = pure (.bool ((x.toNat : Int) == (y.toNat : Int))) := by simp [binOp, Op.intCmp, U32]
  have e : ((x.toNat : Int) == (y.toNat : Int)) = (x == y) := by
    rw [Bool.eq_iff_iff, beq_iff_eq, beq_iff_eq]
    exact ⟨fun e => BitVec.eq_of_toNat_eq (by omega), fun e => by rw [e]⟩
  rw [h, e]
theorem u32_neq : binOp .neq t (U32 x) (U32 y) = pure (.bool (x != y)) := by
  have h : binOp .neq t (U32 x) (U32 y) = pure (.bool ((x.toNat : Int) != (y.toNat : Int))) := by simp [binOp, Op.intCmp, U32]
  have e : ((x.toNat : Int) != (y.toNat : Int)) = (x != y) := by
    rw [Bool.eq_iff_iff, bne_iff_ne, bne_iff_ne]
    exact ⟨fun e f => e (by rw [f]), fun e f => e (BitVec.eq_of_toNat_eq (by omega))⟩
  rw [h, e]
theorem u32_of (h0 : 0 ≤ n) (h1 : n < 4294967296) : Value.int .u32 n = U32 (BitVec.ofInt 32 n) := by
  rw [U32, BitVec.toNat_ofInt]; congr 1; omega
theorem u32_eqlc (h0 : 0 ≤ n) (h1 : n < 4294967296) : binOp .eql t (U32 x) (.int .u32 n) = pure (.bool (x == BitVec.ofInt 32 n)) := by
  rw [u32_of n h0 h1, u32_eql]
theorem u32_neqc (h0 : 0 ≤ n) (h1 : n < 4294967296) : binOp .neq t (U32 x) (.int .u32 n) = pure (.bool (x != BitVec.ofInt 32 n)) := by
  rw [u32_of n h0 h1, u32_neq]
attribute [go_sem high] u32_eql u32_neq u32_eqlc u32_neqc
theorem u32_lss : binOp .lss t (U32 x) (U32 y) = pure (.bool (decide ((x.toNat : Int) < (y.toNat : Int)))) := by simp [binOp, Op.intCmp, U32]
theorem u32_lssc : binOp .lss t (U32 x) (.int .u32 n) = pure (.bool (decide ((x.toNat : Int) < n))) := by simp [binOp, Op.intCmp, U32]
attribute [go_sem high] u32_lss u32_lssc
theorem u32_leq : binOp .leq t (U32 x) (U32 y) = pure (.bool (decide ((x.toNat : Int) ≤ (y.toNat : Int)))) := by simp [binOp, Op.intCmp, U32]
theorem u32_leqc : binOp .leq t (U32 x) (.int .u32 n) = pure (.bool (decide ((x.toNat : Int) ≤ n))) := by simp [binOp, Op.intCmp, U32]
attribute [go_sem high] u32_leq u32_leqc
theorem u32_gtr : binOp .gtr t (U32 x) (U32 y) = pure (.bool (decide ((x.toNat : Int) > (y.toNat : Int)))) := by simp [binOp, Op.intCmp, U32]
theorem u32_gtrc : binOp .gtr t (U32 x) (.int .u32 n) = pure (.bool (decide ((x.toNat : Int) > n))) := by simp [binOp, Op.intCmp, U32]
attribute [go_sem high] u32_gtr u32_gtrc
theorem u32_geq : binOp .geq t (U32 x) (U32 y) = pure (.bool (decide ((x.toNat : Int) ≥ (y.toNat : Int)))) := by simp [binOp, Op.intCmp, U32]
theorem u32_geqc : binOp .geq t (U32 x) (.int .u32 n) = pure (.bool (decide ((x.toNat : Int) ≥ n))) := by simp [binOp, Op.intCmp, U32]
attribute [go_sem high] u32_geq u32_geqc
theorem u32_not : Op.unary .xor (U32 x) = pure (U32 (~~~ x)) := by
  have e : (BitVec.ofInt 32 (IntKind.max .u32)) ^^^ x = ~~~ x := by
    have : (BitVec.ofInt 32 (IntKind.max .u32)) = BitVec.allOnes 32 := by decide
    rw [this, BitVec.allOnes_xor]
  show (pure (Value.int .u32 (IntKind.wrap .u32 ((BitVec.ofInt 32 (IntKind.max .u32)) ^^^ (BitVec.ofInt 32 (x.toNat : Int))).toNat)) : Sem Value) = _
  rw [ofInt_toNat, e, u32_back]
attribute [go_sem high] u32_not
theorem u32_store (P : Program) (w : World) (a : Addr) (m : Go.Mode) : (store a (U32 x) m).run P w = stored P w a (U32 x) m := run_store P w a _ m rfl
attribute [go_sem] u32_store
theorem u32_cells : (U32 x).cells = #[U32 x] := rfl
theorem u32_one : (U32 x).oneCell' = true := rfl
theorem u32_match : Value.cells.match_1 (motive := fun _ => Array Value) (U32 x) (fun cs => cs) (fun v => #[v]) = #[U32 x] := rfl
attribute [go_sem ↓ high] u32_cells u32_one
attribute [go_sem] u32_match
theorem u32_storeVar (a : Addr) : storeVar t a (U32 x) = (do
    if 1 ≠ (← sizeOf t) then stuck "storeVar: the value has not the size of the variable"
    store a (U32 x)) := by
  unfold storeVar
  have e : storeCells a (U32 x).cells.toList = store a (U32 x) := by
    show (store (a.add 0) (U32 x) >>= fun _ => pure ()) = _
    rw [show a.add 0 = a from rfl]
    exact bind_pure_unit
  rw [e]; rfl
attribute [go_sem ↓ high] u32_storeVar
theorem u32_guard (op : BinOp) (p q : Operand) (v : Value) : eqGuard op t p q (U32 x) v = pure () := by
  cases op <;> rfl
attribute [go_sem high] u32_guard
end

/-! Words of 64 bits. -/
section
variable (t : TypeId) (x y : BitVec 64) (n : Int)
theorem u64_bits (x : BitVec 64) : (U64 x) = .int .u64 x.toNat := rfl
theorem u64_back (r : BitVec 64) : Value.int .u64 (IntKind.wrap .u64 r.toNat) = U64 r := by
  have h := r.isLt
  rw [wrap_u64_nat, Nat.mod_eq_of_lt h]; rfl
theorem u64_and : binOp .and t (U64 x) (U64 y) = pure (U64 (x &&& y)) := by
  have h : binOp .and t (U64 x) (U64 y) = pure (.int .u64 (IntKind.wrap .u64 ((BitVec.ofInt 64 (x.toNat : Int)) &&& (BitVec.ofInt 64 (y.toNat : Int))).toNat)) := rfl
  rw [h, u64_back]; simp only [ofInt_toNat]
attribute [go_sem high] u64_and
theorem u64_andc : binOp .and t (U64 x) (.int .u64 n) = pure (U64 (x &&& BitVec.ofInt 64 n)) := by
  have h : binOp .and t (U64 x) (.int .u64 n) = pure (.int .u64 (IntKind.wrap .u64 ((BitVec.ofInt 64 (x.toNat : Int)) &&& (BitVec.ofInt 64 n)).toNat)) := rfl
  rw [h, u64_back]; simp only [ofInt_toNat]
attribute [go_sem high] u64_andc
theorem u64_andd : binOp .and t (.int .u64 n) (U64 y) = pure (U64 (BitVec.ofInt 64 n &&& y)) := by
  have h : binOp .and t (.int .u64 n) (U64 y) = pure (.int .u64 (IntKind.wrap .u64 ((BitVec.ofInt 64 n) &&& (BitVec.ofInt 64 (y.toNat : Int))).toNat)) := rfl
  rw [h, u64_back]; simp only [ofInt_toNat]
attribute [go_sem high] u64_andd
theorem u64_or : binOp .or t (U64 x) (U64 y) = pure (U64 (x ||| y)) := by
  have h : binOp .or t (U64 x) (U64 y) = pure (.int .u64 (IntKind.wrap .u64 ((BitVec.ofInt 64 (x.toNat : Int)) ||| (BitVec.ofInt 64 (y.toNat : Int))).toNat)) := rfl
  rw [h, u64_back]; simp only [ofInt_toNat]
attribute [go_sem high] u64_or
theorem u64_orc : binOp .or t (U64 x) (.int .u64 n) = pure (U64 (x ||| BitVec.ofInt 64 n)) := by
  have h : binOp .or t (U64 x) (.int .u64 n) = pure (.int .u64 (IntKind.wrap .u64 ((BitVec.ofInt 64 (x.toNat : Int)) ||| (BitVec.ofInt 64 n)).toNat)) := rfl
  rw [h, u64_back]; simp only [ofInt_toNat]
attribute [go_sem high] u64_orc
theorem u64_ord : binOp .or t (.int .u64 n) (U64 y) = pure (U64 (BitVec.ofInt 64 n ||| y)) := by
  have h : binOp .or t (.int .u64 n) (U64 y) = pure (.int .u64 (IntKind.wrap .u64 ((BitVec.ofInt 64 n) ||| (BitVec.ofInt 64 (y.toNat : Int))).toNat)) := rfl
  rw [h, u64_back]; simp only [ofInt_toNat]
attribute [go_sem high] u64_ord
theorem u64_xor : binOp .xor t (U64 x) (U64 y) = pure (U64 (x ^^^ y)) := by
  have h : binOp .xor t (U64 x) (U64 y) = pure (.int .u64 (IntKind.wrap .u64 ((BitVec.ofInt 64 (x.toNat : Int)) ^^^ (BitVec.ofInt 64 (y.toNat : Int))).toNat)) := rfl
  rw [h, u64_back]; simp only [ofInt_toNat]
attribute [go_sem high] u64_xor
theorem u64_xorc : binOp .xor t (U64 x) (.int .u64 n) = pure (U64 (x ^^^ BitVec.ofInt 64 n)) := by
  have h : binOp .xor t (U64 x) (.int .u64 n) = pure (.int .u64 (IntKind.wrap .u64 ((BitVec.ofInt 64 (x.toNat : Int)) ^^^ (BitVec.ofInt 64 n)).toNat)) := rfl
  rw [h, u64_back]; simp only [ofInt_toNat]
attribute [go_sem high] u64_xorc
theorem u64_xord : binOp .xor t (.int .u64 n) (U64 y) = pure (U64 (BitVec.ofInt 64 n ^^^ y)) := by
  have h : binOp .xor t (.int .u64 n) (U64 y) = pure (.int .u64 (IntKind.wrap .u64 ((BitVec.ofInt 64 n) ^^^ (BitVec.ofInt 64 (y.toNat : Int))).toNat)) := rfl
  rw [h, u64_back]; simp only [ofInt_toNat]
attribute [go_sem high] u64_xord
theorem u64_add : binOp .add t (U64 x) (U64 y) = pure (U64 (x + y)) := by
  have e : BitVec.ofInt 64 ((x.toNat : Int) + (y.toNat : Int)) = x + y := by rw [BitVec.ofInt_add]; simp only [ofInt_toNat]
  have h : binOp .add t (U64 x) (U64 y) = pure (.int .u64 (IntKind.wrap .u64 ((x.toNat : Int) + (y.toNat : Int)))) := by simp [binOp, Op.intArith, U64]
  rw [h, wrap_u64_bv, e]; rfl
attribute [go_sem high] u64_add
theorem u64_addc : binOp .add t (U64 x) (.int .u64 n) = pure (U64 (x + BitVec.ofInt 64 n)) := by
  have e : BitVec.ofInt 64 ((x.toNat : Int) + n) = x + BitVec.ofInt 64 n := by rw [BitVec.ofInt_add]; simp only [ofInt_toNat]
  have h : binOp .add t (U64 x) (.int .u64 n) = pure (.int .u64 (IntKind.wrap .u64 ((x.toNat : Int) + n))) := by simp [binOp, Op.intArith, U64]
  rw [h, wrap_u64_bv, e]; rfl
attribute [go_sem high] u64_addc
theorem u64_addd : binOp .add t (.int .u64 n) (U64 y) = pure (U64 (BitVec.ofInt 64 n + y)) := by
  have e : BitVec.ofInt 64 (n + (y.toNat : Int)) = BitVec.ofInt 64 n + y := by rw [BitVec.ofInt_add]; simp only [ofInt_toNat]
  have h : binOp .add t (.int .u64 n) (U64 y) = pure (.int .u64 (IntKind.wrap .u64 (n + (y.toNat : Int)))) := by simp [binOp, Op.intArith, U64]
  rw [h, wrap_u64_bv, e]; rfl
attribute [go_sem high] u64_addd
theorem u64_sub : binOp .sub t (U64 x) (U64 y) = pure (U64 (x - y)) := by
  have e : BitVec.ofInt 64 ((x.toNat : Int) - (y.toNat : Int)) = x - y := by rw [Int.sub_eq_add_neg, BitVec.ofInt_add, BitVec.ofInt_neg, ← BitVec.sub_eq_add_neg]; simp only [ofInt_toNat]
  have h : binOp .sub t (U64 x) (U64 y) = pure (.int .u64 (IntKind.wrap .u64 ((x.toNat : Int) - (y.toNat : Int)))) := by simp [binOp, Op.intArith, U64]
  rw [h, wrap_u64_bv, e]; rfl
attribute [go_sem high] u64_sub
theorem u64_subc : binOp .sub t (U64 x) (.int .u64 n) = pure (U64 (x - BitVec.ofInt 64 n)) := by
  have e : BitVec.ofInt 64 ((x.toNat : Int) - n) = x - BitVec.ofInt 64 n := by rw [Int.sub_eq_add_neg, BitVec.ofInt_add, BitVec.ofInt_neg, ← BitVec.sub_eq_add_neg]; simp only [ofInt_toNat]
  have h : binOp .sub t (U64 x) (.int .u64 n) = pure (.int .u64 (IntKind.wrap .u64 ((x.toNat : Int) - n))) := by simp [binOp, Op.intArith, U64]
  rw [h, wrap_u64_bv, e]; rfl
attribute [go_sem high] u64_subc
theorem u64_subd : binOp .sub t (.int .u64 n) (U64 y) = pure (U64 (BitVec.ofInt 64 n - y)) := by
  have e : BitVec.ofInt 64 (n - (y.toNat : Int)) = BitVec.ofInt 64 n - y := by rw [Int.sub_eq_add_neg, BitVec.ofInt_add, BitVec.ofInt_neg, ← BitVec.sub_eq_add_neg]; simp only [ofInt_toNat]
  have h : binOp .sub t (.int .u64 n) (U64 y) = pure (.int .u64 (IntKind.wrap .u64 (n - (y.toNat : Int)))) := by simp [binOp, Op.intArith, U64]
  rw [h, wrap_u64_bv, e]; rfl
attribute [go_sem high] u64_subd
theorem u64_mul : binOp .mul t (U64 x) (U64 y) = pure (U64 (x * y)) := by
  have e : BitVec.ofInt 64 ((x.toNat : Int) * (y.toNat : Int)) = x * y := by rw [BitVec.ofInt_mul]; simp only [ofInt_toNat]
  have h : binOp .mul t (U64 x) (U64 y) = pure (.int .u64 (IntKind.wrap .u64 ((x.toNat : Int) * (y.toNat : Int)))) := by simp [binOp, Op.intArith, U64]
  rw [h, wrap_u64_bv, e]; rfl
attribute [go_sem high] u64_mul
theorem u64_mulc : binOp .mul t (U64 x) (.int .u64 n) = pure (U64 (x * BitVec.ofInt 64 n)) := by
  have e : BitVec.ofInt 64 ((x.toNat : Int) * n) = x * BitVec.ofInt 64 n := by rw [BitVec.ofInt_mul]; simp only [ofInt_toNat]
  have h : binOp .mul t (U64 x) (.int .u64 n) = pure (.int .u64 (IntKind.wrap .u64 ((x.toNat : Int) * n))) := by simp [binOp, Op.intArith, U64]
  rw [h, wrap_u64_bv, e]; rfl
attribute [go_sem high] u64_mulc
theorem u64_muld : binOp .mul t (.int .u64 n) (U64 y) = pure (U64 (BitVec.ofInt 64 n * y)) := by
  have e : BitVec.ofInt 64 (n * (y.toNat : Int)) = BitVec.ofInt 64 n * y := by rw [BitVec.ofInt_mul]; simp only [ofInt_toNat]
  have h : binOp .mul t (.int .u64 n) (U64 y) = pure (.int .u64 (IntKind.wrap .u64 (n * (y.toNat : Int)))) := by simp [binOp, Op.intArith, U64]
  rw [h, wrap_u64_bv, e]; rfl
attribute [go_sem high] u64_muld
theorem u64_quoc (h0 : 0 < n) (h1 : n < 18446744073709551616) : binOp .quo t (U64 x) (.int .u64 n) = pure (U64 (x / BitVec.ofInt 64 n)) := by
  obtain ⟨m, rfl⟩ := Int.eq_ofNat_of_zero_le (Int.le_of_lt h0)
  have e : (x / BitVec.ofInt 64 (m : Int)).toNat = x.toNat / m := by
    rw [BitVec.toNat_udiv, BitVec.ofInt_natCast, BitVec.toNat_ofNat, Nat.mod_eq_of_lt (show m < 2 ^ 64 by omega)]
  have h : binOp .quo t (U64 x) (.int .u64 (m : Int)) = pure (.int .u64 (IntKind.wrap .u64 ((x.toNat : Int).tdiv m))) := by
    have hm : ¬ (m : Int) = 0 := by omega
    show Op.intDiv .quo .u64 x.toNat (m : Int) = _
    unfold Op.intDiv; rw [if_neg hm]
  rw [h, show ((x.toNat : Int).tdiv m) = ((x.toNat / m : Nat) : Int) from rfl, ← e, u64_back]
theorem u64_remc (h0 : 0 < n) (h1 : n < 18446744073709551616) : binOp .rem t (U64 x) (.int .u64 n) = pure (U64 (x % BitVec.ofInt 64 n)) := by
  obtain ⟨m, rfl⟩ := Int.eq_ofNat_of_zero_le (Int.le_of_lt h0)
  have e : (x % BitVec.ofInt 64 (m : Int)).toNat = x.toNat % m := by
    rw [BitVec.toNat_umod, BitVec.ofInt_natCast, BitVec.toNat_ofNat, Nat.mod_eq_of_lt (show m < 2 ^ 64 by omega)]
  have h : binOp .rem t (U64 x) (.int .u64 (m : Int)) = pure (.int .u64 ((x.toNat : Int).tmod m)) := by
    have hm : ¬ (m : Int) = 0 := by omega
    show Op.intDiv .rem .u64 x.toNat (m : Int) = _
    unfold Op.intDiv; rw [if_neg hm]
  rw [h, show ((x.toNat : Int).tmod m) = ((x.toNat % m : Nat) : Int) from rfl, ← e]; rfl
attribute [go_sem high] u64_quoc u64_remc
theorem u64_shr_nat (yk : IntKind) (m : Nat) : binOp .shr t (U64 x) (.int yk (m : Int)) = pure (U64 (x >>> m)) := by
  have h : binOp .shr t (U64 x) (.int yk (m : Int)) = pure (.int .u64 ((x.toNat : Int) / 2 ^ min m 64)) := by
    show Op.shift .shr .u64 x.toNat yk (m : Int) = _
    rw [shift_shr_any _ _ _ _ (by omega)]; rfl
  have e : ((x.toNat : Int) / 2 ^ min m 64) = (((x >>> m).toNat : Nat) : Int) := by
    have hp : ((2 : Int) ^ min m 64) = ((2 ^ min m 64 : Nat) : Int) := by simp
    rw [hp, BitVec.toNat_ushiftRight, Nat.shiftRight_eq_div_pow, ← Int.natCast_ediv]
    congr 1
    by_cases hm : m ≤ 64
    · rw [Nat.min_eq_left hm]
    · rw [Nat.min_eq_right (by omega), Nat.div_eq_of_lt x.isLt, Nat.div_eq_of_lt]
      exact Nat.lt_of_lt_of_le x.isLt (Nat.pow_le_pow_right (by decide) (by omega))
  rw [h, e]; rfl
theorem u64_shl_nat (yk : IntKind) (m : Nat) : binOp .shl t (U64 x) (.int yk (m : Int)) = pure (U64 (x <<< m)) := by
  have h : binOp .shl t (U64 x) (.int yk (m : Int)) = pure (.int .u64 (IntKind.wrap .u64 ((x.toNat : Int) * 2 ^ min m 64))) := by
    show Op.shift .shl .u64 x.toNat yk (m : Int) = _
    rw [shift_shl_any _ _ _ _ (by omega)]; rfl
  have e : ((x.toNat : Int) * 2 ^ min m 64) = ((x.toNat * 2 ^ min m 64 : Nat) : Int) := by
    have hp : ((2 : Int) ^ min m 64) = ((2 ^ min m 64 : Nat) : Int) := by simp
    rw [hp, Int.natCast_mul]
  have e2 : x.toNat * 2 ^ min m 64 % 18446744073709551616 = (x <<< m).toNat := by
    rw [BitVec.toNat_shiftLeft, Nat.shiftLeft_eq]
    by_cases hm : m ≤ 64
    · rw [Nat.min_eq_left hm]
    · obtain ⟨j, rfl⟩ : ∃ j, m = 64 + j := ⟨m - 64, by omega⟩
      rw [Nat.min_eq_right (by omega), Nat.pow_add, Nat.mul_comm (2 ^ 64) (2 ^ j), ← Nat.mul_assoc, Nat.mul_mod_left]
      exact (Nat.mul_mod_left _ _).symm
  rw [h, e, wrap_u64_nat, e2]; rfl
theorem u64_shrc (yk : IntKind) (h : 0 ≤ n) : binOp .shr t (U64 x) (.int yk n) = pure (U64 (x >>> n.toNat)) := by
  obtain ⟨m, rfl⟩ := Int.eq_ofNat_of_zero_le h
  exact u64_shr_nat t x yk m
theorem u64_shlc (yk : IntKind) (h : 0 ≤ n) : binOp .shl t (U64 x) (.int yk n) = pure (U64 (x <<< n.toNat)) := by
  obtain ⟨m, rfl⟩ := Int.eq_ofNat_of_zero_le h
  exact u64_shl_nat t x yk m
attribute [go_sem high] u64_shrc u64_shlc
theorem u64_shrU (c : BitVec 64) : binOp .shr t (U64 x) (U64 c) = pure (U64 (x >>> c.toNat)) := u64_shr_nat t x .u64 c.toNat
theorem u64_shlU (c : BitVec 64) : binOp .shl t (U64 x) (U64 c) = pure (U64 (x <<< c.toNat)) := u64_shl_nat t x .u64 c.toNat
attribute [go_sem high] u64_shrU u64_shlU
theorem u64_shld (yk : IntKind) (m : Int) (h0 : 0 ≤ n) (h1 : n < 18446744073709551616) (h : 0 ≤ m) : binOp .shl t (.int .u64 n) (.int yk m) = pure (U64 (BitVec.ofInt 64 n <<< m.toNat)) := by
  have e : Value.int .u64 n = U64 (BitVec.ofInt 64 n) := by rw [U64, BitVec.toNat_ofInt]; congr 1; omega
  rw [e]; exact u64_shlc t (BitVec.ofInt 64 n) m yk h
attribute [go_sem high] u64_shld
theorem u64_eql : binOp .eql t (U64 x) (U64 y) = pure (.bool (x == y)) := by
  have h : binOp .eql t (U64 x) (U64 y) = pure (.bool ((x.toNat : Int) == (y.toNat : Int))) := by simp [binOp, Op.intCmp, U64]
  have e : ((x.toNat : Int) == (y.toNat : Int)) = (x == y) := by
    rw [Bool.eq_iff_iff, beq_iff_eq, beq_iff_eq]
    exact ⟨fun e => BitVec.eq_of_toNat_eq (by omega), fun e => by rw [e]⟩
  rw [h, e]
theorem u64_neq : binOp .neq t (U64 x) (U64 y) = pure (.bool (x != y)) := by
  have h : binOp .neq t (U64 x) (U64 y) = pure (.bool ((x.toNat : Int) != (y.toNat : Int))) := by simp [binOp, Op.intCmp, U64]
  have e : ((x.toNat : Int) != (y.toNat : Int)) = (x != y) := by
    rw [Bool.eq_iff_iff, bne_iff_ne, bne_iff_ne]
    exact ⟨fun e f => e (by rw [f]), fun e f => e (BitVec.eq_of_toNat_eq (by omega))⟩
  rw [h, e]
theorem u64_of (h0 : 0 ≤ n) (h1 : n < 18446744073709551616) : Value.int .u64 n = U64 (BitVec.ofInt 64 n) := by
  rw [U64, BitVec.toNat_ofInt]; congr 1; omega
theorem u64_eqlc (h0 : 0 ≤ n) (h1 : n < 18446744073709551616) : binOp .eql t (U64 x) (.int .u64 n) = pure (.bool (x == BitVec.ofInt 64 n)) := by
  rw [u64_of n h0 h1, u64_eql]
theorem u64_neqc (h0 : 0 ≤ n) (h1 : n < 18446744073709551616) : binOp .neq t (U64 x) (.int .u64 n) = pure (.bool (x != BitVec.ofInt 64 n)) := by
  rw [u64_of n h0 h1, u64_neq]
attribute [go_sem high] u64_eql u64_neq u64_eqlc u64_neqc
theorem u64_lss : binOp .lss t (U64 x) (U64 y) = pure (.bool (decide ((x.toNat : Int) < (y.toNat : Int)))) := by simp [binOp, Op.intCmp, U64]
theorem u64_lssc : binOp .lss t (U64 x) (.int .u64 n) = pure (.bool (decide ((x.toNat : Int) < n))) := by simp [binOp, Op.intCmp, U64]
attribute [go_sem high] u64_lss u64_lssc
theorem u64_leq : binOp .leq t (U64 x) (U64 y) = pure (.bool (decide ((x.toNat : Int) ≤ (y.toNat : Int)))) := by simp [binOp, Op.intCmp, U64]
theorem u64_leqc : binOp .leq t (U64 x) (.int .u64 n) = pure (.bool (decide ((x.toNat : Int) ≤ n))) := by simp [binOp, Op.intCmp, U64]
attribute [go_sem high] u64_leq u64_leqc
theorem u64_gtr : binOp .gtr t (U64 x) (U64 y) = pure (.bool (decide ((x.toNat : Int) > (y.toNat : Int)))) := by simp [binOp, Op.intCmp, U64]
theorem u64_gtrc : binOp .gtr t (U64 x) (.int .u64 n) = pure (.bool (decide ((x.toNat : Int) > n))) := by simp [binOp, Op.intCmp, U64]
attribute [go_sem high] u64_gtr u64_gtrc
theorem u64_geq : binOp .geq t (U64 x) (U64 y) = pure (.bool (decide ((x.toNat : Int) ≥ (y.toNat : Int)))) := by simp [binOp, Op.intCmp, U64]
theorem u64_geqc : binOp .geq t (U64 x) (.int .u64 n) = pure (.bool (decide ((x.toNat : Int) ≥ n))) := by simp [binOp, Op.intCmp, U64]
attribute [go_sem high] u64_geq u64_geqc
theorem u64_not : Op.unary .xor (U64 x) = pure (U64 (~~~ x)) := by
  have e : (BitVec.ofInt 64 (IntKind.max .u64)) ^^^ x = ~~~ x := by
    have : (BitVec.ofInt 64 (IntKind.max .u64)) = BitVec.allOnes 64 := by decide
    rw [this, BitVec.allOnes_xor]
  show (pure (Value.int .u64 (IntKind.wrap .u64 ((BitVec.ofInt 64 (IntKind.max .u64)) ^^^ (BitVec.ofInt 64 (x.toNat : Int))).toNat)) : Sem Value) = _
  rw [ofInt_toNat, e, u64_back]
attribute [go_sem high] u64_not
theorem u64_store (P : Program) (w : World) (a : Addr) (m : Go.Mode) : (store a (U64 x) m).run P w = stored P w a (U64 x) m := run_store P w a _ m rfl
attribute [go_sem] u64_store
theorem u64_cells : (U64 x).cells = #[U64 x] := rfl
theorem u64_one : (U64 x).oneCell' = true := rfl
theorem u64_match : Value.cells.match_1 (motive := fun _ => Array Value) (U64 x) (fun cs => cs) (fun v => #[v]) = #[U64 x] := rfl
attribute [go_sem ↓ high] u64_cells u64_one
attribute [go_sem] u64_match
theorem u64_storeVar (a : Addr) : storeVar t a (U64 x) = (do
    if 1 ≠ (← sizeOf t) then stuck "storeVar: the value has not the size of the variable"
    store a (U64 x)) := by
  unfold storeVar
  have e : storeCells a (U64 x).cells.toList = store a (U64 x) := by
    show (store (a.add 0) (U64 x) >>= fun _ => pure ()) = _
    rw [show a.add 0 = a from rfl]
    exact bind_pure_unit
  rw [e]; rfl
attribute [go_sem ↓ high] u64_storeVar
theorem u64_guard (op : BinOp) (p q : Operand) (v : Value) : eqGuard op t p q (U64 x) v = pure () := by
  cases op <;> rfl
attribute [go_sem high] u64_guard
end

/-! From width to width. -/
section
variable (P : Program) (w : World) (src dst : TypeId)
theorem conv_8_8 (x : BitVec 8) (hs : (P.underlying src).isSome = true) (hd : P.underlying dst = some (.int .u8)) : (convert src dst (U8 x)).run P w = .ok (U8 (x.setWidth 8)) w := by
  have hk : P.intKind dst = .u8 := by simp [Program.intKind, hd]
  have h := run_convert_int (P := P) w src dst .u8 x.toNat hs (by rw [hk]; exact hd)
  rw [hk] at h
  rw [U8, h, wrap_u8_bv]
  have e : BitVec.ofInt 8 (x.toNat : Int) = x.setWidth 8 := by rw [BitVec.ofInt_natCast, BitVec.ofNat_toNat]
  rw [e]; rfl
attribute [go_sem high] conv_8_8
theorem conv_8_32 (x : BitVec 8) (hs : (P.underlying src).isSome = true) (hd : P.underlying dst = some (.int .u32)) : (convert src dst (U8 x)).run P w = .ok (U32 (x.setWidth 32)) w := by
  have hk : P.intKind dst = .u32 := by simp [Program.intKind, hd]
  have h := run_convert_int (P := P) w src dst .u8 x.toNat hs (by rw [hk]; exact hd)
  rw [hk] at h
  rw [U8, h, wrap_u32_bv]
  have e : BitVec.ofInt 32 (x.toNat : Int) = x.setWidth 32 := by rw [BitVec.ofInt_natCast, BitVec.ofNat_toNat]
  rw [e]; rfl
attribute [go_sem high] conv_8_32
theorem conv_8_64 (x : BitVec 8) (hs : (P.underlying src).isSome = true) (hd : P.underlying dst = some (.int .u64)) : (convert src dst (U8 x)).run P w = .ok (U64 (x.setWidth 64)) w := by
  have hk : P.intKind dst = .u64 := by simp [Program.intKind, hd]
  have h := run_convert_int (P := P) w src dst .u8 x.toNat hs (by rw [hk]; exact hd)
  rw [hk] at h
  rw [U8, h, wrap_u64_bv]
  have e : BitVec.ofInt 64 (x.toNat : Int) = x.setWidth 64 := by rw [BitVec.ofInt_natCast, BitVec.ofNat_toNat]
  rw [e]; rfl
attribute [go_sem high] conv_8_64
theorem conv_32_8 (x : BitVec 32) (hs : (P.underlying src).isSome = true) (hd : P.underlying dst = some (.int .u8)) : (convert src dst (U32 x)).run P w = .ok (U8 (x.setWidth 8)) w := by
  have hk : P.intKind dst = .u8 := by simp [Program.intKind, hd]
  have h := run_convert_int (P := P) w src dst .u32 x.toNat hs (by rw [hk]; exact hd)
  rw [hk] at h
  rw [U32, h, wrap_u8_bv]
  have e : BitVec.ofInt 8 (x.toNat : Int) = x.setWidth 8 := by rw [BitVec.ofInt_natCast, BitVec.ofNat_toNat]
  rw [e]; rfl
attribute [go_sem high] conv_32_8
theorem conv_32_32 (x : BitVec 32) (hs : (P.underlying src).isSome = true) (hd : P.underlying dst = some (.int .u32)) : (convert src dst (U32 x)).run P w = .ok (U32 (x.setWidth 32)) w := by
  have hk : P.intKind dst = .u32 := by simp [Program.intKind, hd]
  have h := run_convert_int (P := P) w src dst .u32 x.toNat hs (by rw [hk]; exact hd)
  rw [hk] at h
  rw [U32, h, wrap_u32_bv]
  have e : BitVec.ofInt 32 (x.toNat : Int) = x.setWidth 32 := by rw [BitVec.ofInt_natCast, BitVec.ofNat_toNat]
  rw [e]; rfl
attribute [go_sem high] conv_32_32
theorem conv_32_64 (x : BitVec 32) (hs : (P.underlying src).isSome = true) (hd : P.underlying dst = some (.int .u64)) : (convert src dst (U32 x)).run P w = .ok (U64 (x.setWidth 64)) w := by
  have hk : P.intKind dst = .u64 := by simp [Program.intKind, hd]
  have h := run_convert_int (P := P) w src dst .u32 x.toNat hs (by rw [hk]; exact hd)
  rw [hk] at h
  rw [U32, h, wrap_u64_bv]
  have e : BitVec.ofInt 64 (x.toNat : Int) = x.setWidth 64 := by rw [BitVec.ofInt_natCast, BitVec.ofNat_toNat]
  rw [e]; rfl
attribute [go_sem high] conv_32_64
theorem conv_64_8 (x : BitVec 64) (hs : (P.underlying src).isSome = true) (hd : P.underlying dst = some (.int .u8)) : (convert src dst (U64 x)).run P w = .ok (U8 (x.setWidth 8)) w := by
  have hk : P.intKind dst = .u8 := by simp [Program.intKind, hd]
  have h := run_convert_int (P := P) w src dst .u64 x.toNat hs (by rw [hk]; exact hd)
  rw [hk] at h
  rw [U64, h, wrap_u8_bv]
  have e : BitVec.ofInt 8 (x.toNat : Int) = x.setWidth 8 := by rw [BitVec.ofInt_natCast, BitVec.ofNat_toNat]
  rw [e]; rfl
attribute [go_sem high] conv_64_8
theorem conv_64_32 (x : BitVec 64) (hs : (P.underlying src).isSome = true) (hd : P.underlying dst = some (.int .u32)) : (convert src dst (U64 x)).run P w = .ok (U32 (x.setWidth 32)) w := by
  have hk : P.intKind dst = .u32 := by simp [Program.intKind, hd]
  have h := run_convert_int (P := P) w src dst .u64 x.toNat hs (by rw [hk]; exact hd)
  rw [hk] at h
  rw [U64, h, wrap_u32_bv]
  have e : BitVec.ofInt 32 (x.toNat : Int) = x.setWidth 32 := by rw [BitVec.ofInt_natCast, BitVec.ofNat_toNat]
  rw [e]; rfl
attribute [go_sem high] conv_64_32
theorem conv_64_64 (x : BitVec 64) (hs : (P.underlying src).isSome = true) (hd : P.underlying dst = some (.int .u64)) : (convert src dst (U64 x)).run P w = .ok (U64 (x.setWidth 64)) w := by
  have hk : P.intKind dst = .u64 := by simp [Program.intKind, hd]
  have h := run_convert_int (P := P) w src dst .u64 x.toNat hs (by rw [hk]; exact hd)
  rw [hk] at h
  rw [U64, h, wrap_u64_bv]
  have e : BitVec.ofInt 64 (x.toNat : Int) = x.setWidth 64 := by rw [BitVec.ofInt_natCast, BitVec.ofNat_toNat]
  rw [e]; rfl
attribute [go_sem high] conv_64_64
theorem conv_8_i64 (x : BitVec 8) (hs : (P.underlying src).isSome = true) (hd : P.underlying dst = some (.int .i64)) : (convert src dst (U8 x)).run P w = .ok (.int .i64 x.toNat) w := by
  have hk : P.intKind dst = .i64 := by simp [Program.intKind, hd]
  have h := run_convert_int (P := P) w src dst .u8 x.toNat hs (by rw [hk]; exact hd)
  have hx := x.isLt
  rw [hk, IntWalk.i64_in _ (by omega)] at h
  exact h
attribute [go_sem high] conv_8_i64
theorem conv_32_i64 (x : BitVec 32) (hs : (P.underlying src).isSome = true) (hd : P.underlying dst = some (.int .i64)) : (convert src dst (U32 x)).run P w = .ok (.int .i64 x.toNat) w := by
  have hk : P.intKind dst = .i64 := by simp [Program.intKind, hd]
  have h := run_convert_int (P := P) w src dst .u32 x.toNat hs (by rw [hk]; exact hd)
  have hx := x.isLt
  rw [hk, IntWalk.i64_in _ (by omega)] at h
  exact h
attribute [go_sem high] conv_32_i64
end

/-! Places. -/
section
variable {P : Program} (w : World)
theorem indexAt_slice_8 (t : TypeId) (a : Addr) (len cap : Nat) (i : BitVec 8) (h : P.underlying t = some (.slice (P.elem t))) (hi : idx i < len) :
    (Instr.indexAt t (.slice (some a) len cap) (U8 i)).run P w = ((sizeOf (P.elem t)).run P w).andThen fun s w => .ok (.pointer (some (a.add (idx i * s)))) w := by
  rw [U8, run_indexAt_slice w t a len cap .u8 i.toNat h, if_pos (by unfold idx at hi; omega)]; rfl
theorem indexAt_array_8 (t : TypeId) (a : Addr) (i : BitVec 8) (h : P.underlying t = some (.array (P.arrayLen t) (P.elem t))) (hi : idx i < P.arrayLen t) :
    (Instr.indexAt t (.pointer (some a)) (U8 i)).run P w = ((sizeOf (P.elem t)).run P w).andThen fun s w => .ok (.pointer (some (a.add (idx i * s)))) w := by
  rw [U8, run_indexAt_array w t a .u8 i.toNat h, if_pos (by unfold idx at hi; omega)]; rfl
attribute [go_sem high] indexAt_slice_8 indexAt_array_8
theorem indexAt_slice_32 (t : TypeId) (a : Addr) (len cap : Nat) (i : BitVec 32) (h : P.underlying t = some (.slice (P.elem t))) (hi : idx i < len) :
    (Instr.indexAt t (.slice (some a) len cap) (U32 i)).run P w = ((sizeOf (P.elem t)).run P w).andThen fun s w => .ok (.pointer (some (a.add (idx i * s)))) w := by
  rw [U32, run_indexAt_slice w t a len cap .u32 i.toNat h, if_pos (by unfold idx at hi; omega)]; rfl
theorem indexAt_array_32 (t : TypeId) (a : Addr) (i : BitVec 32) (h : P.underlying t = some (.array (P.arrayLen t) (P.elem t))) (hi : idx i < P.arrayLen t) :
    (Instr.indexAt t (.pointer (some a)) (U32 i)).run P w = ((sizeOf (P.elem t)).run P w).andThen fun s w => .ok (.pointer (some (a.add (idx i * s)))) w := by
  rw [U32, run_indexAt_array w t a .u32 i.toNat h, if_pos (by unfold idx at hi; omega)]; rfl
attribute [go_sem high] indexAt_slice_32 indexAt_array_32
theorem indexAt_slice_64 (t : TypeId) (a : Addr) (len cap : Nat) (i : BitVec 64) (h : P.underlying t = some (.slice (P.elem t))) (hi : idx i < len) :
    (Instr.indexAt t (.slice (some a) len cap) (U64 i)).run P w = ((sizeOf (P.elem t)).run P w).andThen fun s w => .ok (.pointer (some (a.add (idx i * s)))) w := by
  rw [U64, run_indexAt_slice w t a len cap .u64 i.toNat h, if_pos (by unfold idx at hi; omega)]; rfl
theorem indexAt_array_64 (t : TypeId) (a : Addr) (i : BitVec 64) (h : P.underlying t = some (.array (P.arrayLen t) (P.elem t))) (hi : idx i < P.arrayLen t) :
    (Instr.indexAt t (.pointer (some a)) (U64 i)).run P w = ((sizeOf (P.elem t)).run P w).andThen fun s w => .ok (.pointer (some (a.add (idx i * s)))) w := by
  rw [U64, run_indexAt_array w t a .u64 i.toNat h, if_pos (by unfold idx at hi; omega)]; rfl
attribute [go_sem high] indexAt_slice_64 indexAt_array_64
end
end Go.Proofs.Ytahmnpbfjfllmaa
