/- Words of 8, 32 and 64 bits as values of the model, and what each operation on them gives: for any program. Rows of bytes in memory, as lists of words of 8 bits: for any program. The small helpers of the document's first reference: what each gives. Slices of slices of bytes; slices of numbers: for any program. -/
import Derived.WalkKit
import Derived.WalkLawsBesides
import Derived.WalkSpells
import Derived.Laws.AppendOwnNone
import Derived.WalkSmall
import Derived.Test.YtbicafgmfgdckaaGreatDoorProg
import Derived.Lib.Hide
import Derived.Deep.QuietTactic
import Derived.BigQuiet
namespace Go.Proofs.YtbicafgmfgdckaaGreatDoor
open Go

theorem ofInt_toNat (n : Nat) (x : BitVec n) : BitVec.ofInt n (x.toNat : Int) = x := by
 rw [BitVec.ofInt_natCast, BitVec.ofNat_toNat, BitVec.setWidth_eq]
theorem wrap_u32_nat (n : Nat) : IntKind.u32.wrap (n : Int) = ((n % 4294967296 : Nat) : Int) := by rw [IntKind.wrap_u32']; omega
theorem wrap_u64_nat (n : Nat) : IntKind.u64.wrap (n : Int) = ((n % 18446744073709551616 : Nat) : Int) := by rw [IntKind.wrap_u64]; omega
theorem wrap_u8_bv (n : Int) : IntKind.u8.wrap n = ((BitVec.ofInt 8 n).toNat : Int) := by rw [IntKind.wrap_u8', BitVec.toNat_ofInt]; omega
theorem wrap_u32_bv (n : Int) : IntKind.u32.wrap n = ((BitVec.ofInt 32 n).toNat : Int) := by rw [IntKind.wrap_u32', BitVec.toNat_ofInt]; omega
theorem wrap_u64_bv (n : Int) : IntKind.u64.wrap n = ((BitVec.ofInt 64 n).toNat : Int) := by rw [IntKind.wrap_u64, BitVec.toNat_ofInt]; omega
def idx {n : Nat} (x : BitVec n) : Nat := x.toNat
def U8 (x : BitVec 8) : Value := .int .u8 x.toNat
def U32 (x : BitVec 32) : Value := .int .u32 x.toNat
def U64 (x : BitVec 64) : Value := .int .u64 x.toNat


section
variable (t : TypeId) (x y : BitVec 8) (n : Int)
theorem u8_of (h0 : 0 <= n) (h1 : n < 256) : Value.int .u8 n = U8 (BitVec.ofInt 8 n) := by
 rw [U8, BitVec.toNat_ofInt]; congr 1; omega
theorem u8_store (P : Program) (w : World) (a : Addr) (m : Go.Mode) : (store a (U8 x) m).run P w = stored P w a (U8 x) m := run_store P w a _ m rfl
attribute [go_sem] u8_store
theorem u8_cells : (U8 x).cells = #[U8 x] := rfl
theorem u8_one : (U8 x).oneCell' = true := rfl
theorem u8_match : Value.cells.match_1 (motive := fun _ => Array Value) (U8 x) (fun cs => cs) (fun v => #[v]) = #[U8 x] := rfl
attribute [go_sem ↓ high] u8_cells u8_one
attribute [go_sem] u8_match
theorem u8_storeVar (a : Addr) : storeVar t a (U8 x) = (do
  if 1 ≠ (<- sizeOf t) then stuck "storeVar: the value has not the size of the variable"
  store a (U8 x)) := by
 unfold storeVar
 have e : storeCells a (U8 x).cells.toList = store a (U8 x) := by
  show (store (a.add 0) (U8 x) >>= fun _ => pure ()) = _
  rw [show a.add 0 = a from rfl]
  exact bind_pure_unit
 rw [e]; rfl
attribute [go_sem ↓ high] u8_storeVar
theorem u8_guard (op : BinOp) (p q : Operand) (v : Value) : eqGuard op t p q (U8 x) v = pure () := by
 cases op <;> rfl
attribute [go_sem high] u8_guard
end

section
variable (t : TypeId) (x y : BitVec 32) (n : Int)
theorem u32_back (r : BitVec 32) : Value.int .u32 (IntKind.wrap .u32 r.toNat) = U32 r := by
 have h := r.isLt
 rw [wrap_u32_nat, Nat.mod_eq_of_lt h]; rfl
theorem u32_and : binOp .and t (U32 x) (U32 y) = pure (U32 (x &&& y)) := by
 have h : binOp .and t (U32 x) (U32 y) = pure (.int .u32 (IntKind.wrap .u32 ((BitVec.ofInt 32 (x.toNat : Int)) &&& (BitVec.ofInt 32 (y.toNat : Int))).toNat)) := rfl
 rw [h, u32_back]; simp only [ofInt_toNat]
attribute [go_sem high] u32_and
theorem u32_or : binOp .or t (U32 x) (U32 y) = pure (U32 (x ||| y)) := by
 have h : binOp .or t (U32 x) (U32 y) = pure (.int .u32 (IntKind.wrap .u32 ((BitVec.ofInt 32 (x.toNat : Int)) ||| (BitVec.ofInt 32 (y.toNat : Int))).toNat)) := rfl
 rw [h, u32_back]; simp only [ofInt_toNat]
attribute [go_sem high] u32_or
theorem u32_xor : binOp .xor t (U32 x) (U32 y) = pure (U32 (x ^^^ y)) := by
 have h : binOp .xor t (U32 x) (U32 y) = pure (.int .u32 (IntKind.wrap .u32 ((BitVec.ofInt 32 (x.toNat : Int)) ^^^ (BitVec.ofInt 32 (y.toNat : Int))).toNat)) := rfl
 rw [h, u32_back]; simp only [ofInt_toNat]
attribute [go_sem high] u32_xor
theorem u32_xorc : binOp .xor t (U32 x) (.int .u32 n) = pure (U32 (x ^^^ BitVec.ofInt 32 n)) := by
 have h : binOp .xor t (U32 x) (.int .u32 n) = pure (.int .u32 (IntKind.wrap .u32 ((BitVec.ofInt 32 (x.toNat : Int)) ^^^ (BitVec.ofInt 32 n)).toNat)) := rfl
 rw [h, u32_back]; simp only [ofInt_toNat]
attribute [go_sem high] u32_xorc
theorem u32_add : binOp .add t (U32 x) (U32 y) = pure (U32 (x + y)) := by
 have e : BitVec.ofInt 32 ((x.toNat : Int) + (y.toNat : Int)) = x + y := by rw [BitVec.ofInt_add]; simp only [ofInt_toNat]
 have h : binOp .add t (U32 x) (U32 y) = pure (.int .u32 (IntKind.wrap .u32 ((x.toNat : Int) + (y.toNat : Int)))) := by simp [binOp, Op.intArith, U32]
 rw [h, wrap_u32_bv, e]; rfl
attribute [go_sem high] u32_add
theorem u32_addc : binOp .add t (U32 x) (.int .u32 n) = pure (U32 (x + BitVec.ofInt 32 n)) := by
 have e : BitVec.ofInt 32 ((x.toNat : Int) + n) = x + BitVec.ofInt 32 n := by rw [BitVec.ofInt_add]; simp only [ofInt_toNat]
 have h : binOp .add t (U32 x) (.int .u32 n) = pure (.int .u32 (IntKind.wrap .u32 ((x.toNat : Int) + n))) := by simp [binOp, Op.intArith, U32]
 rw [h, wrap_u32_bv, e]; rfl
attribute [go_sem high] u32_addc
theorem u32_subc : binOp .sub t (U32 x) (.int .u32 n) = pure (U32 (x - BitVec.ofInt 32 n)) := by
 have e : BitVec.ofInt 32 ((x.toNat : Int) - n) = x - BitVec.ofInt 32 n := by rw [Int.sub_eq_add_neg, BitVec.ofInt_add, BitVec.ofInt_neg, <- BitVec.sub_eq_add_neg]; simp only [ofInt_toNat]
 have h : binOp .sub t (U32 x) (.int .u32 n) = pure (.int .u32 (IntKind.wrap .u32 ((x.toNat : Int) - n))) := by simp [binOp, Op.intArith, U32]
 rw [h, wrap_u32_bv, e]; rfl
attribute [go_sem high] u32_subc
theorem u32_mulc : binOp .mul t (U32 x) (.int .u32 n) = pure (U32 (x * BitVec.ofInt 32 n)) := by
 have e : BitVec.ofInt 32 ((x.toNat : Int) * n) = x * BitVec.ofInt 32 n := by rw [BitVec.ofInt_mul]; simp only [ofInt_toNat]
 have h : binOp .mul t (U32 x) (.int .u32 n) = pure (.int .u32 (IntKind.wrap .u32 ((x.toNat : Int) * n))) := by simp [binOp, Op.intArith, U32]
 rw [h, wrap_u32_bv, e]; rfl
attribute [go_sem high] u32_mulc
theorem u32_quoc (h0 : 0 < n) (h1 : n < 4294967296) : binOp .quo t (U32 x) (.int .u32 n) = pure (U32 (x / BitVec.ofInt 32 n)) := by
 obtain ⟨m, rfl⟩ := Int.eq_ofNat_of_zero_le (Int.le_of_lt h0)
 have e : (x / BitVec.ofInt 32 (m : Int)).toNat = x.toNat / m := by
  rw [BitVec.toNat_udiv, BitVec.ofInt_natCast, BitVec.toNat_ofNat, Nat.mod_eq_of_lt (show m < 2 ^ 32 by omega)]
 have h : binOp .quo t (U32 x) (.int .u32 (m : Int)) = pure (.int .u32 (IntKind.wrap .u32 ((x.toNat : Int).tdiv m))) := by
  have hm : ¬ (m : Int) = 0 := by omega
  show Op.intDiv .quo .u32 x.toNat (m : Int) = _
  unfold Op.intDiv; rw [if_neg hm]
 rw [h, show ((x.toNat : Int).tdiv m) = ((x.toNat / m : Nat) : Int) from rfl, <- e, u32_back]
attribute [go_sem high] u32_quoc
theorem u32_shr_nat (yk : IntKind) (m : Nat) : binOp .shr t (U32 x) (.int yk (m : Int)) = pure (U32 (x >>> m)) := by
 have h : binOp .shr t (U32 x) (.int yk (m : Int)) = pure (.int .u32 ((x.toNat : Int) / 2 ^ min m 32)) := by
  show Op.shift .shr .u32 x.toNat yk (m : Int) = _
  rw [shift_shr_any _ _ _ _ (by omega)]; rfl
 have e : ((x.toNat : Int) / 2 ^ min m 32) = (((x >>> m).toNat : Nat) : Int) := by
  have hp : ((2 : Int) ^ min m 32) = ((2 ^ min m 32 : Nat) : Int) := by simp
  rw [hp, BitVec.toNat_ushiftRight, Nat.shiftRight_eq_div_pow, <- Int.natCast_ediv]
  congr 1
  by_cases hm : m <= 32
  ·rw [Nat.min_eq_left hm]
  ·rw [Nat.min_eq_right (by omega), Nat.div_eq_of_lt x.isLt, Nat.div_eq_of_lt]
   exact Nat.lt_of_lt_of_le x.isLt (Nat.pow_le_pow_right (by decide) (by omega))
 rw [h, e]; rfl
theorem u32_shl_nat (yk : IntKind) (m : Nat) : binOp .shl t (U32 x) (.int yk (m : Int)) = pure (U32 (x <<< m)) := by
 have h : binOp .shl t (U32 x) (.int yk (m : Int)) = pure (.int .u32 (IntKind.wrap .u32 ((x.toNat : Int) * 2 ^ min m 32))) := by
  show Op.shift .shl .u32 x.toNat yk (m : Int) = _
  rw [shift_shl_any _ _ _ _ (by omega)]; rfl
 have e : ((x.toNat : Int) * 2 ^ min m 32) = ((x.toNat * 2 ^ min m 32 : Nat) : Int) := by
  have hp : ((2 : Int) ^ min m 32) = ((2 ^ min m 32 : Nat) : Int) := by simp
  rw [hp, Int.natCast_mul]
 have e2 : x.toNat * 2 ^ min m 32 % 4294967296 = (x <<< m).toNat := by
  rw [BitVec.toNat_shiftLeft, Nat.shiftLeft_eq]
  by_cases hm : m <= 32
  ·rw [Nat.min_eq_left hm]
  ·obtain ⟨j, rfl⟩ : ∃ j, m = 32 + j := ⟨m - 32, by omega⟩
   rw [Nat.min_eq_right (by omega), Nat.pow_add, Nat.mul_comm (2 ^ 32) (2 ^ j), <- Nat.mul_assoc, Nat.mul_mod_left]
   exact (Nat.mul_mod_left _ _).symm
 rw [h, e, wrap_u32_nat, e2]; rfl
theorem u32_shrc (yk : IntKind) (h : 0 <= n) : binOp .shr t (U32 x) (.int yk n) = pure (U32 (x >>> n.toNat)) := by
 obtain ⟨m, rfl⟩ := Int.eq_ofNat_of_zero_le h
 exact u32_shr_nat t x yk m
theorem u32_shlc (yk : IntKind) (h : 0 <= n) : binOp .shl t (U32 x) (.int yk n) = pure (U32 (x <<< n.toNat)) := by
 obtain ⟨m, rfl⟩ := Int.eq_ofNat_of_zero_le h
 exact u32_shl_nat t x yk m
attribute [go_sem high] u32_shrc u32_shlc
theorem u32_shld (yk : IntKind) (m : Int) (h0 : 0 <= n) (h1 : n < 4294967296) (h : 0 <= m) : binOp .shl t (.int .u32 n) (.int yk m) = pure (U32 (BitVec.ofInt 32 n <<< m.toNat)) := by
 have e : Value.int .u32 n = U32 (BitVec.ofInt 32 n) := by rw [U32, BitVec.toNat_ofInt]; congr 1; omega
 rw [e]; exact u32_shlc t (BitVec.ofInt 32 n) m yk h
attribute [go_sem high] u32_shld
theorem u32_eql : binOp .eql t (U32 x) (U32 y) = pure (.bool (x == y)) := by
 have h : binOp .eql t (U32 x) (U32 y) = pure (.bool ((x.toNat : Int) == (y.toNat : Int))) := by simp [binOp, Op.intCmp, U32]
 have e : ((x.toNat : Int) == (y.toNat : Int)) = (x == y) := by
  rw [Bool.eq_iff_iff, beq_iff_eq, beq_iff_eq]
  exact ⟨fun e => BitVec.eq_of_toNat_eq (by omega), fun e => by rw [e]⟩
 rw [h, e]
theorem u32_of (h0 : 0 <= n) (h1 : n < 4294967296) : Value.int .u32 n = U32 (BitVec.ofInt 32 n) := by
 rw [U32, BitVec.toNat_ofInt]; congr 1; omega
theorem u32_eqlc (h0 : 0 <= n) (h1 : n < 4294967296) : binOp .eql t (U32 x) (.int .u32 n) = pure (.bool (x == BitVec.ofInt 32 n)) := by
 rw [u32_of n h0 h1, u32_eql]
attribute [go_sem high] u32_eql u32_eqlc
theorem u32_not : Op.unary .xor (U32 x) = pure (U32 (~~~ x)) := by
 have e : (BitVec.ofInt 32 (IntKind.max .u32)) ^^^ x = ~~~ x := by
  have : (BitVec.ofInt 32 (IntKind.max .u32)) = BitVec.allOnes 32 := by decide
  rw [this, BitVec.allOnes_xor]
 show (pure (Value.int .u32 (IntKind.wrap .u32 ((BitVec.ofInt 32 (IntKind.max .u32)) ^^^ (BitVec.ofInt 32 (x.toNat : Int))).toNat)) : Sem Value) = _
 rw [ofInt_toNat, e, u32_back]
attribute [go_sem high] u32_not
theorem u32_store (P : Program) (w : World) (a : Addr) (m : Go.Mode) : (store a (U32 x) m).run P w = stored P w a (U32 x) m := run_store P w a _ m rfl
attribute [go_sem] u32_store
theorem u32_cells : (U32 x).cells = #[U32 x] := rfl
theorem u32_one : (U32 x).oneCell' = true := rfl
theorem u32_match : Value.cells.match_1 (motive := fun _ => Array Value) (U32 x) (fun cs => cs) (fun v => #[v]) = #[U32 x] := rfl
attribute [go_sem ↓ high] u32_cells u32_one
attribute [go_sem] u32_match
theorem u32_storeVar (a : Addr) : storeVar t a (U32 x) = (do
  if 1 ≠ (<- sizeOf t) then stuck "storeVar: the value has not the size of the variable"
  store a (U32 x)) := by
 unfold storeVar
 have e : storeCells a (U32 x).cells.toList = store a (U32 x) := by
  show (store (a.add 0) (U32 x) >>= fun _ => pure ()) = _
  rw [show a.add 0 = a from rfl]
  exact bind_pure_unit
 rw [e]; rfl
attribute [go_sem ↓ high] u32_storeVar
theorem u32_guard (op : BinOp) (p q : Operand) (v : Value) : eqGuard op t p q (U32 x) v = pure () := by
 cases op <;> rfl
attribute [go_sem high] u32_guard
end

section
variable (t : TypeId) (x y : BitVec 64) (n : Int)
theorem u64_back (r : BitVec 64) : Value.int .u64 (IntKind.wrap .u64 r.toNat) = U64 r := by
 have h := r.isLt
 rw [wrap_u64_nat, Nat.mod_eq_of_lt h]; rfl
theorem u64_or : binOp .or t (U64 x) (U64 y) = pure (U64 (x ||| y)) := by
 have h : binOp .or t (U64 x) (U64 y) = pure (.int .u64 (IntKind.wrap .u64 ((BitVec.ofInt 64 (x.toNat : Int)) ||| (BitVec.ofInt 64 (y.toNat : Int))).toNat)) := rfl
 rw [h, u64_back]; simp only [ofInt_toNat]
attribute [go_sem high] u64_or
theorem u64_xor : binOp .xor t (U64 x) (U64 y) = pure (U64 (x ^^^ y)) := by
 have h : binOp .xor t (U64 x) (U64 y) = pure (.int .u64 (IntKind.wrap .u64 ((BitVec.ofInt 64 (x.toNat : Int)) ^^^ (BitVec.ofInt 64 (y.toNat : Int))).toNat)) := rfl
 rw [h, u64_back]; simp only [ofInt_toNat]
attribute [go_sem high] u64_xor
theorem u64_add : binOp .add t (U64 x) (U64 y) = pure (U64 (x + y)) := by
 have e : BitVec.ofInt 64 ((x.toNat : Int) + (y.toNat : Int)) = x + y := by rw [BitVec.ofInt_add]; simp only [ofInt_toNat]
 have h : binOp .add t (U64 x) (U64 y) = pure (.int .u64 (IntKind.wrap .u64 ((x.toNat : Int) + (y.toNat : Int)))) := by simp [binOp, Op.intArith, U64]
 rw [h, wrap_u64_bv, e]; rfl
attribute [go_sem high] u64_add
theorem u64_addc : binOp .add t (U64 x) (.int .u64 n) = pure (U64 (x + BitVec.ofInt 64 n)) := by
 have e : BitVec.ofInt 64 ((x.toNat : Int) + n) = x + BitVec.ofInt 64 n := by rw [BitVec.ofInt_add]; simp only [ofInt_toNat]
 have h : binOp .add t (U64 x) (.int .u64 n) = pure (.int .u64 (IntKind.wrap .u64 ((x.toNat : Int) + n))) := by simp [binOp, Op.intArith, U64]
 rw [h, wrap_u64_bv, e]; rfl
attribute [go_sem high] u64_addc
theorem u64_mulc : binOp .mul t (U64 x) (.int .u64 n) = pure (U64 (x * BitVec.ofInt 64 n)) := by
 have e : BitVec.ofInt 64 ((x.toNat : Int) * n) = x * BitVec.ofInt 64 n := by rw [BitVec.ofInt_mul]; simp only [ofInt_toNat]
 have h : binOp .mul t (U64 x) (.int .u64 n) = pure (.int .u64 (IntKind.wrap .u64 ((x.toNat : Int) * n))) := by simp [binOp, Op.intArith, U64]
 rw [h, wrap_u64_bv, e]; rfl
attribute [go_sem high] u64_mulc
theorem u64_quoc (h0 : 0 < n) (h1 : n < 18446744073709551616) : binOp .quo t (U64 x) (.int .u64 n) = pure (U64 (x / BitVec.ofInt 64 n)) := by
 obtain ⟨m, rfl⟩ := Int.eq_ofNat_of_zero_le (Int.le_of_lt h0)
 have e : (x / BitVec.ofInt 64 (m : Int)).toNat = x.toNat / m := by
  rw [BitVec.toNat_udiv, BitVec.ofInt_natCast, BitVec.toNat_ofNat, Nat.mod_eq_of_lt (show m < 2 ^ 64 by omega)]
 have h : binOp .quo t (U64 x) (.int .u64 (m : Int)) = pure (.int .u64 (IntKind.wrap .u64 ((x.toNat : Int).tdiv m))) := by
  have hm : ¬ (m : Int) = 0 := by omega
  show Op.intDiv .quo .u64 x.toNat (m : Int) = _
  unfold Op.intDiv; rw [if_neg hm]
 rw [h, show ((x.toNat : Int).tdiv m) = ((x.toNat / m : Nat) : Int) from rfl, <- e, u64_back]
theorem u64_remc (h0 : 0 < n) (h1 : n < 18446744073709551616) : binOp .rem t (U64 x) (.int .u64 n) = pure (U64 (x % BitVec.ofInt 64 n)) := by
 obtain ⟨m, rfl⟩ := Int.eq_ofNat_of_zero_le (Int.le_of_lt h0)
 have e : (x % BitVec.ofInt 64 (m : Int)).toNat = x.toNat % m := by
  rw [BitVec.toNat_umod, BitVec.ofInt_natCast, BitVec.toNat_ofNat, Nat.mod_eq_of_lt (show m < 2 ^ 64 by omega)]
 have h : binOp .rem t (U64 x) (.int .u64 (m : Int)) = pure (.int .u64 ((x.toNat : Int).tmod m)) := by
  have hm : ¬ (m : Int) = 0 := by omega
  show Op.intDiv .rem .u64 x.toNat (m : Int) = _
  unfold Op.intDiv; rw [if_neg hm]
 rw [h, show ((x.toNat : Int).tmod m) = ((x.toNat % m : Nat) : Int) from rfl, <- e]; rfl
attribute [go_sem high] u64_quoc u64_remc
theorem u64_shr_nat (yk : IntKind) (m : Nat) : binOp .shr t (U64 x) (.int yk (m : Int)) = pure (U64 (x >>> m)) := by
 have h : binOp .shr t (U64 x) (.int yk (m : Int)) = pure (.int .u64 ((x.toNat : Int) / 2 ^ min m 64)) := by
  show Op.shift .shr .u64 x.toNat yk (m : Int) = _
  rw [shift_shr_any _ _ _ _ (by omega)]; rfl
 have e : ((x.toNat : Int) / 2 ^ min m 64) = (((x >>> m).toNat : Nat) : Int) := by
  have hp : ((2 : Int) ^ min m 64) = ((2 ^ min m 64 : Nat) : Int) := by simp
  rw [hp, BitVec.toNat_ushiftRight, Nat.shiftRight_eq_div_pow, <- Int.natCast_ediv]
  congr 1
  by_cases hm : m <= 64
  ·rw [Nat.min_eq_left hm]
  ·rw [Nat.min_eq_right (by omega), Nat.div_eq_of_lt x.isLt, Nat.div_eq_of_lt]
   exact Nat.lt_of_lt_of_le x.isLt (Nat.pow_le_pow_right (by decide) (by omega))
 rw [h, e]; rfl
theorem u64_shl_nat (yk : IntKind) (m : Nat) : binOp .shl t (U64 x) (.int yk (m : Int)) = pure (U64 (x <<< m)) := by
 have h : binOp .shl t (U64 x) (.int yk (m : Int)) = pure (.int .u64 (IntKind.wrap .u64 ((x.toNat : Int) * 2 ^ min m 64))) := by
  show Op.shift .shl .u64 x.toNat yk (m : Int) = _
  rw [shift_shl_any _ _ _ _ (by omega)]; rfl
 have e : ((x.toNat : Int) * 2 ^ min m 64) = ((x.toNat * 2 ^ min m 64 : Nat) : Int) := by
  have hp : ((2 : Int) ^ min m 64) = ((2 ^ min m 64 : Nat) : Int) := by simp
  rw [hp, Int.natCast_mul]
 have e2 : x.toNat * 2 ^ min m 64 % 18446744073709551616 = (x <<< m).toNat := by
  rw [BitVec.toNat_shiftLeft, Nat.shiftLeft_eq]
  by_cases hm : m <= 64
  ·rw [Nat.min_eq_left hm]
  ·obtain ⟨j, rfl⟩ : ∃ j, m = 64 + j := ⟨m - 64, by omega⟩
   rw [Nat.min_eq_right (by omega), Nat.pow_add, Nat.mul_comm (2 ^ 64) (2 ^ j), <- Nat.mul_assoc, Nat.mul_mod_left]
   exact (Nat.mul_mod_left _ _).symm
 rw [h, e, wrap_u64_nat, e2]; rfl
theorem u64_shrc (yk : IntKind) (h : 0 <= n) : binOp .shr t (U64 x) (.int yk n) = pure (U64 (x >>> n.toNat)) := by
 obtain ⟨m, rfl⟩ := Int.eq_ofNat_of_zero_le h
 exact u64_shr_nat t x yk m
theorem u64_shlc (yk : IntKind) (h : 0 <= n) : binOp .shl t (U64 x) (.int yk n) = pure (U64 (x <<< n.toNat)) := by
 obtain ⟨m, rfl⟩ := Int.eq_ofNat_of_zero_le h
 exact u64_shl_nat t x yk m
attribute [go_sem high] u64_shrc u64_shlc
theorem u64_cells : (U64 x).cells = #[U64 x] := rfl
theorem u64_one : (U64 x).oneCell' = true := rfl
theorem u64_match : Value.cells.match_1 (motive := fun _ => Array Value) (U64 x) (fun cs => cs) (fun v => #[v]) = #[U64 x] := rfl
attribute [go_sem ↓ high] u64_cells u64_one
attribute [go_sem] u64_match
theorem u64_storeVar (a : Addr) : storeVar t a (U64 x) = (do
  if 1 ≠ (<- sizeOf t) then stuck "storeVar: the value has not the size of the variable"
  store a (U64 x)) := by
 unfold storeVar
 have e : storeCells a (U64 x).cells.toList = store a (U64 x) := by
  show (store (a.add 0) (U64 x) >>= fun _ => pure ()) = _
  rw [show a.add 0 = a from rfl]
  exact bind_pure_unit
 rw [e]; rfl
attribute [go_sem ↓ high] u64_storeVar
theorem u64_guard (op : BinOp) (p q : Operand) (v : Value) : eqGuard op t p q (U64 x) v = pure () := by
 cases op <;> rfl
attribute [go_sem high] u64_guard
end

section
variable (P : Program) (w : World) (src dst : TypeId)
theorem conv_8_32 (x : BitVec 8) (hs : (P.underlying src).isSome = true) (hd : P.underlying dst = some (.int .u32)) : (convert src dst (U8 x)).run P w = .ok (U32 (x.setWidth 32)) w := by
 have hk : P.intKind dst = .u32 := by simp [Program.intKind, hd]
 have h := run_convert_int (P := P) w src dst .u8 x.toNat hs (by rw [hk]; exact hd)
 rw [hk] at h
 rw [U8, h, wrap_u32_bv]
 have e : BitVec.ofInt 32 (x.toNat : Int) = x.setWidth 32 := by rw [BitVec.ofInt_natCast, BitVec.ofNat_toNat]
 rw [e]; rfl
attribute [go_sem high] conv_8_32
theorem conv_8_64 (x : BitVec 8) (hs : (P.underlying src).isSome = true) (hd : P.underlying dst = some (.int .u64)) : (convert src dst (U8 x)).run P w = .ok (U64 (x.setWidth 64)) w := by
 have hk : P.intKind dst = .u64 := by simp [Program.intKind, hd]
 have h := run_convert_int (P := P) w src dst .u8 x.toNat hs (by rw [hk]; exact hd)
 rw [hk] at h
 rw [U8, h, wrap_u64_bv]
 have e : BitVec.ofInt 64 (x.toNat : Int) = x.setWidth 64 := by rw [BitVec.ofInt_natCast, BitVec.ofNat_toNat]
 rw [e]; rfl
attribute [go_sem high] conv_8_64
theorem conv_32_64 (x : BitVec 32) (hs : (P.underlying src).isSome = true) (hd : P.underlying dst = some (.int .u64)) : (convert src dst (U32 x)).run P w = .ok (U64 (x.setWidth 64)) w := by
 have hk : P.intKind dst = .u64 := by simp [Program.intKind, hd]
 have h := run_convert_int (P := P) w src dst .u32 x.toNat hs (by rw [hk]; exact hd)
 rw [hk] at h
 rw [U32, h, wrap_u64_bv]
 have e : BitVec.ofInt 64 (x.toNat : Int) = x.setWidth 64 := by rw [BitVec.ofInt_natCast, BitVec.ofNat_toNat]
 rw [e]; rfl
attribute [go_sem high] conv_32_64
theorem conv_64_8 (x : BitVec 64) (hs : (P.underlying src).isSome = true) (hd : P.underlying dst = some (.int .u8)) : (convert src dst (U64 x)).run P w = .ok (U8 (x.setWidth 8)) w := by
 have hk : P.intKind dst = .u8 := by simp [Program.intKind, hd]
 have h := run_convert_int (P := P) w src dst .u64 x.toNat hs (by rw [hk]; exact hd)
 rw [hk] at h
 rw [U64, h, wrap_u8_bv]
 have e : BitVec.ofInt 8 (x.toNat : Int) = x.setWidth 8 := by rw [BitVec.ofInt_natCast, BitVec.ofNat_toNat]
 rw [e]; rfl
attribute [go_sem high] conv_64_8
theorem conv_64_32 (x : BitVec 64) (hs : (P.underlying src).isSome = true) (hd : P.underlying dst = some (.int .u32)) : (convert src dst (U64 x)).run P w = .ok (U32 (x.setWidth 32)) w := by
 have hk : P.intKind dst = .u32 := by simp [Program.intKind, hd]
 have h := run_convert_int (P := P) w src dst .u64 x.toNat hs (by rw [hk]; exact hd)
 rw [hk] at h
 rw [U64, h, wrap_u32_bv]
 have e : BitVec.ofInt 32 (x.toNat : Int) = x.setWidth 32 := by rw [BitVec.ofInt_natCast, BitVec.ofNat_toNat]
 rw [e]; rfl
attribute [go_sem high] conv_64_32
end

section
variable {P : Program} (w : World)
theorem indexAt_array_8 (t : TypeId) (a : Addr) (i : BitVec 8) (h : P.underlying t = some (.array (P.arrayLen t) (P.elem t))) (hi : idx i < P.arrayLen t) :
  (Instr.indexAt t (.pointer (some a)) (U8 i)).run P w = ((sizeOf (P.elem t)).run P w).andThen fun s w => .ok (.pointer (some (a.add (idx i * s)))) w := by
 rw [U8, run_indexAt_array w t a .u8 i.toNat h, if_pos (by unfold idx at hi; omega)]; rfl
attribute [go_sem high] indexAt_array_8
end
end Go.Proofs.YtbicafgmfgdckaaGreatDoor
namespace Go.Proofs.YtbicafgmfgdckaaGreatDoor
open Go Go.RowKit

def byteAt (l : List (BitVec 8)) (k : Nat) : BitVec 8 := l.getD k 0#8
def BytesAt (w : World) (b off : Nat) (l : List (BitVec 8)) : Prop := ∀ i, i < l.length -> w.cell? ⟨b, off + i, none⟩ = some (U8 (byteAt l i))
structure Reads (w : World) (a : Option Addr) (cap : Nat) (l : List (BitVec 8)) : Prop where
 fits : l.length <= cap
 room : cap <= 9223372036854775807
 null : a = none -> cap = 0
 bytes : l = [] \/ ∃ b off, a = some ⟨b, off, none⟩ /\ BytesAt w b off l
def Owns (w : World) (B : Nat) (E : TypeId) (v : Value) (l : List (BitVec 8)) : Prop := w.ownsRow B E 1 v l.length (l.map U8)

theorem byteAt_lt {l : List (BitVec 8)} {k : Nat} (h : k < l.length) : byteAt l k = l[k] := by simp [byteAt, List.getD_eq_getElem?_getD, List.getElem?_eq_getElem h]
theorem take_snoc (l : List (BitVec 8)) (k : Nat) (h : k < l.length) : l.take (k + 1) = l.take k ++ [byteAt l k] := by
 rw [List.take_succ_eq_append_getElem h, byteAt_lt h]
theorem list_ext {l m : List (BitVec 8)} (hl : l.length = m.length) (h : ∀ i, i < l.length -> byteAt l i = byteAt m i) : l = m := by
 refine List.ext_getElem hl fun i h1 h2 => ?_
 rw [<- byteAt_lt h1, <- byteAt_lt h2, h i h1]
theorem byteAt_take {l : List (BitVec 8)} {n i : Nat} (h : i < n) : byteAt (l.take n) i = byteAt l i := by simp [byteAt, List.getD_eq_getElem?_getD, h]
theorem byteAt_drop (l : List (BitVec 8)) (n i : Nat) : byteAt (l.drop n) i = byteAt l (n + i) := by simp [byteAt, List.getD_eq_getElem?_getD]

theorem BytesAt.take {w : World} {b off : Nat} {l : List (BitVec 8)} (h : BytesAt w b off l) (n : Nat) : BytesAt w b off (l.take n) := by
 intro i hi
 have h1 : i < l.length /\ i < n := by rw [List.length_take] at hi; omega
 rw [h i h1.1, byteAt_take h1.2]
theorem BytesAt.drop {w : World} {b off : Nat} {l : List (BitVec 8)} (h : BytesAt w b off l) (n : Nat) : BytesAt w b (off + n) (l.drop n) := by
 intro i hi
 rw [List.length_drop] at hi
 have := h (n + i) (by omega)
 rw [show off + n + i = off + (n + i) by omega, this, byteAt_drop]
theorem BytesAt.mono {w w' : World} {b off : Nat} {l : List (BitVec 8)} (h : BytesAt w b off l) (hw : ∀ o v, w.cell? ⟨b, o, none⟩ = some v -> w'.cell? ⟨b, o, none⟩ = some v) : BytesAt w' b off l :=
 fun i hi => hw _ _ (h i hi)

def Keeps (w w' : World) : Prop := ∀ a v, w.cell? a = some v -> w'.cell? a = some v
theorem Keeps.trans {a b c : World} (h : Keeps a b) (k : Keeps b c) : Keeps a c := fun p v e => k p v (h p v e)
theorem Keeps.drewN (w : World) (n : Nat) : Keeps w (w.drewN n) := fun _ _ h => h
theorem Keeps.alloc (w : World) (o : Obj) : Keeps w (w.alloc o) := fun p v h => by
 rw [World.cell?_of_block (w := w) (Below.heap_alloc w o p.block (World.block_lt_of_cell? w p h))]; exact h
theorem Keeps.below {w w' : World} (h : Below w.heap.size w w') : Keeps w w' := fun p v e => by
 rw [h.cell (World.block_lt_of_cell? w p e)]; exact e

section
variable {w w' : World} {a : Option Addr} {cap : Nat} {l : List (BitVec 8)}
theorem Reads.keeps (h : Reads w a cap l) (k : Keeps w w') : Reads w' a cap l := by
 refine ⟨h.fits, h.room, h.null, ?_⟩
 rcases h.bytes with e | ⟨b, off, e, hb⟩
 ·exact .inl e
 ·exact .inr ⟨b, off, e, hb.mono fun o v hv => k _ _ hv⟩
theorem Reads.take (h : Reads w a cap l) (n : Nat) : Reads w a cap (l.take n) := by
 refine ⟨Nat.le_trans (by rw [List.length_take]; omega) h.fits, h.room, h.null, ?_⟩
 rcases h.bytes with rfl | ⟨b, off, e, hb⟩
 ·exact .inl (by simp)
 ·exact .inr ⟨b, off, e, hb.take n⟩
theorem Reads.len (h : Reads w a cap l) : l.length <= 9223372036854775807 := Nat.le_trans h.fits h.room
end

theorem reads_nil (w : World) : Reads w none 0 [] := ⟨by simp, by omega, fun _ => rfl, .inl rfl⟩

section
variable {w w' : World} {B : Nat} {E : TypeId} {v : Value} {l : List (BitVec 8)}
theorem owns_nil (w : World) (B : Nat) (E : TypeId) : Owns w B E (.slice none 0 0) [] := World.ownsRow_nil w B E 1
theorem Owns.reads (h : Owns w B E v l) : ∃ a cap, v = .slice a l.length cap /\ Reads w a cap l := by
 rcases h.2 with ⟨rfl, h0⟩ | ⟨g, cap, cur, rfl, _, hg, hn, hc, hs, ht⟩
 ·have : l = [] := List.eq_nil_of_length_eq_zero h0
  subst this
  exact ⟨none, 0, rfl, reads_nil w⟩
 ·refine ⟨some ⟨g, 0, none⟩, cap, rfl, hn, by unfold maxLen at hc; omega, (by intro e; cases e), .inr ⟨g, 0, rfl, fun i hi => ?_⟩⟩
  have := h.cells (g := g) rfl i (U8 (byteAt l i)) (by rw [List.getElem?_map, List.getElem?_eq_getElem hi, byteAt_lt hi]; rfl)
  simpa [Addr.add_lit] using this
theorem Owns.below (h : Owns w B E v l) (hb : Below w.heap.size w w') : Owns w' B E v l :=
 h.kept (row := none) ⟨hb.os, hb.tape, hb.output, hb.size, fun k hk _ => hb.block k hk⟩ (by cases hv : v.ownBlock <;> simp)
theorem Owns.mono {B' : Nat} (h : Owns w B E v l) (hB : B' <= B) : Owns w B' E v l := by
 refine ⟨h.1, ?_⟩
 rcases h.2 with e | ⟨g, cap, cur, e, hb, r⟩
 ·exact .inl e
 ·exact .inr ⟨g, cap, cur, e, Nat.le_trans hB hb, r⟩
end

structure ByteSlice (P : Program) (t e : TypeId) : Prop where
 slice : P.underlying t = some (.slice e)
 info : (P.info? e).map (fun i => (i.zero, i.size, i.bytes)) = some (some (.int .u8 0), 1, 1)

theorem wpList_append_bytes {P : Program} {w : World} {ops : Array Oper} {rest : List Oper} {o : Oper} {act : Act} {Q : Exit -> Act -> World -> Prop} {t e : TypeId} (T : ByteSlice P t e)
  (hgd : o.guard = none) (s x : Operand) (ho : o.op = .call { callee := .builtin .append, args := #[s, x], argTypes := #[t, t] })
  (B : Nat) (v : Value) (l : List (BitVec 8)) (hs : act.eval s = v) (hown : Owns w B e v l)
  (a : Option Addr) (cap : Nat) (m : List (BitVec 8)) (hx : act.eval x = .slice a m.length cap) (hm : Reads w a cap m)
  (hlen : l.length + m.length <= 140737488355328) (hbase : B <= w.heap.size)
  (h : ∀ v' w', Owns w' B e v' (l ++ m) -> w.grownBy w' v.ownBlock -> wpList P ops Q rest (act.put o.dst v') w') : wpList P ops Q (o :: rest) act w := by
 obtain ⟨i, hi, hz0, hz1, hz2⟩ := info_parts T.info
 have fin : ∀ v' w', w'.ownsRow B e 1 v' (l.length + m.length) (l.map U8 ++ m.map U8) -> w.grownBy w' v.ownBlock -> wpList P ops Q rest (act.put o.dst v') w' := by
  intro v' w' h1 h2
  exact h v' w' (by unfold Owns; rw [List.length_append, List.map_append]; exact h1) h2
 by_cases hn : a = none
 ·subst hn
  have hc := hm.null rfl
  have hm0 : m = [] := List.eq_nil_of_length_eq_zero (by have := hm.fits; omega)
  subst hc hm0
  refine wpList_append_own_none hgd s x t ho B e i 1 T.slice hi v l.length (l.map U8) hs hown (by simpa using hx) ?_
  exact fin v w (by simpa [Owns] using hown) ⟨rfl, rfl, rfl, Nat.le_refl _, fun _ _ _ => rfl⟩
 ·obtain ⟨ad, rfl⟩ := Option.ne_none_iff_exists'.1 hn
  refine wpList_append_own w hgd s x t ho B e i (.int .u8 0) 1 1 T.slice hi hz0 hz1 hz2 rfl (by decide) v l.length (l.map U8) hs hown ad m.length cap (m.map U8) hx (by simp) ?_ ?_ ?_ ?_ hbase ?_
  ·intro j u hu
   rcases hm.bytes with rfl | ⟨b, off, e1, hb⟩
   ·simp at hu
   ·obtain rfl := Option.some.inj e1
    rw [List.getElem?_map] at hu
    obtain ⟨c, hc, rfl⟩ := Option.map_eq_some_iff.1 hu
    obtain ⟨hj, hc'⟩ := List.getElem?_eq_some_iff.1 hc
    rw [Addr.add_lit, hb j hj, byteAt_lt hj, hc']
  ·intro u hu
   obtain ⟨c, _, rfl⟩ := List.mem_map.1 hu
   rfl
  ·unfold maxLen; omega
  ·omega
  ·intro v' w' h1 h2 _
   exact fin v' w' h1 h2

theorem bytes_lit (w : World) (cs : Array Value) (E : TypeId) (fr : Nat × Nat) (l : List (BitVec 8)) (h : cs.toList = l.map U8) : BytesAt (w.alloc (.cells cs E fr)) w.heap.size 0 l := by
 intro i hi
 have : (w.alloc (.cells cs E fr)).cell? ⟨w.heap.size, 0 + i, none⟩ = cs[i]? := by
  unfold World.cell?; rw [heap_alloc_new]; simp
 rw [this, <- Array.getElem?_toList, h, List.getElem?_map, List.getElem?_eq_getElem hi, byteAt_lt hi]; rfl
theorem reads_lit (w : World) (cs : Array Value) (E : TypeId) (fr : Nat × Nat) (l : List (BitVec 8)) (h : cs.toList = l.map U8) (hl : l.length <= 9223372036854775807) :
  Reads (w.alloc (.cells cs E fr)) (some ⟨w.heap.size, 0, none⟩) l.length l :=
 ⟨Nat.le_refl _, hl, (by intro e; cases e), .inr ⟨_, _, rfl, bytes_lit w cs E fr l h⟩⟩

def RowAt (w : World) (B : Nat) (E : TypeId) (g cap n : Nat) (l : List (BitVec 8)) : Prop :=
 w.ownsRow B E 1 (.slice (some ⟨g, 0, none⟩) n cap) n (l.map U8) /\ l.length = n
section
variable {w w' : World} {B : Nat} {E : TypeId} {g cap n : Nat} {l : List (BitVec 8)} {v : Value}
theorem Owns.row (h : Owns w B E v l) (hl : l.length ≠ 0) : ∃ g cap, v = .slice (some ⟨g, 0, none⟩) l.length cap /\ RowAt w B E g cap l.length l /\ B <= g /\ g < w.heap.size := by
 rcases h.2 with ⟨_, h0⟩ | ⟨g, cap, cur, rfl, hb, _⟩
 ·exact (hl h0).elim
 ·exact ⟨g, cap, rfl, ⟨h, rfl⟩, hb, (h.lt g rfl).2⟩
theorem RowAt.owns (h : RowAt w B E g cap n l) : Owns w B E (.slice (some ⟨g, 0, none⟩) n cap) l := by
 obtain ⟨h1, rfl⟩ := h; exact h1
theorem RowAt.reads (h : RowAt w B E g cap n l) : Reads w (some ⟨g, 0, none⟩) cap l := by
 obtain ⟨h1, rfl⟩ := h
 obtain ⟨a, c, e, r⟩ := Owns.reads (v := .slice (some ⟨g, 0, none⟩) l.length cap) h1
 simp only [Value.slice.injEq, true_and] at e
 obtain ⟨rfl, rfl⟩ := e
 exact r
theorem RowAt.cell (h : RowAt w B E g cap n l) (j : Nat) (hj : j < n) : w.cell? ⟨g, j, none⟩ = some (U8 (byteAt l j)) := by
 rw [h.1.cellAt j (by omega), List.getElem?_map, List.getElem?_eq_getElem (by rw [h.2]; exact hj), byteAt_lt (by rw [h.2]; exact hj)]; rfl
theorem RowAt.thawed (h : RowAt w B E g cap n l) (j : Nat) : w.frozen? ⟨g, j, none⟩ = false := h.1.frozenAt j
theorem RowAt.set (h : RowAt w B E g cap n l) (j : Nat) (x : BitVec 8) : RowAt (w.setCell ⟨g, j, none⟩ (U8 x)) B E g cap n (l.set j x) := by
 have := (h.1.stored j (U8 x)).1
 exact ⟨by rw [List.map_set]; exact this, by rw [List.length_set]; exact h.2⟩
theorem RowAt.drewN (h : RowAt w B E g cap n l) (m : Nat) : RowAt (w.drewN m) B E g cap n l := h
end
end Go.Proofs.YtbicafgmfgdckaaGreatDoor
namespace Go.Proofs.YtbicafgmfgdckaaGreatDoor
open Go Go.RowKit

theorem byteSlice : ByteSlice Tryz.prog 37 5 := ⟨by kernel_rfl, by kernel_rfl⟩
theorem ret_slice {a : Option Addr} {m n c : Nat} (h : m = n) : Ending.returned (.slice a m c) = .returned (.slice a n c) := by rw [h]
theorem ret_bool {a b : Bool} (h : a = b) : Ending.returned (.bool a) = .returned (.bool b) := by rw [h]
theorem ret_u32 {a b : BitVec 32} (h : a = b) : Ending.returned (U32 a) = .returned (U32 b) := by rw [h]
theorem cut_any (a : Option Addr) (cap : Nat) (l : List (BitVec 8)) (n : Nat) (N : Int) (w : World) (hN : (n : Int) = N) (hr : Reads w a cap l) (hn : n <= 1048576) :
  Calls Tryz.prog 18 #[.slice a l.length cap, .int .i64 N] w fun e w' => e = .returned (.slice a (l.take n).length cap) /\ w = w' := by
 subst hN
 have hl := hr.fits
 have hc := hr.room
 by_cases h : n < l.length
 ·rcases hr.bytes with rfl | ⟨b, off, rfl, _⟩
  ·simp at h
  ·clear hr
   go_enter Tryz.func18, Tryz.ntmps18
   go_wp2
   go_ret
   exact ⟨ret_slice (by rw [List.length_take]; omega), rfl⟩
 ·clear hr
  go_enter Tryz.func18, Tryz.ntmps18
  go_wp2
  go_ret
  exact ⟨ret_slice (by rw [List.length_take]; omega), rfl⟩

def Copies (w : World) (l : List (BitVec 8)) (e : Ending) (w' : World) : Prop := ∃ v, e = .returned v /\ Owns w' w.heap.size 5 v l /\ Below w.heap.size w w'
theorem copy_any (a : Option Addr) (cap : Nat) (l : List (BitVec 8)) (w : World) (hr : Reads w a cap l) (hl : l.length <= 140737488355328) :
  Calls Tryz.prog 17 #[.slice a l.length cap] w (Copies w l) := by
 go_enter Tryz.func17, Tryz.ntmps17
 go_wp2_with (at_builtin; refine wpList_append_bytes byteSlice rfl _ _ rfl w.heap.size (.slice none 0 0) [] rfl (owns_nil _ _ _) a cap l rfl hr (by simpa using hl) (Nat.le_refl _) ?_; intro v' w' h1 h2)
 go_ret
 exact ⟨_, rfl, h1, ⟨h2.os, h2.tape, h2.output, h2.size, fun k hk => h2.block k hk (by simp [Value.ownBlock])⟩⟩

end Go.Proofs.YtbicafgmfgdckaaGreatDoor
namespace Go.Proofs.YtbicafgmfgdckaaGreatDoor
open Go Go.RowKit

def dropAddr (a : Option Addr) (cap n : Nat) : Option Addr := if cap = n then a else a.map (·.add n)
theorem add_zero' (a : Addr) : a.add 0 = a := by simp [Addr.add]
theorem map_add_zero (a : Option Addr) : a.map (fun x => x.add 0) = a := by cases a <;> simp [add_zero']

section
variable {P : Program} {t e : TypeId} (T : ByteSlice P t e) (w : World) (a : Option Addr) (len cap : Nat)
include T
theorem run_slice_from (k : IntKind) (n : Nat) (N : Int) (hN : N = n) (hn : n <= len) : (Instr.slice t (.slice a len cap) (some (.int k N)) none none).run P w = .ok (.slice (dropAddr a cap n) (len - n) (cap - n)) w := by
 obtain ⟨i, hi, _, hz1, _⟩ := info_parts T.info
 subst hN
 have hn' : (n : Int) <= (len : Int) := by omega
 simp [Instr.slice, run_underlying T.slice, Instr.sliceBounds, Instr.sliceBound, asIntOf, hn, sizeOf, typeInfo, hi, hz1, dropAddr]
theorem run_slice_to (k : IntKind) (n : Nat) (N : Int) (hN : N = n) (hn : n <= cap) : (Instr.slice t (.slice a len cap) none (some (.int k N)) none).run P w = .ok (.slice a n cap) w := by
 obtain ⟨i, hi, _, _, _⟩ := info_parts T.info
 subst hN
 simp [Instr.slice, run_underlying T.slice, Instr.sliceBounds, Instr.sliceBound, asIntOf, hn, sizeOf, typeInfo, hi, map_add_zero]
theorem run_slice_both (k k' : IntKind) (m n : Nat) (M N : Int) (hM : M = m) (hN : N = n) (hmn : m <= n) (hn : n <= cap) :
  (Instr.slice t (.slice a len cap) (some (.int k M)) (some (.int k' N)) none).run P w = .ok (.slice (dropAddr a cap m) (n - m) (cap - m)) w := by
 obtain ⟨i, hi, _, hz1, _⟩ := info_parts T.info
 subst hM hN
 have h2 : m <= cap := by omega
 simp [Instr.slice, run_underlying T.slice, Instr.sliceBounds, Instr.sliceBound, asIntOf, hn, hmn, sizeOf, typeInfo, hi, hz1, dropAddr]
end

theorem Reads.drop {w : World} {a : Option Addr} {cap : Nat} {l : List (BitVec 8)} (h : Reads w a cap l) (n : Nat) (hn : n <= l.length) : Reads w (dropAddr a cap n) (cap - n) (l.drop n) := by
 have h1 := h.fits
 have h2 := h.room
 refine ⟨by rw [List.length_drop]; omega, by omega, ?_, ?_⟩
 ·intro e
  unfold dropAddr at e
  split at e
  ·rename_i hc; omega
  ·have : a = none := by cases a <;> simp_all
   have := h.null this; omega
 ·by_cases hd : l.drop n = []
  ·exact .inl hd
  ·right
   have hlt : n < l.length := by
    rcases Nat.lt_or_ge n l.length with h' | h'
    ·exact h'
    ·exact (hd (List.drop_eq_nil_of_le h')).elim
   rcases h.bytes with rfl | ⟨b, off, rfl, hb⟩
   ·simp at hlt
   ·refine ⟨b, off + n, ?_, hb.drop n⟩
    unfold dropAddr
    rw [if_neg (by omega), Option.map_some, Addr.add_lit]

def IntsAt (w : World) (b off : Nat) (l : List Int) : Prop := ∀ i, i < l.length -> w.cell? ⟨b, off + i, none⟩ = some (.int .i64 (l.getD i 0))
structure IReads (w : World) (a : Option Addr) (cap : Nat) (l : List Int) : Prop where
 fits : l.length <= cap
 room : cap <= 9223372036854775807
 null : a = none -> cap = 0
 ints : l = [] \/ ∃ b off, a = some ⟨b, off, none⟩ /\ IntsAt w b off l
 bounds : ∀ i, i < l.length -> -9223372036854775808 <= l.getD i 0 /\ l.getD i 0 <= 9223372036854775807
end Go.Proofs.YtbicafgmfgdckaaGreatDoor
