/- A piece. -/
import Derived.WalkLawsBesides
import Derived.WalkSpells
import Derived.Laws.AppendOwnNone
import Derived.Test.YtbicafgmfgdckaaGreatDoorProg
import Derived.Lib.Hide
import Derived.BigQuiet
import Derived.Deep.MidRow
set_option maxRecDepth 100000
set_option maxHeartbeats 16000000
set_option linter.all false
namespace Go.Proofs.YtbicafgmfgdckaaGreatDoor
open Go.Proofs.Tryz
open Go
theorem Cn (n:Nat) (x:BitVec n):BitVec.ofInt n (x.toNat:Int)=x:=by
 rw[BitVec.ofInt_natCast,BitVec.ofNat_toNat,BitVec.setWidth_eq]
theorem Pe (n:Nat):IntKind.u32.wrap (n:Int)=((n % 4294967296:Nat):Int):=by rw[IntKind.wrap_u32'];omega
theorem Pd (n:Nat):IntKind.u64.wrap (n:Int)=((n % 18446744073709551616:Nat):Int):=by rw[IntKind.wrap_u64];omega
theorem Aew (n:Int):IntKind.u8.wrap n=((BitVec.ofInt 8 n).toNat:Int):=by rw[IntKind.wrap_u8',BitVec.toNat_ofInt];omega
theorem Fv (n:Int):IntKind.u32.wrap n=((BitVec.ofInt 32 n).toNat:Int):=by rw[IntKind.wrap_u32',BitVec.toNat_ofInt];omega
theorem It (n:Int):IntKind.u64.wrap n=((BitVec.ofInt 64 n).toNat:Int):=by rw[IntKind.wrap_u64,BitVec.toNat_ofInt];omega
def idx {n:Nat} (x:BitVec n):Nat:=x.toNat
def U8 (x:BitVec 8):Value:=.int .u8 x.toNat
def Af (x:BitVec 32):Value:=.int .u32 x.toNat
def F6 (x:BitVec 64):Value:=.int .u64 x.toNat
section
variable (t:TypeId) (x y:BitVec 8) (n:Int)
theorem As1 (h0:0<=n) (h1:n < 256):Value.int .u8 n=U8 (BitVec.ofInt 8 n):=by
 rw[U8,BitVec.toNat_ofInt];congr 1;omega
theorem Alw (P:Program) (w:World) (a:Addr) (m:Go.Mode):(store a (U8 x) m).run P w=stored P w a (U8 x) m:=run_store P w a _ m rfl
attribute [go_sem] Alw
theorem Alz:(U8 x).cells=#[U8 x]:=rfl
theorem Atk:(U8 x).oneCell'=true:=rfl
theorem Alx:Value.cells.match_1 (motive:=fun _=>Array Value) (U8 x) (fun cs=>cs) (fun v=>#[v])=#[U8 x]:=rfl
attribute [go_sem ↓ high] Alz Atk
attribute [go_sem] Alx
theorem Ab9 (a:Addr):storeVar t a (U8 x)=(do
  if 1≠(<- sizeOf t) then stuck "storeVar: the value has not the size of the variable"
  store a (U8 x)):=by
 unfold storeVar;have e:storeCells a (U8 x).cells.toList=store a (U8 x):=by
  show (store (a.add 0) (U8 x) >>= fun _=>pure ())=_;rw[show a.add 0=a from rfl];exact bind_pure_unit
 rw[e];rfl
attribute [go_sem ↓ high] Ab9
theorem Aly (op:BinOp) (p q:Operand) (v:Value):eqGuard op t p q (U8 x) v=pure ():=by
 cases op<;>rfl
attribute [go_sem high] Aly
end
section
variable (t:TypeId) (x y:BitVec 32) (n:Int)
theorem Km (r:BitVec 32):Value.int .u32 (IntKind.wrap .u32 r.toNat)=Af r:=by
 have h:=r.isLt;rw[Pe,Nat.mod_eq_of_lt h];rfl
theorem u32_and:binOp .and t (Af x) (Af y)=pure (Af (x &&& y)):=by
 have h:binOp .and t (Af x) (Af y)=pure (.int .u32 (IntKind.wrap .u32 ((BitVec.ofInt 32 (x.toNat:Int)) &&& (BitVec.ofInt 32 (y.toNat:Int))).toNat)):=rfl;rw[h,Km];simp only[Cn]
attribute [go_sem high] u32_and
theorem u32_or:binOp .or t (Af x) (Af y)=pure (Af (x ||| y)):=by
 have h:binOp .or t (Af x) (Af y)=pure (.int .u32 (IntKind.wrap .u32 ((BitVec.ofInt 32 (x.toNat:Int)) ||| (BitVec.ofInt 32 (y.toNat:Int))).toNat)):=rfl;rw[h,Km];simp only[Cn]
attribute [go_sem high] u32_or
theorem u32_xor:binOp .xor t (Af x) (Af y)=pure (Af (x ^^^ y)):=by
 have h:binOp .xor t (Af x) (Af y)=pure (.int .u32 (IntKind.wrap .u32 ((BitVec.ofInt 32 (x.toNat:Int)) ^^^ (BitVec.ofInt 32 (y.toNat:Int))).toNat)):=rfl;rw[h,Km];simp only[Cn]
attribute [go_sem high] u32_xor
theorem Al5:binOp .xor t (Af x) (.int .u32 n)=pure (Af (x ^^^ BitVec.ofInt 32 n)):=by
 have h:binOp .xor t (Af x) (.int .u32 n)=pure (.int .u32 (IntKind.wrap .u32 ((BitVec.ofInt 32 (x.toNat:Int)) ^^^ (BitVec.ofInt 32 n)).toNat)):=rfl;rw[h,Km];simp only[Cn]
attribute [go_sem high] Al5
theorem Aqk:binOp .add t (Af x) (Af y)=pure (Af (x+y)):=by
 have e:BitVec.ofInt 32 ((x.toNat:Int)+(y.toNat:Int))=x+y:=by rw[BitVec.ofInt_add];simp only[Cn]
 have h:binOp .add t (Af x) (Af y)=pure (.int .u32 (IntKind.wrap .u32 ((x.toNat:Int)+(y.toNat:Int)))):=by simp[binOp,Op.intArith,Af]
 rw[h,Fv,e];rfl
attribute [go_sem high] Aqk
theorem Amc:binOp .add t (Af x) (.int .u32 n)=pure (Af (x+BitVec.ofInt 32 n)):=by
 have e:BitVec.ofInt 32 ((x.toNat:Int)+n)=x+BitVec.ofInt 32 n:=by rw[BitVec.ofInt_add];simp only[Cn]
 have h:binOp .add t (Af x) (.int .u32 n)=pure (.int .u32 (IntKind.wrap .u32 ((x.toNat:Int)+n))):=by simp[binOp,Op.intArith,Af]
 rw[h,Fv,e];rfl
attribute [go_sem high] Amc
theorem Al6:binOp .sub t (Af x) (.int .u32 n)=pure (Af (x - BitVec.ofInt 32 n)):=by
 have e:BitVec.ofInt 32 ((x.toNat:Int) - n)=x - BitVec.ofInt 32 n:=by rw[Int.sub_eq_add_neg,BitVec.ofInt_add,BitVec.ofInt_neg,<- BitVec.sub_eq_add_neg];simp only[Cn]
 have h:binOp .sub t (Af x) (.int .u32 n)=pure (.int .u32 (IntKind.wrap .u32 ((x.toNat:Int) - n))):=by simp[binOp,Op.intArith,Af]
 rw[h,Fv,e];rfl
attribute [go_sem high] Al6
theorem Ama:binOp .mul t (Af x) (.int .u32 n)=pure (Af (x * BitVec.ofInt 32 n)):=by
 have e:BitVec.ofInt 32 ((x.toNat:Int) * n)=x * BitVec.ofInt 32 n:=by rw[BitVec.ofInt_mul];simp only[Cn]
 have h:binOp .mul t (Af x) (.int .u32 n)=pure (.int .u32 (IntKind.wrap .u32 ((x.toNat:Int) * n))):=by simp[binOp,Op.intArith,Af]
 rw[h,Fv,e];rfl
attribute [go_sem high] Ama
theorem Al8 (h0:0 < n) (h1:n < 4294967296):binOp .quo t (Af x) (.int .u32 n)=pure (Af (x / BitVec.ofInt 32 n)):=by
 obtain⟨m,rfl⟩:=Int.eq_ofNat_of_zero_le (Int.le_of_lt h0);have e:(x / BitVec.ofInt 32 (m:Int)).toNat=x.toNat / m:=by
  rw[BitVec.toNat_udiv,BitVec.ofInt_natCast,BitVec.toNat_ofNat,Nat.mod_eq_of_lt (show m < 2 ^ 32 by omega)]
 have h:binOp .quo t (Af x) (.int .u32 (m:Int))=pure (.int .u32 (IntKind.wrap .u32 ((x.toNat:Int).tdiv m))):=by
  have hm:¬(m:Int)=0:=by omega
  show Op.intDiv .quo .u32 x.toNat (m:Int)=_;unfold Op.intDiv;rw[if_neg hm]
 rw[h,show ((x.toNat:Int).tdiv m)=((x.toNat / m:Nat):Int) from rfl,<- e,Km]
attribute [go_sem high] Al8
theorem Ace (yk:IntKind) (m:Nat):binOp .shr t (Af x) (.int yk (m:Int))=pure (Af (x >>> m)):=by
 have h:binOp .shr t (Af x) (.int yk (m:Int))=pure (.int .u32 ((x.toNat:Int) / 2 ^ min m 32)):=by
  show Op.shift .shr .u32 x.toNat yk (m:Int)=_;rw[shift_shr_any _ _ _ _ (by omega)];rfl
 have e:((x.toNat:Int) / 2 ^ min m 32)=(((x >>> m).toNat:Nat):Int):=by
  have hp:((2:Int) ^ min m 32)=((2 ^ min m 32:Nat):Int):=by simp
  rw[hp,BitVec.toNat_ushiftRight,Nat.shiftRight_eq_div_pow,<- Int.natCast_ediv]
  congr 1
  by_cases hm:m<=32
  ·rw[Nat.min_eq_left hm]
  ·rw[Nat.min_eq_right (by omega),Nat.div_eq_of_lt x.isLt,Nat.div_eq_of_lt];exact Nat.lt_of_lt_of_le x.isLt (Nat.pow_le_pow_right (by decide) (by omega))
 rw[h,e];rfl
theorem Ach (yk:IntKind) (m:Nat):binOp .shl t (Af x) (.int yk (m:Int))=pure (Af (x <<< m)):=by
 have h:binOp .shl t (Af x) (.int yk (m:Int))=pure (.int .u32 (IntKind.wrap .u32 ((x.toNat:Int) * 2 ^ min m 32))):=by
  show Op.shift .shl .u32 x.toNat yk (m:Int)=_;rw[shift_shl_any _ _ _ _ (by omega)];rfl
 have e:((x.toNat:Int) * 2 ^ min m 32)=((x.toNat * 2 ^ min m 32:Nat):Int):=by
  have hp:((2:Int) ^ min m 32)=((2 ^ min m 32:Nat):Int):=by simp
  rw[hp,Int.natCast_mul]
 have e2:x.toNat * 2 ^ min m 32 % 4294967296=(x <<< m).toNat:=by
  rw[BitVec.toNat_shiftLeft,Nat.shiftLeft_eq];by_cases hm:m<=32
  ·rw[Nat.min_eq_left hm]
  ·obtain⟨j,rfl⟩:∃j,m=32+j:=⟨m - 32,by omega⟩;rw[Nat.min_eq_right (by omega),Nat.pow_add,Nat.mul_comm (2 ^ 32) (2 ^ j),<- Nat.mul_assoc,Nat.mul_mod_left];exact(Nat.mul_mod_left _ _).symm
 rw[h,e,Pe,e2];rfl
theorem Al7 (yk:IntKind) (h:0<=n):binOp .shr t (Af x) (.int yk n)=pure (Af (x >>> n.toNat)):=by
 obtain⟨m,rfl⟩:=Int.eq_ofNat_of_zero_le h;exact Ace t x yk m
theorem Acg (yk:IntKind) (h:0<=n):binOp .shl t (Af x) (.int yk n)=pure (Af (x <<< n.toNat)):=by
 obtain⟨m,rfl⟩:=Int.eq_ofNat_of_zero_le h;exact Ach t x yk m
attribute [go_sem high] Al7 Acg
theorem Acf (yk:IntKind) (m:Int) (h0:0<=n) (h1:n < 4294967296) (h:0<=m):binOp .shl t (.int .u32 n) (.int yk m)=pure (Af (BitVec.ofInt 32 n <<< m.toNat)):=by
 have e:Value.int .u32 n=Af (BitVec.ofInt 32 n):=by rw[Af,BitVec.toNat_ofInt];congr 1;omega
 rw[e];exact Acg t (BitVec.ofInt 32 n) m yk h
attribute [go_sem high] Acf
theorem Ahe:binOp .eql t (Af x) (Af y)=pure (.bool (x==y)):=by
 have h:binOp .eql t (Af x) (Af y)=pure (.bool ((x.toNat:Int)==(y.toNat:Int))):=by simp[binOp,Op.intCmp,Af]
 have e:((x.toNat:Int)==(y.toNat:Int))=(x==y):=by
  rw[Bool.eq_iff_iff,beq_iff_eq,beq_iff_eq];exact⟨fun e=>BitVec.eq_of_toNat_eq (by omega),fun e=>by rw[e]⟩
 rw[h,e]
theorem Al9 (h0:0<=n) (h1:n < 4294967296):Value.int .u32 n=Af (BitVec.ofInt 32 n):=by
 rw[Af,BitVec.toNat_ofInt];congr 1;omega
theorem Amb (h0:0<=n) (h1:n < 4294967296):binOp .eql t (Af x) (.int .u32 n)=pure (.bool (x==BitVec.ofInt 32 n)):=by
 rw[Al9 n h0 h1,Ahe]
attribute [go_sem high] Ahe Amb
theorem Aqj:Op.unary .xor (Af x)=pure (Af (~~~ x)):=by
 have e:(BitVec.ofInt 32 (IntKind.max .u32)) ^^^ x = ~~~ x:=by
  have:(BitVec.ofInt 32 (IntKind.max .u32))=BitVec.allOnes 32:=by decide
  rw[this,BitVec.allOnes_xor]
 show (pure (Value.int .u32 (IntKind.wrap .u32 ((BitVec.ofInt 32 (IntKind.max .u32)) ^^^ (BitVec.ofInt 32 (x.toNat:Int))).toNat)):Sem Value)=_;rw[Cn,e,Km]
attribute [go_sem high] Aqj
theorem Aip (P:Program) (w:World) (a:Addr) (m:Go.Mode):(store a (Af x) m).run P w=stored P w a (Af x) m:=run_store P w a _ m rfl
attribute [go_sem] Aip
theorem Ais:(Af x).cells=#[Af x]:=rfl
theorem Aqi:(Af x).oneCell'=true:=rfl
theorem Aiq:Value.cells.match_1 (motive:=fun _=>Array Value) (Af x) (fun cs=>cs) (fun v=>#[v])=#[Af x]:=rfl
attribute [go_sem ↓ high] Ais Aqi
attribute [go_sem] Aiq
theorem Aah (a:Addr):storeVar t a (Af x)=(do
  if 1≠(<- sizeOf t) then stuck "storeVar: the value has not the size of the variable"
  store a (Af x)):=by
 unfold storeVar;have e:storeCells a (Af x).cells.toList=store a (Af x):=by
  show (store (a.add 0) (Af x) >>= fun _=>pure ())=_;rw[show a.add 0=a from rfl];exact bind_pure_unit
 rw[e];rfl
attribute [go_sem ↓ high] Aah
theorem Air (op:BinOp) (p q:Operand) (v:Value):eqGuard op t p q (Af x) v=pure ():=by
 cases op<;>rfl
attribute [go_sem high] Air
end
section
variable (t:TypeId) (x y:BitVec 64) (n:Int)
theorem Acd (r:BitVec 64):Value.int .u64 (IntKind.wrap .u64 r.toNat)=F6 r:=by
 have h:=r.isLt;rw[Pd,Nat.mod_eq_of_lt h];rfl
theorem u64_or:binOp .or t (F6 x) (F6 y)=pure (F6 (x ||| y)):=by
 have h:binOp .or t (F6 x) (F6 y)=pure (.int .u64 (IntKind.wrap .u64 ((BitVec.ofInt 64 (x.toNat:Int)) ||| (BitVec.ofInt 64 (y.toNat:Int))).toNat)):=rfl;rw[h,Acd];simp only[Cn]
attribute [go_sem high] u64_or
theorem Aqh:binOp .add t (F6 x) (F6 y)=pure (F6 (x+y)):=by
 have e:BitVec.ofInt 64 ((x.toNat:Int)+(y.toNat:Int))=x+y:=by rw[BitVec.ofInt_add];simp only[Cn]
 have h:binOp .add t (F6 x) (F6 y)=pure (.int .u64 (IntKind.wrap .u64 ((x.toNat:Int)+(y.toNat:Int)))):=by simp[binOp,Op.intArith,F6]
 rw[h,It,e];rfl
attribute [go_sem high] Aqh
theorem Al4:binOp .mul t (F6 x) (.int .u64 n)=pure (F6 (x * BitVec.ofInt 64 n)):=by
 have e:BitVec.ofInt 64 ((x.toNat:Int) * n)=x * BitVec.ofInt 64 n:=by rw[BitVec.ofInt_mul];simp only[Cn]
 have h:binOp .mul t (F6 x) (.int .u64 n)=pure (.int .u64 (IntKind.wrap .u64 ((x.toNat:Int) * n))):=by simp[binOp,Op.intArith,F6]
 rw[h,It,e];rfl
attribute [go_sem high] Al4
theorem Al3 (h0:0 < n) (h1:n < 18446744073709551616):binOp .quo t (F6 x) (.int .u64 n)=pure (F6 (x / BitVec.ofInt 64 n)):=by
 obtain⟨m,rfl⟩:=Int.eq_ofNat_of_zero_le (Int.le_of_lt h0);have e:(x / BitVec.ofInt 64 (m:Int)).toNat=x.toNat / m:=by
  rw[BitVec.toNat_udiv,BitVec.ofInt_natCast,BitVec.toNat_ofNat,Nat.mod_eq_of_lt (show m < 2 ^ 64 by omega)]
 have h:binOp .quo t (F6 x) (.int .u64 (m:Int))=pure (.int .u64 (IntKind.wrap .u64 ((x.toNat:Int).tdiv m))):=by
  have hm:¬(m:Int)=0:=by omega
  show Op.intDiv .quo .u64 x.toNat (m:Int)=_;unfold Op.intDiv;rw[if_neg hm]
 rw[h,show ((x.toNat:Int).tdiv m)=((x.toNat / m:Nat):Int) from rfl,<- e,Acd]
theorem Al2 (h0:0 < n) (h1:n < 18446744073709551616):binOp .rem t (F6 x) (.int .u64 n)=pure (F6 (x % BitVec.ofInt 64 n)):=by
 obtain⟨m,rfl⟩:=Int.eq_ofNat_of_zero_le (Int.le_of_lt h0);have e:(x % BitVec.ofInt 64 (m:Int)).toNat=x.toNat % m:=by
  rw[BitVec.toNat_umod,BitVec.ofInt_natCast,BitVec.toNat_ofNat,Nat.mod_eq_of_lt (show m < 2 ^ 64 by omega)]
 have h:binOp .rem t (F6 x) (.int .u64 (m:Int))=pure (.int .u64 ((x.toNat:Int).tmod m)):=by
  have hm:¬(m:Int)=0:=by omega
  show Op.intDiv .rem .u64 x.toNat (m:Int)=_;unfold Op.intDiv;rw[if_neg hm]
 rw[h,show ((x.toNat:Int).tmod m)=((x.toNat % m:Nat):Int) from rfl,<- e];rfl
attribute [go_sem high] Al3 Al2
theorem Aca (yk:IntKind) (m:Nat):binOp .shr t (F6 x) (.int yk (m:Int))=pure (F6 (x >>> m)):=by
 have h:binOp .shr t (F6 x) (.int yk (m:Int))=pure (.int .u64 ((x.toNat:Int) / 2 ^ min m 64)):=by
  show Op.shift .shr .u64 x.toNat yk (m:Int)=_;rw[shift_shr_any _ _ _ _ (by omega)];rfl
 have e:((x.toNat:Int) / 2 ^ min m 64)=(((x >>> m).toNat:Nat):Int):=by
  have hp:((2:Int) ^ min m 64)=((2 ^ min m 64:Nat):Int):=by simp
  rw[hp,BitVec.toNat_ushiftRight,Nat.shiftRight_eq_div_pow,<- Int.natCast_ediv]
  congr 1
  by_cases hm:m<=64
  ·rw[Nat.min_eq_left hm]
  ·rw[Nat.min_eq_right (by omega),Nat.div_eq_of_lt x.isLt,Nat.div_eq_of_lt];exact Nat.lt_of_lt_of_le x.isLt (Nat.pow_le_pow_right (by decide) (by omega))
 rw[h,e];rfl
theorem Acb (yk:IntKind) (m:Nat):binOp .shl t (F6 x) (.int yk (m:Int))=pure (F6 (x <<< m)):=by
 have h:binOp .shl t (F6 x) (.int yk (m:Int))=pure (.int .u64 (IntKind.wrap .u64 ((x.toNat:Int) * 2 ^ min m 64))):=by
  show Op.shift .shl .u64 x.toNat yk (m:Int)=_;rw[shift_shl_any _ _ _ _ (by omega)];rfl
 have e:((x.toNat:Int) * 2 ^ min m 64)=((x.toNat * 2 ^ min m 64:Nat):Int):=by
  have hp:((2:Int) ^ min m 64)=((2 ^ min m 64:Nat):Int):=by simp
  rw[hp,Int.natCast_mul]
 have e2:x.toNat * 2 ^ min m 64 % 18446744073709551616=(x <<< m).toNat:=by
  rw[BitVec.toNat_shiftLeft,Nat.shiftLeft_eq];by_cases hm:m<=64
  ·rw[Nat.min_eq_left hm]
  ·obtain⟨j,rfl⟩:∃j,m=64+j:=⟨m - 64,by omega⟩;rw[Nat.min_eq_right (by omega),Nat.pow_add,Nat.mul_comm (2 ^ 64) (2 ^ j),<- Nat.mul_assoc,Nat.mul_mod_left];exact(Nat.mul_mod_left _ _).symm
 rw[h,e,Pd,e2];rfl
theorem Al0 (yk:IntKind) (h:0<=n):binOp .shr t (F6 x) (.int yk n)=pure (F6 (x >>> n.toNat)):=by
 obtain⟨m,rfl⟩:=Int.eq_ofNat_of_zero_le h;exact Aca t x yk m
theorem Al1 (yk:IntKind) (h:0<=n):binOp .shl t (F6 x) (.int yk n)=pure (F6 (x <<< n.toNat)):=by
 obtain⟨m,rfl⟩:=Int.eq_ofNat_of_zero_le h;exact Acb t x yk m
attribute [go_sem high] Al0 Al1
theorem Aio:(F6 x).cells=#[F6 x]:=rfl
theorem Aqg:(F6 x).oneCell'=true:=rfl
theorem Aim:Value.cells.match_1 (motive:=fun _=>Array Value) (F6 x) (fun cs=>cs) (fun v=>#[v])=#[F6 x]:=rfl
attribute [go_sem ↓ high] Aio Aqg
attribute [go_sem] Aim
theorem Aag (a:Addr):storeVar t a (F6 x)=(do
  if 1≠(<- sizeOf t) then stuck "storeVar: the value has not the size of the variable"
  store a (F6 x)):=by
 unfold storeVar;have e:storeCells a (F6 x).cells.toList=store a (F6 x):=by
  show (store (a.add 0) (F6 x) >>= fun _=>pure ())=_;rw[show a.add 0=a from rfl];exact bind_pure_unit
 rw[e];rfl
attribute [go_sem ↓ high] Aag
theorem Ain (op:BinOp) (p q:Operand) (v:Value):eqGuard op t p q (F6 x) v=pure ():=by
 cases op<;>rfl
attribute [go_sem high] Ain
end
section
variable (P:Program) (w:World) (src dst:TypeId)
theorem Ak2 (x:BitVec 8) (hs:(P.underlying src).isSome=true) (hd:P.underlying dst=some (.int .u32)):(convert src dst (U8 x)).run P w=.ok (Af (x.setWidth 32)) w:=by
 have hk:P.intKind dst=.u32:=by simp[Program.intKind,hd]
 have h:=run_convert_int (P:=P) w src dst .u8 x.toNat hs (by rw[hk];exact hd);rw[hk] at h;rw[U8,h,Fv];have e:BitVec.ofInt 32 (x.toNat:Int)=x.setWidth 32:=by rw[BitVec.ofInt_natCast,BitVec.ofNat_toNat]
 rw[e];rfl
attribute [go_sem high] Ak2
theorem Ak1 (x:BitVec 8) (hs:(P.underlying src).isSome=true) (hd:P.underlying dst=some (.int .u64)):(convert src dst (U8 x)).run P w=.ok (F6 (x.setWidth 64)) w:=by
 have hk:P.intKind dst=.u64:=by simp[Program.intKind,hd]
 have h:=run_convert_int (P:=P) w src dst .u8 x.toNat hs (by rw[hk];exact hd);rw[hk] at h;rw[U8,h,It];have e:BitVec.ofInt 64 (x.toNat:Int)=x.setWidth 64:=by rw[BitVec.ofInt_natCast,BitVec.ofNat_toNat]
 rw[e];rfl
attribute [go_sem high] Ak1
theorem Agw (x:BitVec 32) (hs:(P.underlying src).isSome=true) (hd:P.underlying dst=some (.int .u64)):(convert src dst (Af x)).run P w=.ok (F6 (x.setWidth 64)) w:=by
 have hk:P.intKind dst=.u64:=by simp[Program.intKind,hd]
 have h:=run_convert_int (P:=P) w src dst .u32 x.toNat hs (by rw[hk];exact hd);rw[hk] at h;rw[Af,h,It];have e:BitVec.ofInt 64 (x.toNat:Int)=x.setWidth 64:=by rw[BitVec.ofInt_natCast,BitVec.ofNat_toNat]
 rw[e];rfl
attribute [go_sem high] Agw
theorem Ak3 (x:BitVec 64) (hs:(P.underlying src).isSome=true) (hd:P.underlying dst=some (.int .u8)):(convert src dst (F6 x)).run P w=.ok (U8 (x.setWidth 8)) w:=by
 have hk:P.intKind dst=.u8:=by simp[Program.intKind,hd]
 have h:=run_convert_int (P:=P) w src dst .u64 x.toNat hs (by rw[hk];exact hd);rw[hk] at h;rw[F6,h,Aew];have e:BitVec.ofInt 8 (x.toNat:Int)=x.setWidth 8:=by rw[BitVec.ofInt_natCast,BitVec.ofNat_toNat]
 rw[e];rfl
attribute [go_sem high] Ak3
theorem Agv (x:BitVec 64) (hs:(P.underlying src).isSome=true) (hd:P.underlying dst=some (.int .u32)):(convert src dst (F6 x)).run P w=.ok (Af (x.setWidth 32)) w:=by
 have hk:P.intKind dst=.u32:=by simp[Program.intKind,hd]
 have h:=run_convert_int (P:=P) w src dst .u64 x.toNat hs (by rw[hk];exact hd);rw[hk] at h;rw[F6,h,Fv];have e:BitVec.ofInt 32 (x.toNat:Int)=x.setWidth 32:=by rw[BitVec.ofInt_natCast,BitVec.ofNat_toNat]
 rw[e];rfl
attribute [go_sem high] Agv
end
section
variable {P:Program} (w:World)
theorem Vf (t:TypeId) (a:Addr) (i:BitVec 8) (h:P.underlying t=some (.array (P.arrayLen t) (P.elem t))) (hi:idx i < P.arrayLen t) :
  (Instr.indexAt t (.pointer (some a)) (U8 i)).run P w=((sizeOf (P.elem t)).run P w).andThen fun s w=>.ok (.pointer (some (a.add (idx i * s)))) w:=by
 rw[U8,run_indexAt_array w t a .u8 i.toNat h,if_pos (by unfold idx at hi;omega)];rfl
attribute [go_sem high] Vf
end
open Go.RowKit
def Ad (l:List (BitVec 8)) (k:Nat):BitVec 8:=l.getD k 0#8
def Bf (w:World) (b off:Nat) (l:List (BitVec 8)):Prop:=∀i,i < l.length->w.cell? ⟨b,off+i,none⟩=some (U8 (Ad l i))
structure A0 (w:World) (a:Option Addr) (cap:Nat) (l:List (BitVec 8)):Prop where
 fits:l.length<=cap
 room:cap<=9223372036854775807
 null:a=none->cap=0
 bytes:l=[]\/∃b off,a=some ⟨b,off,none⟩/\Bf w b off l
def C6 (w:World) (B:Nat) (E:TypeId) (v:Value) (l:List (BitVec 8)):Prop:=w.ownsRow B E 1 v l.length (l.map U8)
theorem Cm {l:List (BitVec 8)} {k:Nat} (h:k < l.length):Ad l k=l[k]:=by simp[Ad,List.getD_eq_getElem?_getD,List.getElem?_eq_getElem h]
theorem Y9 (l:List (BitVec 8)) (k:Nat) (h:k < l.length):l.take (k+1)=l.take k++[Ad l k]:=by
 rw[List.take_succ_eq_append_getElem h,Cm h]
theorem Wx {l m:List (BitVec 8)} (hl:l.length=m.length) (h:∀i,i < l.length->Ad l i=Ad m i):l=m:=by
 refine List.ext_getElem hl fun i h1 h2=>?_;rw[<- Cm h1,<- Cm h2,h i h1]
theorem Na {l:List (BitVec 8)} {n i:Nat} (h:i < n):Ad (l.take n) i=Ad l i:=by simp[Ad,List.getD_eq_getElem?_getD,h]
theorem Nb (l:List (BitVec 8)) (n i:Nat):Ad (l.drop n) i=Ad l (n+i):=by simp[Ad,List.getD_eq_getElem?_getD]
theorem Bf.take {w:World} {b off:Nat} {l:List (BitVec 8)} (h:Bf w b off l) (n:Nat):Bf w b off (l.take n):=by
 intro i hi;have h1:i < l.length/\i < n:=by rw[List.length_take] at hi;omega
 rw[h i h1.1,Na h1.2]
theorem Bf.drop {w:World} {b off:Nat} {l:List (BitVec 8)} (h:Bf w b off l) (n:Nat):Bf w b (off+n) (l.drop n):=by
 intro i hi;rw[List.length_drop] at hi;have:=h (n+i) (by omega);rw[show off+n+i=off+(n+i) by omega,this,Nb]
theorem Bf.mono {w w':World} {b off:Nat} {l:List (BitVec 8)} (h:Bf w b off l) (hw:∀o v,w.cell? ⟨b,o,none⟩=some v->w'.cell? ⟨b,o,none⟩=some v):Bf w' b off l :=
 fun i hi=>hw _ _ (h i hi)
def Bm (w w':World):Prop:=∀a v,w.cell? a=some v->w'.cell? a=some v
theorem Bm.drewN (w:World) (n:Nat):Bm w (w.drewN n):=fun _ _ h=>h
theorem Bm.alloc (w:World) (o:Obj):Bm w (w.alloc o):=fun p v h=>by
 rw[World.cell?_of_block (w:=w) (Below.heap_alloc w o p.block (World.block_lt_of_cell? w p h))];exact h
theorem Bm.below {w w':World} (h:Below w.heap.size w w'):Bm w w':=fun p v e=>by
 rw[h.cell (World.block_lt_of_cell? w p e)];exact e
section
variable {w w':World} {a:Option Addr} {cap:Nat} {l:List (BitVec 8)}
theorem A0.keeps (h:A0 w a cap l) (k:Bm w w'):A0 w' a cap l:=by
 refine⟨h.fits,h.room,h.null,?_⟩;rcases h.bytes with e|⟨b,off,e,hb⟩
 ·exact .inl e
 ·exact .inr ⟨b,off,e,hb.mono fun o v hv=>k _ _ hv⟩
theorem A0.take (h:A0 w a cap l) (n:Nat):A0 w a cap (l.take n):=by
 refine⟨Nat.le_trans (by rw[List.length_take];omega) h.fits,h.room,h.null,?_⟩;rcases h.bytes with rfl|⟨b,off,e,hb⟩
 ·exact .inl (by simp)
 ·exact .inr ⟨b,off,e,hb.take n⟩
end
theorem Hz (w:World):A0 w none 0 []:=⟨by simp,by omega,fun _=>rfl,.inl rfl⟩
section
variable {w w':World} {B:Nat} {E:TypeId} {v:Value} {l:List (BitVec 8)}
theorem Ij (w:World) (B:Nat) (E:TypeId):C6 w B E (.slice none 0 0) []:=World.ownsRow_nil w B E 1
theorem C6.reads (h:C6 w B E v l):∃a cap,v=.slice a l.length cap/\A0 w a cap l:=by
 rcases h.2 with⟨rfl,h0⟩|⟨g,cap,cur,rfl,_,hg,hn,hc,hs,ht⟩
 ·have:l=[]:=List.eq_nil_of_length_eq_zero h0;subst this;exact⟨none,0,rfl,Hz w⟩
 ·refine⟨some ⟨g,0,none⟩,cap,rfl,hn,by unfold maxLen at hc;omega,(by intro e;cases e),.inr ⟨g,0,rfl,fun i hi=>?_⟩⟩;have:=h.cells (g:=g) rfl i (U8 (Ad l i)) (by rw[List.getElem?_map,List.getElem?_eq_getElem hi,Cm hi];rfl);simpa [Addr.add_lit] using this
theorem C6.below (h:C6 w B E v l) (hb:Below w.heap.size w w'):C6 w' B E v l :=
 h.kept (row:=none) ⟨hb.os,hb.tape,hb.output,hb.size,fun k hk _=>hb.block k hk⟩ (by cases hv:v.ownBlock<;>simp)
theorem C6.mono {B':Nat} (h:C6 w B E v l) (hB:B'<=B):C6 w B' E v l:=by
 refine⟨h.1,?_⟩;rcases h.2 with e|⟨g,cap,cur,e,hb,r⟩
 ·exact .inl e
 ·exact .inr ⟨g,cap,cur,e,Nat.le_trans hB hb,r⟩
end
structure ByteSlice (P:Program) (t e:TypeId):Prop where
 slice:P.underlying t=some (.slice e)
 info:(P.info? e).map (fun i=>(i.zero,i.size,i.bytes))=some (some (.int .u8 0),1,1)
theorem N0 {P:Program} {w:World} {ops:Array Oper} {rest:List Oper} {o:Oper} {act:Act} {Q:Exit->Act->World->Prop} {t e:TypeId} (T:ByteSlice P t e)
  (hgd:o.guard=none) (s x:Operand) (ho:o.op=.call { callee:=.builtin .append,args:=#[s,x],argTypes:=#[t,t] })
  (B:Nat) (v:Value) (l:List (BitVec 8)) (hs:act.eval s=v) (hown:C6 w B e v l)
  (a:Option Addr) (cap:Nat) (m:List (BitVec 8)) (hx:act.eval x=.slice a m.length cap) (hm:A0 w a cap m)
  (hlen:l.length+m.length<=140737488355328) (hbase:B<=w.heap.size)
  (h:∀v' w',C6 w' B e v' (l++m)->w.grownBy w' v.ownBlock->wpList P ops Q rest (act.put o.dst v') w'):wpList P ops Q (o::rest) act w:=by
 obtain⟨i,hi,hz0,hz1,hz2⟩:=info_parts T.info;have fin:∀v' w',w'.ownsRow B e 1 v' (l.length+m.length) (l.map U8++m.map U8)->w.grownBy w' v.ownBlock->wpList P ops Q rest (act.put o.dst v') w':=by
  intro v' w' h1 h2;exact h v' w' (by unfold C6;rw[List.length_append,List.map_append];exact h1) h2
 by_cases hn:a=none
 ·subst hn;have hc:=hm.null rfl;have hm0:m=[]:=List.eq_nil_of_length_eq_zero (by have:=hm.fits;omega);subst hc hm0;refine wpList_append_own_none hgd s x t ho B e i 1 T.slice hi v l.length (l.map U8) hs hown (by simpa using hx) ?_;exact fin v w (by simpa [C6] using hown) ⟨rfl,rfl,rfl,Nat.le_refl _,fun _ _ _=>rfl⟩
 ·obtain⟨ad,rfl⟩:=Option.ne_none_iff_exists'.1 hn;refine wpList_append_own w hgd s x t ho B e i (.int .u8 0) 1 1 T.slice hi hz0 hz1 hz2 rfl (by decide) v l.length (l.map U8) hs hown ad m.length cap (m.map U8) hx (by simp) ?_ ?_ ?_ ?_ hbase ?_
  ·intro j u hu;rcases hm.bytes with rfl|⟨b,off,e1,hb⟩
   ·simp at hu
   ·obtain rfl:=Option.some.inj e1;rw[List.getElem?_map] at hu;obtain⟨c,hc,rfl⟩:=Option.map_eq_some_iff.1 hu;obtain⟨hj,hc'⟩:=List.getElem?_eq_some_iff.1 hc;rw[Addr.add_lit,hb j hj,Cm hj,hc']
  ·intro u hu;obtain⟨c,_,rfl⟩:=List.mem_map.1 hu;rfl
  ·unfold maxLen;omega
  ·omega
  ·intro v' w' h1 h2 _;exact fin v' w' h1 h2
theorem Ak5 (w:World) (cs:Array Value) (E:TypeId) (fr:Nat × Nat) (l:List (BitVec 8)) (h:cs.toList=l.map U8):Bf (w.alloc (.cells cs E fr)) w.heap.size 0 l:=by
 intro i hi;have:(w.alloc (.cells cs E fr)).cell? ⟨w.heap.size,0+i,none⟩=cs[i]?:=by
  unfold World.cell?;rw[heap_alloc_new];simp
 rw[this,<- Array.getElem?_toList,h,List.getElem?_map,List.getElem?_eq_getElem hi,Cm hi];rfl
theorem H6 (w:World) (cs:Array Value) (E:TypeId) (fr:Nat × Nat) (l:List (BitVec 8)) (h:cs.toList=l.map U8) (hl:l.length<=9223372036854775807) :
  A0 (w.alloc (.cells cs E fr)) (some ⟨w.heap.size,0,none⟩) l.length l :=
 ⟨Nat.le_refl _,hl,(by intro e;cases e),.inr ⟨_,_,rfl,Ak5 w cs E fr l h⟩⟩
def Dz (w:World) (B:Nat) (E:TypeId) (g cap n:Nat) (l:List (BitVec 8)):Prop :=
 w.ownsRow B E 1 (.slice (some ⟨g,0,none⟩) n cap) n (l.map U8)/\l.length=n
section
variable {w w':World} {B:Nat} {E:TypeId} {g cap n:Nat} {l:List (BitVec 8)} {v:Value}
theorem C6.row (h:C6 w B E v l) (hl:l.length≠0):∃g cap,v=.slice (some ⟨g,0,none⟩) l.length cap/\Dz w B E g cap l.length l/\B<=g/\g < w.heap.size:=by
 rcases h.2 with⟨_,h0⟩|⟨g,cap,cur,rfl,hb,_⟩
 ·exact(hl h0).elim
 ·exact⟨g,cap,rfl,⟨h,rfl⟩,hb,(h.lt g rfl).2⟩
theorem Dz.owns (h:Dz w B E g cap n l):C6 w B E (.slice (some ⟨g,0,none⟩) n cap) l:=by
 obtain⟨h1,rfl⟩:=h;exact h1
theorem Dz.reads (h:Dz w B E g cap n l):A0 w (some ⟨g,0,none⟩) cap l:=by
 obtain⟨h1,rfl⟩:=h;obtain⟨a,c,e,r⟩:=C6.reads (v:=.slice (some ⟨g,0,none⟩) l.length cap) h1;simp only[Value.slice.injEq,true_and] at e;obtain⟨rfl,rfl⟩:=e;exact r
theorem Dz.cell (h:Dz w B E g cap n l) (j:Nat) (hj:j < n):w.cell? ⟨g,j,none⟩=some (U8 (Ad l j)):=by
 rw[h.1.cellAt j (by omega),List.getElem?_map,List.getElem?_eq_getElem (by rw[h.2];exact hj),Cm (by rw[h.2];exact hj)];rfl
theorem Dz.thawed (h:Dz w B E g cap n l) (j:Nat):w.frozen? ⟨g,j,none⟩=false:=h.1.frozenAt j
theorem Dz.set (h:Dz w B E g cap n l) (j:Nat) (x:BitVec 8):Dz (w.setCell ⟨g,j,none⟩ (U8 x)) B E g cap n (l.set j x):=by
 have:=(h.1.stored j (U8 x)).1;exact⟨by rw[List.map_set];exact this,by rw[List.length_set];exact h.2⟩
theorem Dz.drewN (h:Dz w B E g cap n l) (m:Nat):Dz (w.drewN m) B E g cap n l:=h
end
theorem Ay:ByteSlice prog 37 5:=⟨by kernel_rfl,by kernel_rfl⟩
theorem Zj {a:Option Addr} {m n c:Nat} (h:m=n):Ending.returned (.slice a m c)=.returned (.slice a n c):=by rw[h]
theorem Aaz {a b:Int} (h:a=b):Ending.returned (.int .i64 a)=.returned (.int .i64 b):=by rw[h]
theorem Aqz {a b:BitVec 32} (h:a=b):Ending.returned (Af a)=.returned (Af b):=by rw[h]
theorem Asj (a:Option Addr) (cap:Nat) (l:List (BitVec 8)) (n:Nat) (N:Int) (w:World) (hN:(n:Int)=N) (hr:A0 w a cap l) (hn:n<=1048576) :
  Calls prog 18 #[.slice a l.length cap,.int .i64 N] w fun e w'=>e=.returned (.slice a (l.take n).length cap)/\w=w':=by
 subst hN;have hl:=hr.fits;have hc:=hr.room;by_cases h:n < l.length
 ·rcases hr.bytes with rfl|⟨b,off,rfl,_⟩
  ·simp at h
  ·clear hr
   go_enter func18,ntmps18
   go_wp2
   go_ret
   exact⟨Zj (by rw[List.length_take];omega),rfl⟩
 ·clear hr
  go_enter func18,ntmps18
  go_wp2
  go_ret
  exact⟨Zj (by rw[List.length_take];omega),rfl⟩
def Mj (x lo hi:Int):Int:=if x < lo then lo else if hi < x then hi else x
theorem Ae0 (x lo hi:Int) (w:World) :
  Calls prog 12 #[.int .i64 x,.int .i64 lo,.int .i64 hi] w fun e w'=>e=.returned (.int .i64 (Mj x lo hi))/\w=w':=by
 by_cases h1:x < lo
 ·go_enter func12,ntmps12
  go_wp2
  go_ret
  exact⟨Aaz (by unfold Mj;omega),rfl⟩
 ·by_cases h2:hi < x
  ·go_enter func12,ntmps12
   go_wp2
   go_ret
   exact⟨Aaz (by unfold Mj;omega),rfl⟩
  ·go_enter func12,ntmps12
   go_wp2
   go_ret
   exact⟨Aaz (by unfold Mj;omega),rfl⟩
def Auw (w:World) (l:List (BitVec 8)) (e:Ending) (w':World):Prop:=∃v,e=.returned v/\C6 w' w.heap.size 5 v l/\Below w.heap.size w w'
theorem Aei (a:Option Addr) (cap:Nat) (l:List (BitVec 8)) (w:World) (hr:A0 w a cap l) (hl:l.length<=140737488355328) :
  Calls prog 17 #[.slice a l.length cap] w (Auw w l):=by
 go_enter func17,ntmps17
 go_wp2_with (at_builtin;refine N0 Ay rfl _ _ rfl w.heap.size (.slice none 0 0) [] rfl (Ij _ _ _) a cap l rfl hr (by simpa using hl) (Nat.le_refl _) ?_;intro v' w' h1 h2)
 go_ret
 exact⟨_,rfl,h1,⟨h2.os,h2.tape,h2.output,h2.size,fun k hk=>h2.block k hk (by simp[Value.ownBlock])⟩⟩
def Cf (a:Option Addr) (cap n:Nat):Option Addr:=if cap=n then a else a.map (·.add n)
theorem Aab (a:Addr):a.add 0=a:=by simp[Addr.add]
theorem Aa6 (a:Option Addr):a.map (fun x=>x.add 0)=a:=by cases a<;>simp[Aab]
section
variable {P:Program} {t e:TypeId} (T:ByteSlice P t e) (w:World) (a:Option Addr) (len cap:Nat)
include T
theorem Ey (k:IntKind) (n:Nat) (N:Int) (hN:N=n) (hn:n<=len):(Instr.slice t (.slice a len cap) (some (.int k N)) none none).run P w=.ok (.slice (Cf a cap n) (len - n) (cap - n)) w:=by
 obtain⟨i,hi,_,hz1,_⟩:=info_parts T.info;subst hN;have hn':(n:Int)<=(len:Int):=by omega
 simp[Instr.slice,run_underlying T.slice,Instr.sliceBounds,Instr.sliceBound,asIntOf,hn,sizeOf,typeInfo,hi,hz1,Cf]
theorem Gb (k:IntKind) (n:Nat) (N:Int) (hN:N=n) (hn:n<=cap):(Instr.slice t (.slice a len cap) none (some (.int k N)) none).run P w=.ok (.slice a n cap) w:=by
 obtain⟨i,hi,_,_,_⟩:=info_parts T.info;subst hN;simp[Instr.slice,run_underlying T.slice,Instr.sliceBounds,Instr.sliceBound,asIntOf,hn,sizeOf,typeInfo,hi,Aa6]
theorem Ii (k k':IntKind) (m n:Nat) (M N:Int) (hM:M=m) (hN:N=n) (hmn:m<=n) (hn:n<=cap) :
  (Instr.slice t (.slice a len cap) (some (.int k M)) (some (.int k' N)) none).run P w=.ok (.slice (Cf a cap m) (n - m) (cap - m)) w:=by
 obtain⟨i,hi,_,hz1,_⟩:=info_parts T.info;subst hM hN;have h2:m<=cap:=by omega
 simp[Instr.slice,run_underlying T.slice,Instr.sliceBounds,Instr.sliceBound,asIntOf,hn,hmn,sizeOf,typeInfo,hi,hz1,Cf]
end
theorem A0.drop {w:World} {a:Option Addr} {cap:Nat} {l:List (BitVec 8)} (h:A0 w a cap l) (n:Nat) (hn:n<=l.length):A0 w (Cf a cap n) (cap - n) (l.drop n):=by
 have h1:=h.fits;have h2:=h.room;refine⟨by rw[List.length_drop];omega,by omega,?_,?_⟩
 ·intro e;unfold Cf at e;split at e
  ·rename_i hc;omega
  ·have:a=none:=by cases a<;>simp_all
   have:=h.null this;omega
 ·by_cases hd:l.drop n=[]
  ·exact .inl hd
  ·right;have hlt:n < l.length:=by
    rcases Nat.lt_or_ge n l.length with h' | h'
    ·exact h'
    ·exact(hd (List.drop_eq_nil_of_le h')).elim
   rcases h.bytes with rfl|⟨b,off,rfl,hb⟩
   ·simp at hlt
   ·refine⟨b,off+n,?_,hb.drop n⟩;unfold Cf;rw[if_neg (by omega),Option.map_some,Addr.add_lit]
def Aup (w:World) (b off:Nat) (l:List Int):Prop:=∀i,i < l.length->w.cell? ⟨b,off+i,none⟩=some (.int .i64 (l.getD i 0))
structure Avr (w:World) (a:Option Addr) (cap:Nat) (l:List Int):Prop where
 fits:l.length<=cap
 room:cap<=9223372036854775807
 null:a=none->cap=0
 ints:l=[]\/∃b off,a=some ⟨b,off,none⟩/\Aup w b off l
 bounds:∀i,i < l.length->-9223372036854775808<=l.getD i 0/\l.getD i 0<=9223372036854775807
structure Touch (F:Nat->Prop) (w w':World):Prop where
 os:w'.os=w.os
 tape:w'.tape=w.tape
 output:w'.output=w.output
 size:w.heap.size<=w'.heap.size
 block:∀k,k < w.heap.size->¬F k->w'.heap[k]?=w.heap[k]?
theorem Touch.refl (F:Nat->Prop) (w:World):Touch F w w:=⟨rfl,rfl,rfl,Nat.le_refl _,fun _ _ _=>rfl⟩
theorem Touch.trans {F:Nat->Prop} {a b c:World} (h:Touch F a b) (k:Touch F b c):Touch F a c :=
 ⟨k.os.trans h.os,k.tape.trans h.tape,k.output.trans h.output,Nat.le_trans h.size k.size,fun i hi hn=>(k.block i (Nat.lt_of_lt_of_le hi h.size) hn).trans (h.block i hi hn)⟩
theorem Touch.trans' {F G:Nat->Prop} {a b c:World} (h:Touch F a b) (k:Touch G b c) (hG:∀i,G i->F i\/a.heap.size<=i):Touch F a c :=
 ⟨k.os.trans h.os,k.tape.trans h.tape,k.output.trans h.output,Nat.le_trans h.size k.size,fun i hi hn=>(k.block i (Nat.lt_of_lt_of_le hi h.size) (fun g=>(hG i g).elim hn (by omega))).trans (h.block i hi hn)⟩
theorem Touch.mono {F G:Nat->Prop} {w w':World} (h:Touch F w w') (hG:∀i,F i->G i):Touch G w w' :=
 ⟨h.os,h.tape,h.output,h.size,fun i hi hn=>h.block i hi (fun f=>hn (hG i f))⟩
theorem Touch.below {F:Nat->Prop} {B:Nat} {w w':World} (h:Touch F w w') (hF:∀k,F k->B<=k) (hB:B<=w.heap.size):Below B w w' :=
 ⟨h.os,h.tape,h.output,h.size,fun k hk=>h.block k (by omega) (fun f=>by have:=hF k f;omega)⟩
theorem Touch.of_below {F:Nat->Prop} {w w':World} (h:Below w.heap.size w w'):Touch F w w':=⟨h.os,h.tape,h.output,h.size,fun k hk _=>h.block k hk⟩
theorem Touch.of_grown {F:Nat->Prop} {row:Option Nat} {w w':World} (h:w.grownBy w' row) (hb:∀k,row=some k->F k):Touch F w w' :=
 ⟨h.os,h.tape,h.output,h.size,fun k hk hn=>h.block k hk (fun e=>hn (hb k e.symm))⟩
theorem Touch.drewN {F:Nat->Prop} {a w:World} (h:Touch F a w) (n:Nat):Touch F a (w.drewN n):=⟨h.os,h.tape,h.output,h.size,h.block⟩
theorem Touch.alloc {F:Nat->Prop} {a w:World} (h:Touch F a w) (o:Obj):Touch F a (w.alloc o) :=
 ⟨h.os,h.tape,h.output,Nat.le_trans h.size (by simp),fun k hk hn=>(Below.heap_alloc w o k (Nat.lt_of_lt_of_le hk h.size)).trans (h.block k hk hn)⟩
theorem Touch.set {F:Nat->Prop} (w:World) (b o:Nat) (v:Value) (hb:F b):Touch F w (w.setCell ⟨b,o,none⟩ v) :=
 ⟨rfl,rfl,rfl,by simp[World.setCell],fun k _ hk=>Below.heap_setCell w ⟨b,o,none⟩ v k (fun e=>hk (by rw[e];exact hb))⟩
theorem Touch.cell {F:Nat->Prop} {w w':World} (h:Touch F w w') {a:Addr} {v:Value} (hc:w.cell? a=some v) (hn:¬F a.block):w'.cell? a=some v:=by
 rw[World.cell?_of_block (w:=w) (h.block a.block (World.block_lt_of_cell? w a hc) hn)];exact hc
theorem Touch.frozen {F:Nat->Prop} {w w':World} (h:Touch F w w') {a:Addr} (hl:a.block < w.heap.size) (hn:¬F a.block):w'.frozen? a=w.frozen? a :=
 World.frozen?_of_block (w:=w) (h.block a.block hl hn)
theorem Touch.bytes {F:Nat->Prop} {w w':World} (h:Touch F w w') {b off:Nat} {l:List (BitVec 8)} (hb:Bf w b off l) (hn:¬F b):Bf w' b off l :=
 hb.mono fun _ _ hc=>h.cell hc hn
theorem Touch.reads {F:Nat->Prop} {w w':World} (h:Touch F w w') {a:Option Addr} {cap:Nat} {l:List (BitVec 8)} (hr:A0 w a cap l) (hn:∀ad,a=some ad->¬F ad.block):A0 w' a cap l:=by
 refine⟨hr.fits,hr.room,hr.null,?_⟩;rcases hr.bytes with e|⟨b,off,e,hb⟩
 ·exact .inl e
 ·exact .inr ⟨b,off,e,h.bytes hb (hn _ e)⟩
theorem Dk {w:World} {g:Nat} {x:Obj} (h:w.heap[g]?=some x):g < w.heap.size:=by
 rcases Nat.lt_or_ge g w.heap.size with h' | h'
 ·exact h'
 ·rw[Array.getElem?_eq_none h'] at h;cases h
theorem Touch.row {F:Nat->Prop} {w w':World} (h:Touch F w w') {B:Nat} {E:TypeId} {size n:Nat} {v:Value} {xs:List Value} (hr:w.ownsRow B E size v n xs) (hn:∀k,v.ownBlock=some k->¬F k):w'.ownsRow B E size v n xs:=by
 obtain⟨h1,h2⟩:=hr;refine⟨h1,?_⟩;rcases h2 with h2|⟨g,cap,cur,hv,hg,hh,r⟩
 ·exact .inl h2
 ·refine .inr ⟨g,cap,cur,hv,hg,?_,r⟩;rw[h.block g (Dk hh) (hn g (by rw[hv];rfl))];exact hh
theorem Touch.owns {F:Nat->Prop} {w w':World} (h:Touch F w w') {B:Nat} {E:TypeId} {v:Value} {l:List (BitVec 8)} (ho:C6 w B E v l) (hn:∀k,v.ownBlock=some k->¬F k):C6 w' B E v l:=h.row ho hn
theorem Dm {w:World} {B:Nat} {E:TypeId} {size n:Nat} {v:Value} {xs:List Value} (h:w.ownsRow B E size v n xs) {k:Nat} (hk:v.ownBlock=some k):B<=k/\k < w.heap.size:=by
 rcases h.2 with⟨rfl,_⟩|⟨g,cap,cur,rfl,hg,hh,_⟩
 ·simp[Value.ownBlock] at hk
 ·simp only[Value.ownBlock,Option.some.injEq] at hk;subst hk;exact⟨hg,Dk hh⟩
theorem V9 {w:World} {B B':Nat} {E:TypeId} {size n:Nat} {v:Value} {xs:List Value} (h:w.ownsRow B E size v n xs) (hB:∀k,v.ownBlock=some k->B'<=k):w.ownsRow B' E size v n xs:=by
 refine⟨h.1,?_⟩;rcases h.2 with e|⟨g,cap,cur,e,hb,r⟩
 ·exact .inl e
 ·exact .inr ⟨g,cap,cur,e,hB g (by rw[e];rfl),r⟩
structure Aet (P:Program) (t e:TypeId) (z:Value) (bytes:Nat):Prop where
 slice:P.underlying t=some (.slice e)
 info:(P.info? e).map (fun i=>(i.zero,i.size,i.bytes))=some (some z,1,bytes)
 one:z.cells.size=1
section
variable {P:Program} {t e:TypeId} {z:Value} {bytes:Nat} (T:Aet P t e z bytes) (w:World) (a:Option Addr) (len cap:Nat)
include T
end
theorem Da {P:Program} {w:World} {ops:Array Oper} {rest:List Oper} {o:Oper} {act:Act} {Q:Exit->Act->World->Prop} {t e:TypeId} {z:Value} {bytes:Nat} (T:Aet P t e z bytes)
  (hgd:o.guard=none) (s x:Operand) (ho:o.op=.call { callee:=.builtin .append,args:=#[s,x],argTypes:=#[t,t] })
  (B:Nat) (v:Value) (n:Nat) (xs:List Value) (hs:act.eval s=v) (hown:w.ownsRow B e 1 v n xs)
  (ad:Addr) (c:Nat) (u:Value) (hx:act.eval x=.slice (some ad) 1 c) (hu:w.cell? ad=some u) (h1:u.oneCell'=true)
  (hlen:n+1<=9223372036854775807) (hby:(n+1) * bytes<=140737488355328) (hbase:B<=w.heap.size)
  (h:∀v' w',w'.ownsRow B e 1 v' (n+1) (xs++[u])->w.grownBy w' v.ownBlock->(v'.ownBlock=v.ownBlock\/v'.ownBlock=some w.heap.size)->wpList P ops Q rest (act.put o.dst v') w'):wpList P ops Q (o::rest) act w:=by
 obtain⟨i,hi,hz0,hz1,hz2⟩:=info_parts T.info;refine wpList_append_own_at w hgd s x t ho B e i z 1 bytes T.slice hi hz0 hz1 hz2 T.one (by decide) v n xs hs hown ad 1 c [u] hx rfl ?_ ?_ ?_ hby hbase ?_
 ·intro j y hj;cases j with
  | zero=>simp at hj;subst hj;simpa [Addr.add] using hu
  | succ j=>simp at hj
 ·intro y hy;simp at hy;subst hy;exact h1
 ·unfold maxLen;omega
 ·intro v' w' h2 h3 _ h5;exact h v' w' h2 h3 h5
theorem As {P:Program} {w:World} {ops:Array Oper} {rest:List Oper} {o:Oper} {act:Act} {Q:Exit->Act->World->Prop} {t e:TypeId} (T:ByteSlice P t e)
  (hgd:o.guard=none) (s x:Operand) (ho:o.op=.call { callee:=.builtin .append,args:=#[s,x],argTypes:=#[t,t] })
  (B:Nat) (v:Value) (l:List (BitVec 8)) (hs:act.eval s=v) (hown:C6 w B e v l)
  (a:Option Addr) (cap:Nat) (m:List (BitVec 8)) (hx:act.eval x=.slice a m.length cap) (hm:A0 w a cap m)
  (hlen:l.length+m.length<=140737488355328) (hbase:B<=w.heap.size)
  (h:∀v' w',C6 w' B e v' (l++m)->w.grownBy w' v.ownBlock->(v'.ownBlock=v.ownBlock\/v'.ownBlock=some w.heap.size)->wpList P ops Q rest (act.put o.dst v') w'):wpList P ops Q (o::rest) act w:=by
 obtain⟨i,hi,hz0,hz1,hz2⟩:=info_parts T.info;have fin:∀v' w',w'.ownsRow B e 1 v' (l.length+m.length) (l.map U8++m.map U8)->w.grownBy w' v.ownBlock->(v'.ownBlock=v.ownBlock\/v'.ownBlock=some w.heap.size)->wpList P ops Q rest (act.put o.dst v') w':=by
  intro v' w' h1 h2 h3;exact h v' w' (by unfold C6;rw[List.length_append,List.map_append];exact h1) h2 h3
 by_cases hn:a=none
 ·subst hn;have hc:=hm.null rfl;have hm0:m=[]:=List.eq_nil_of_length_eq_zero (by have:=hm.fits;omega);subst hc hm0;refine wpList_append_own_none hgd s x t ho B e i 1 T.slice hi v l.length (l.map U8) hs hown (by simpa using hx) ?_;exact fin v w (by simpa [C6] using hown) ⟨rfl,rfl,rfl,Nat.le_refl _,fun _ _ _=>rfl⟩ (.inl rfl)
 ·obtain⟨ad,rfl⟩:=Option.ne_none_iff_exists'.1 hn;refine wpList_append_own_at w hgd s x t ho B e i (.int .u8 0) 1 1 T.slice hi hz0 hz1 hz2 rfl (by decide) v l.length (l.map U8) hs hown ad m.length cap (m.map U8) hx (by simp) ?_ ?_ ?_ ?_ hbase ?_
  ·intro j u hu;rcases hm.bytes with rfl|⟨b,off,e1,hb⟩
   ·simp at hu
   ·obtain rfl:=Option.some.inj e1;rw[List.getElem?_map] at hu;obtain⟨c,hc,rfl⟩:=Option.map_eq_some_iff.1 hu;obtain⟨hj,hc'⟩:=List.getElem?_eq_some_iff.1 hc;rw[Addr.add_lit,hb j hj,Cm hj,hc']
  ·intro u hu;obtain⟨c,_,rfl⟩:=List.mem_map.1 hu;rfl
  ·unfold maxLen;omega
  ·omega
  ·intro v' w' h1 h2 _ h3;exact fin v' w' h1 h2 h3
def Kg (F:Nat->Prop) (w:World) (v:Value) (l:List (BitVec 8)):Prop:=∃a cap,v=.slice a l.length cap/\A0 w a cap l/\∀ad,a=some ad->¬F ad.block/\ad.block < w.heap.size
theorem Kg.touch {F:Nat->Prop} {w w':World} {v:Value} {l:List (BitVec 8)} (h:Kg F w v l) (t:Touch F w w'):Kg F w' v l:=by
 obtain⟨a,cap,e,r,f⟩:=h;exact⟨a,cap,e,t.reads r fun ad e=>(f ad e).1,fun ad e=>⟨(f ad e).1,Nat.lt_of_lt_of_le (f ad e).2 t.size⟩⟩
theorem Kg.less {F G:Nat->Prop} {w:World} {v:Value} {l:List (BitVec 8)} (h:Kg F w v l) (hG:∀k,G k->F k\/w.heap.size<=k):Kg G w v l:=by
 obtain⟨a,cap,e,r,f⟩:=h;exact⟨a,cap,e,r,fun ad e=>⟨fun g=>by have:=f ad e;rcases hG _ g with h1|h1;exact this.1 h1;omega,(f ad e).2⟩⟩
structure Bl (F:Nat->Prop) (w:World) (B:Nat) (E:TypeId) (v:Value) (vs:List Value) (ls:List (List (BitVec 8))):Prop where
 row:w.ownsRow B E 1 v ls.length vs
 len:vs.length=ls.length
 out:∀k,v.ownBlock=some k->¬F k
 chunk:∀i,i < ls.length->Kg F w (vs.getD i undef) (ls.getD i [])
 apart:∀i ad n c,i < ls.length->vs.getD i undef=.slice (some ad) n c->v.ownBlock≠some ad.block
theorem Lq (F:Nat->Prop) (w:World) (B:Nat) (E:TypeId):Bl F w B E (.slice none 0 0) [] [] :=
 ⟨World.ownsRow_nil w B E 1,rfl,fun k h=>by simp[Value.ownBlock] at h,fun i hi=>by simp at hi,fun i _ _ _ hi=>by simp at hi⟩
section
variable {F:Nat->Prop} {w w':World} {B:Nat} {E:TypeId} {v:Value} {vs:List Value} {ls:List (List (BitVec 8))}
theorem Bl.touch (h:Bl F w B E v vs ls) (t:Touch F w w'):Bl F w' B E v vs ls :=
 ⟨t.row h.row h.out,h.len,h.out,fun i hi=>(h.chunk i hi).touch t,h.apart⟩
theorem Bl.less {G:Nat->Prop} (h:Bl F w B E v vs ls) (hG:∀k,G k->F k\/w.heap.size<=k):Bl G w B E v vs ls :=
 ⟨h.row,h.len,fun k hk g=>by have:=Dm h.row hk;rcases hG k g with h1|h1;exact h.out k hk h1;omega,fun i hi=>(h.chunk i hi).less hG,h.apart⟩
theorem Bl.form (h:Bl F w B E v vs ls):∃a cap,v=.slice a ls.length cap/\(a=none->cap=0/\ls=[])/\ls.length<=cap/\cap<=9223372036854775807:=by
 rcases h.row.2 with⟨rfl,h0⟩|⟨g,cap,cur,rfl,_,_,hn,hc,_⟩
 ·exact⟨none,0,by rw[h0],fun _=>⟨rfl,List.eq_nil_of_length_eq_zero h0⟩,by omega,by omega⟩
 ·refine⟨_,cap,rfl,fun e=>(by cases e),hn,?_⟩;unfold maxLen at hc;omega
theorem Bl.at_ (h:Bl F w B E v vs ls) {i:Nat} (hi:i < ls.length) :
  ∃g cap a c,v=.slice (some ⟨g,0,none⟩) ls.length cap/\w.cell? ⟨g,i,none⟩=some (.slice a (ls.getD i []).length c)/\A0 w a c (ls.getD i [])/\∀ad,a=some ad->¬F ad.block/\ad.block < w.heap.size:=by
 rcases h.row.2 with⟨_,h0⟩|⟨g,cap,cur,rfl,_,hg,hn,hc,hs,ht⟩
 ·omega
 ·obtain⟨a,c,e,r,f⟩:=h.chunk i hi;refine⟨g,cap,a,c,rfl,?_,r,f⟩;have:=h.row.cells (g:=g) rfl i (vs.getD i undef) (by rw[List.getElem?_eq_getElem (by rw[h.len];exact hi),List.getD_eq_getElem?_getD,List.getElem?_eq_getElem (by rw[h.len];exact hi)];rfl);rw[Addr.add_lit,Nat.zero_add] at this;rw[this,e]
theorem Bl.snoc {x v':Value} {l:List (BitVec 8)} (h:Bl F w B E v vs ls) (hx:Kg F w x l) (hF:∀k,F k->k < w.heap.size)
  (h1:w'.ownsRow B E 1 v' (ls.length+1) (vs++[x])) (hg:w.grownBy w' v.ownBlock) (hb:v'.ownBlock=v.ownBlock\/v'.ownBlock=some w.heap.size) (hnx:∀ad n c,x=.slice (some ad) n c->v.ownBlock≠some ad.block) :
  Bl F w' B E v' (vs++[x]) (ls++[l]):=by
 have keep:∀(u:Value) (m:List (BitVec 8)),Kg F w u m->(∀ad n c,u=.slice (some ad) n c->v.ownBlock≠some ad.block)->Kg F w' u m:=by
  intro u m hc hn;obtain⟨a,cap,e,r,f⟩:=hc;refine⟨a,cap,e,?_,fun ad e=>⟨(f ad e).1,Nat.lt_of_lt_of_le (f ad e).2 hg.size⟩⟩;have t:Touch (fun k=>v.ownBlock=some k) w w':=.of_grown hg fun k hk=>hk;exact t.reads r fun ad e2=>by subst e2;exact hn ad _ _ e
 have e1:∀i,i < ls.length->(vs++[x]).getD i undef=vs.getD i undef:=fun i hlt=>by simp[List.getD_eq_getElem?_getD,List.getElem?_append_left (show i < vs.length by rw[h.len];exact hlt)]
 have e3:(vs++[x]).getD ls.length undef=x:=by rw[<- h.len];simp[List.getD_eq_getElem?_getD]
 refine⟨by rw[List.length_append,List.length_singleton];exact h1,by simp[h.len],?_,?_,?_⟩
 ·intro k hk hf;rcases hb with e|e
  ·exact h.out k (by rw[<- e];exact hk) hf
  ·rw[e] at hk;injection hk with hk;subst hk;have:=hF _ hf;omega
 ·intro i hi;rw[List.length_append,List.length_singleton] at hi;by_cases hlt:i < ls.length
  ·have e2:(ls++[l]).getD i []=ls.getD i []:=by simp[List.getD_eq_getElem?_getD,List.getElem?_append_left hlt]
   rw[e1 i hlt,e2];exact keep _ _ (h.chunk i hlt) fun ad n c e=>h.apart i ad n c hlt e
  ·have e0:i=ls.length:=by omega
   subst e0;have e2:(ls++[l]).getD ls.length []=l:=by simp[List.getD_eq_getElem?_getD]
   rw[e3,e2];exact keep _ _ hx hnx
 ·intro i ad n c hi he hv;rw[List.length_append,List.length_singleton] at hi;have hold:ad.block < w.heap.size:=by
   by_cases hlt:i < ls.length
   ·rw[e1 i hlt] at he;obtain⟨a,cap,e,_,f⟩:=h.chunk i hlt;rw[he] at e;injection e with e4;exact(f ad e4.symm).2
   ·have e0:i=ls.length:=by omega
    subst e0;rw[e3] at he;obtain⟨a,cap,e,_,f⟩:=hx;rw[he] at e;injection e with e4;exact(f ad e4.symm).2
  rcases hb with e|e
  ·rw[e] at hv;by_cases hlt:i < ls.length
   ·rw[e1 i hlt] at he;exact h.apart i ad n c hlt he hv
   ·have e0:i=ls.length:=by omega
    subst e0;rw[e3] at he;exact hnx ad n c he hv
  ·rw[e] at hv;injection hv with hv;omega
end
structure Kf (w:World) where
 to:World
 below:Below w.heap.size w to
/- At a region,written out (a macro of one's own is refused in a claim):
 refine wp_region_later (by kernel_rfl) (by kernel_rfl) ?_
 repeat (first|go_big_quiet_step (tac) | quiet_step (tac))
 refine wpQuiet_nil ?_;rintro _ ⟨x,rfl⟩
-/
section
variable {P:Program} {md:Region.Mode} {C:World->Prop}
def idle (o:Oper):Oper:={ o with op:=.move (.const undef) }
theorem Ho {ops:Array Oper} {Q Q':Act->Prop} (hQ:∀a,Q a->Q' a):∀(l:List Oper) (a:Act),wpQuiet P ops C Q l a->wpQuiet P ops C Q' l a
 | [],_,h=>hQ _ h
 | o::l,a,h=>by
  unfold wpQuiet at h ⊢;split
  ·rename_i hw;rw[if_pos hw] at h;exact Oper.quiet_mono (fun a' h'=>Ho hQ l a' h') h
  ·rename_i hw;rw[if_neg hw] at h;exact Ho hQ l _ h
def Aen (ops:Array Oper):Bool:=(List.range ops.size).all fun i=>((ops[i]?).map fun o=>o.after.all fun e=>decide (e.on < i)).getD true
def Abs (ops:Array Oper) (i:Nat):List Nat:=((ops[i]?).map fun o=>((o.after.toList.filter fun e=>Region.binds .any e).map (·.on))).getD []
def Wk (ops:Array Oper) (n:Nat):Nat->List Nat
 | 0=>Abs ops n
 | t+1=>if (Wk ops n t).contains (n - 1 - t) then Abs ops (n - 1 - t)++Wk ops n t else Wk ops n t
def Ad5 (ops:Array Oper) (n:Nat):Bool:=(List.range n).all fun j=>(Wk ops n n).contains j
def Closed (ops:Array Oper) (listed:Array Bool):Prop:=∀i o,ops[i]?=some o->listed.getD i false=true->∀e∈o.after,Region.binds .any e=true->listed.getD e.on false=true
theorem Closed.step {ops:Array Oper} {listed:Array Bool} {i:Nat} (h:Closed ops listed) (hi:i∈Region.ready .any ops listed):Closed ops (listed.setIfInBounds i true):=by
 intro j o ho hj e he hb;refine getD_set_true ?_;by_cases dx:j=i
 ·subst dx;obtain⟨_,o',ho',hall⟩:=mem_ready.1 hi;rw[ho] at ho';obtain rfl:=Option.some.inj ho';exact hall e he hb
 ·refine h j o ho ?_ e he hb;simp only[Array.getD_eq_getD_getElem?] at hj ⊢;rw[Array.getElem?_setIfInBounds_ne (Ne.symm dx)] at hj;exact hj
theorem Aa5 {ops:Array Oper} {listed:Array Bool} {n:Nat} (hc:Closed ops listed) (hn:n∈Region.ready .any ops listed):∀t,∀j∈Wk ops n t,listed.getD j false=true:=by
 intro t
 induction t with
 | zero =>
  intro j hj;obtain⟨_,o,ho,hall⟩:=mem_ready.1 hn;unfold Wk Abs at hj;rw[ho] at hj;simp only[Option.map_some,Option.getD_some,List.mem_map,List.mem_filter,Array.mem_toList_iff] at hj;obtain⟨e,⟨he,hb⟩,rfl⟩:=hj;exact hall e he hb
 | succ t ih =>
  intro j hj;unfold Wk at hj;split at hj
  ·rename_i hcon;rcases List.mem_append.1 hj with hj|hj
   ·have hi:=ih (n - 1 - t) (by simpa using hcon);unfold Abs at hj;cases ho:ops[n - 1 - t]? with
    | none=>rw[ho] at hj;simp at hj
    | some o =>
     rw[ho] at hj;simp only[Option.map_some,Option.getD_some,List.mem_map,List.mem_filter,Array.mem_toList_iff] at hj;obtain⟨e,⟨he,hb⟩,rfl⟩:=hj;exact hc _ o ho hi e he hb
   ·exact ih j hj
  ·exact ih j hj
theorem Aos {ops:Array Oper} {listed:Array Bool} {n:Nat} (hl:Ad5 ops n=true) (hc:Closed ops listed) (hn:n∈Region.ready .any ops listed):∀j,j < n->listed.getD j false=true:=by
 intro j hj;have h1:=List.all_eq_true.1 hl j (List.mem_range.2 hj);exact Aa5 hc hn n j (by simpa using h1)
theorem Oq {ops:Array Oper} (hb:Aen ops=true) (listed:Array Bool) (hs:listed.size=ops.size):∀n,n < ops.size->listed.getD n true=false->Region.ready md ops listed≠[]:=by
 intro n
 induction n using Nat.strongRecOn with
 | _ n ih =>
  intro hn hl h0;have hnot:n ∉ Region.ready md ops listed:=by rw[h0];simp
  rw[mem_ready] at hnot;obtain⟨o,ho⟩:∃o,ops[n]?=some o:=⟨ops[n],Array.getElem?_eq_getElem hn⟩;have hex:∃e∈o.after,Region.binds md e=true/\listed.getD e.on false≠true:=by
   apply Classical.byContradiction;intro hc;refine hnot ⟨hl,o,ho,fun e he hbd=>?_⟩;apply Classical.byContradiction;intro hx;exact hc ⟨e,he,hbd,hx⟩
  obtain⟨e,he,_,hx⟩:=hex;have h1:=List.all_eq_true.1 hb n (List.mem_range.2 hn);rw[ho] at h1;simp only[Option.map_some,Option.getD_some] at h1;have h2:e.on < n:=by
   have:=Array.all_eq_true_iff_forall_mem.1 h1 e he;simpa using this
  refine ih e.on h2 (by omega) ?_ h0;have h3:e.on < listed.size:=by omega
  simp only[Array.getD_eq_getD_getElem?,Array.getElem?_eq_getElem h3,Option.getD_some] at hx ⊢;simpa using hx
def Am2 (ops:Array Oper) (n:Nat):Bool:=(List.range ops.size).all fun i=>decide (i<=n)||((ops[i]?).map fun o=>o.after.any fun e=>decide (n<=e.on)&&decide (e.on < i)&&Region.binds .any e).getD false
def Agk (ops:Array Oper) (n:Nat):Bool:=(List.range n).all fun i=>((ops[i]?).map fun o=>(o.guard.map fun g=>decide (g.1 < n)).getD true).getD true
theorem Wb {ops:Array Oper} {n:Nat} (hr:Am2 ops n=true) (listed:Array Bool) (hl:∀j,n<=j->j < ops.size->listed.getD j true=false) (hs:listed.size=ops.size) {i:Nat} (hi:n < i):i ∉ Region.ready .any ops listed:=by
 intro h;rw[mem_ready] at h;obtain⟨_,o,ho,hall⟩:=h;have hlt:i < ops.size:=(Array.getElem?_eq_some_iff.1 ho).1;have h1:=List.all_eq_true.1 hr i (List.mem_range.2 hlt);rw[ho] at h1;simp only[Option.map_some,Option.getD_some,Bool.or_eq_true,decide_eq_true_eq] at h1;rcases h1 with h1|h1
 ·omega
 ·rw[<- Array.any_toList,List.any_eq_true] at h1;obtain⟨e,he,hx⟩:=h1;rw[Array.mem_toList_iff] at he;simp only[Bool.and_eq_true,decide_eq_true_eq] at hx;have h2:=hall e he hx.2;have h3:=hl e.on hx.1.1 (by omega);have h4:e.on < listed.size:=by omega
  simp[Array.getD_eq_getD_getElem?,h4] at h2 h3;rw[h2] at h3;cases h3
theorem Ab4 {ops:Array Oper} {n i:Nat} {o:Oper} (hg:Agk ops n=true) (hi:i < n) (ho:ops[i]?=some o) (tmps:Array Value) :
  Region.wanted o (yielded (ops.extract 0 n) tmps)=Region.wanted o (yielded ops tmps):=by
 have h1:=List.all_eq_true.1 hg i (List.mem_range.2 hi);rw[ho] at h1;simp only[Option.map_some,Option.getD_some] at h1;unfold Region.wanted;cases hgd:o.guard with
 | none=>rfl
 | some g =>
  rw[hgd] at h1;simp only[Option.map_some,Option.getD_some,decide_eq_true_eq] at h1;have:yielded (ops.extract 0 n) tmps g.1=yielded ops tmps g.1:=by
   unfold yielded;rw[Array.getElem?_extract];have:g.1 < min n ops.size - 0\/ops.size<=g.1:=by
    rcases Nat.lt_or_ge g.1 ops.size with h|h
    ·left;omega
    ·right;exact h
   rcases this with h|h
   ·rw[if_pos h];simp
   ·rw[Array.getElem?_eq_none h];split<;>simp_all
  simp only[this]
theorem Aex {ops:Array Oper} {n:Nat} {Q:Act->Prop} {Q':Exit->Act->World->Prop} (hn:n < ops.size) (hback:Aen ops=true) (hlast:Ad5 ops n=true) (hrest:Am2 ops n=true) (jw:Agk ops n=true)
  (hQ:∀(fuel:Nat) (listed:Array Bool) (a:Act) (w:World),ops.size - n<=fuel->C w->Q a->listed.size=ops.size->(∀j,j < n->listed.getD j true=true)->(∀j,n<=j->j < ops.size->listed.getD j true=false)->wpAny P .any ops Q' fuel listed a w) :
  ∀(f fuel:Nat) (listed:Array Bool) (a:Act) (w:World),f+(ops.size - n)<=fuel->C w->listed.size=ops.size->Closed ops listed->(∀j,n<=j->j < ops.size->listed.getD j true=false) ->
   wpAnyQ P .any (ops.extract 0 n) C Q f (listed.extract 0 n) a->wpAny P .any ops Q' fuel listed a w:=by
 have hget:∀j,j < n->(ops.extract 0 n)[j]?=ops[j]?:=fun j hj=>by
  rw[Array.getElem?_extract,if_pos (by omega)];simp
 have hgl:∀(listed:Array Bool),listed.size=ops.size->∀(j:Nat) (d:Bool),j < n->(listed.extract 0 n).getD j d=listed.getD j d:=fun listed hs j d hj=>by
  simp only[Array.getD_eq_getD_getElem?];rw[Array.getElem?_extract,if_pos (by omega)];simp
 have hhead:∀(listed:Array Bool),listed.size=ops.size->∀j,j < n->(j∈Region.ready .any (ops.extract 0 n) (listed.extract 0 n)↔j∈Region.ready .any ops listed):=by
  intro listed hs j hj;rw[mem_ready,mem_ready,hget j hj,hgl listed hs j true hj];refine and_congr_right fun _=>?_;constructor
  ·rintro⟨o,ho,h⟩;refine⟨o,ho,fun e he hb=>?_⟩;have h1:=List.all_eq_true.1 hback j (List.mem_range.2 (by omega));rw[ho] at h1;simp only[Option.map_some,Option.getD_some] at h1;have h2:e.on < j:=by have:=Array.all_eq_true_iff_forall_mem.1 h1 e he;simpa using this
   rw[<- hgl listed hs e.on false (by omega)];exact h e he hb
  ·rintro⟨o,ho,h⟩;refine⟨o,ho,fun e he hb=>?_⟩;have h1:=List.all_eq_true.1 hback j (List.mem_range.2 (by omega));rw[ho] at h1;simp only[Option.map_some,Option.getD_some] at h1;have h2:e.on < j:=by have:=Array.all_eq_true_iff_forall_mem.1 h1 e he;simpa using this
   rw[hgl listed hs e.on false (by omega)];exact h e he hb
 intro f
 induction f with
 | zero =>
  intro fuel listed a w hf hw hs hcl hop h;by_cases hall:∀j,j < n->listed.getD j true=true
  ·exact hQ fuel listed a w (by omega) hw h.2 hs hall hop
  ·exfalso;obtain⟨j,hj⟩:=Classical.not_forall.1 hall;obtain⟨lh,dc⟩:=Classical.not_imp.1 hj;have yu:Aen (ops.extract 0 n)=true:=by
    unfold Aen;rw[List.all_eq_true];intro i hi;rw[List.mem_range,Array.size_extract] at hi;rw[hget i (by omega)];exact List.all_eq_true.1 hback i (List.mem_range.2 (by omega))
   refine Oq (md:=.any) yu (listed.extract 0 n) (by simp[hs]) j (by simp;omega) ?_ h.1;rw[hgl listed hs j true lh];cases hh:listed.getD j true
   ·rfl
   ·exact(dc hh).elim
 | succ f ih =>
  intro fuel listed a w hf hw hs hcl hop h;by_cases hall:∀j,j < n->listed.getD j true=true
  ·have hnil:Region.ready .any (ops.extract 0 n) (listed.extract 0 n)=[]:=by
    rw[List.eq_nil_iff_forall_not_mem];intro j hj;have:=(mem_ready.1 hj).1;have dc:j < n:=by
     obtain⟨_,o,ho,_⟩:=mem_ready.1 hj;have:=(Array.getElem?_eq_some_iff.1 ho).1;rw[Array.size_extract] at this;omega
    rw[hgl listed hs j true dc,hall j dc] at this;cases this
   exact hQ fuel listed a w (by omega) hw (h.1 hnil) hs hall hop
  ·obtain⟨g,rfl⟩:∃g,fuel=g+1:=⟨fuel - 1,by omega⟩;refine⟨fun h0=>(Oq hback listed hs n hn (hop n (Nat.le_refl _) hn) h0).elim,fun i hi=>?_⟩;have hin:i < n:=by
    rcases Nat.lt_trichotomy i n with h' | h' | h'
    ·exact h'
    ·exfalso;subst h';apply hall;intro j hj;have h2:=Aos hlast hcl hi j hj;have h3:j < listed.size:=by omega
     simp[Array.getD_eq_getD_getElem?,h3] at h2 ⊢;exact h2
    ·exact(Wb hrest listed hop hs h' hi).elim
   have hq:=h.2 i ((hhead listed hs i hin).2 hi);have hq':qOp P ops C i (wpAnyQ P .any (ops.extract 0 n) C Q f ((listed.setIfInBounds i true).extract 0 n)) a:=by
    have he:(listed.setIfInBounds i true).extract 0 n=(listed.extract 0 n).setIfInBounds i true:=by
     apply Array.ext_getElem?;intro j;rw[Array.getElem?_extract,Array.getElem?_setIfInBounds,Array.getElem?_setIfInBounds,Array.getElem?_extract];simp only[Array.size_setIfInBounds,Array.size_extract,Nat.zero_add];by_cases hj:i=j
     ·subst hj;have h1:i < min n listed.size:=by omega
      have h2:i < listed.size:=by omega
      simp[h1,h2]
     ·simp[hj]
    rw[he];unfold qOp at hq ⊢;rw[hget i hin] at hq;cases ho:ops[i]? with
    | none=>simp only[ho] at hq ⊢;exact hq
    | some o =>
     simp only[ho] at hq ⊢;rw[Ab4 jw hin ho] at hq;exact hq
   exact wpOp_of_qOp hw (fun a' w' hw' hk=>ih g _ a' w' (by omega) hw' (by simpa using hs) (hcl.step hi) (fun j hj dc=>by rw[getD_set_ne true (by omega)];exact hop j hj dc) hk) hq'
def Sq (ops:Array Oper) (k:Nat):Array Bool:=Array.replicate k true++Array.replicate (ops.size - k) false
def Rest (P:Program) (Q':Exit->Act->World->Prop) (L:List Oper) (k:Nat) (a:Act) (w:World):Prop:=wpAny P .any L.toArray Q' (L.length - k) (Sq L.toArray k) a w
def Vs (P:Program) (Q':Exit->Act->World->Prop) (L:List Oper) (k:Nat):Exit->Act->World->Prop
 | .normal,a,w=>Rest P Q' L k a w
 | e,a,w=>Q' e a w
def Atw (L:List Oper) (k n:Nat):Bool :=
 decide (k<=n)&&decide (n < L.length)&&Aen L.toArray&&Ad5 L.toArray n&&Am2 L.toArray n&&Agk L.toArray n&&Region.noSelect (L.toArray.extract 0 n) &&
  Region.lexFrom .any (L.toArray.extract 0 n) (n - k) k ((Sq L.toArray k).extract 0 n)
def Au7 (L:List Oper) (k:Nat):Bool:=decide (k<=L.length)&&Region.noSelect L.toArray&&Region.lexFrom .any L.toArray (L.length - k) k (Sq L.toArray k)
theorem Vx {ops:Array Oper} {Q':Exit->Act->World->Prop}:∀(f:Nat) (listed:Array Bool) (a:Act) (w:World),wpAny P md ops Q' f listed a w->wpAny P md ops Q' (f+1) listed a w
 | 0,listed,a,w,h=>⟨fun _=>h.2,by rw[h.1];intro i hi;cases hi⟩
 | f+1,listed,a,w,h=>⟨h.1,fun i hi=>wpOp_mono (fun a' w' h'=>Vx f _ a' w' h') (h.2 i hi)⟩
theorem All {ops:Array Oper} {Q':Exit->Act->World->Prop} {f g:Nat} (hfg:f<=g) {listed:Array Bool} {a:Act} {w:World} (h:wpAny P md ops Q' f listed a w):wpAny P md ops Q' g listed a w:=by
 induction hfg with
 | refl=>exact h
 | step _ ih=>exact Vx _ _ _ _ ih
theorem Pf {ops:Array Oper} {Q Q':Exit->Act->World->Prop} {n:Nat} {o:Oper} {a:Act} {w:World} (ho:ops[n]?=some o) (hQ:∀e a w,e≠.normal->Q e a w->Q' e a w)
  (h:wpList P ops Q [o] a w):wpOp P ops Q' n (fun a' w'=>Q .normal a' w') a w:=by
 unfold wpList at h;unfold wpOp;simp only[ho];split
 ·rename_i hw;rw[if_pos hw] at h;rcases h with h|⟨h1,a0,w0,h2⟩
  ·left;unfold Oper.wp at h ⊢;generalize (execOp a.eval o).run P w=r at *;cases r with
   | ok x w' =>
    cases x<;>first
     | exact h
     | exact h.elim
     |(exact Calls.mono h fun e w'' he=>by cases e<;>first|exact he|exact hQ _ _ _ (by simp) he | (obtain⟨a1,w1,h1⟩:=he;exact⟨a1,w1,hQ _ _ _ (by simp) h1⟩))
     | exact Rows.mono h fun _ _ he=>he
   | halt x w'=>cases x<;>first|exact hQ _ _ _ (by simp) h|exact h.elim
  ·exact .inr ⟨h1,a0,w0,hQ _ _ _ (by simp) h2⟩
 ·rename_i hw;rw[if_neg hw] at h;exact h
theorem Db {Q':Exit->Act->World->Prop} {L:List Oper} {k:Nat} {a:Act} {w:World} (hb:Au7 L k=true)
  (h:wpQuiet P L.toArray (fun w'=>∃j,w'=w.drewN j) (fun a'=>∀j,Q' .normal a' (w.drewN j)) (L.drop k) a):Rest P Q' L k a w:=by
 unfold Au7 at hb;simp only[Bool.and_eq_true,decide_eq_true_eq] at hb;obtain⟨⟨hk,xj⟩,hB⟩:=hb;refine wpAny_of_quiet (C:=fun w'=>∃j,w'=w.drewN j) (Q:=fun a'=>∀j,Q' .normal a' (w.drewN j)) (fun a3 w3 hw3 xx=>by obtain⟨j,rfl⟩:=hw3;exact xx j) _ _ a w ⟨0,rfl⟩ ?_;have hlen:(L.drop k).length=L.length - k:=by simp
 rw[<- hlen];exact wpAnyQ_lex (P:=P) (C:=fun w'=>∃j,w'=w.drewN j) (md:=.any) xj (L.drop k) k (Sq L.toArray k) a (fun j=>by rw[List.getElem?_drop];simp) (by rw[hlen];exact hB) h
theorem Ac5 {Q':Exit->Act->World->Prop} {L:List Oper} {k:Nat} (n:Nat) {o:Oper} {a:Act} {w w1:World} (hw1:∃j,w1=w.drewN j) (hb:Atw L k n=true) (ho:L[n]?=some o)
  (h:wpQuiet P (L.take n).toArray (fun w'=>∃j,w'=w.drewN j) (fun a'=>∀j,wpList P L.toArray (Vs P Q' L (n+1)) [o] a' (w.drewN j)) ((L.take n).drop k) a):Rest P Q' L k a w1:=by
 unfold Atw at hb;simp only[Bool.and_eq_true,decide_eq_true_eq] at hb;obtain⟨⟨⟨⟨⟨⟨⟨hk,hn⟩,hback⟩,hlast⟩,hrest⟩,jw⟩,xj⟩,hB⟩:=hb;have hn':n < L.toArray.size:=by simpa using hn
 have hx:L.toArray.extract 0 n=(L.take n).toArray:=by simp
 have oz:∀j,(Sq L.toArray k)[j]?=if j < k then some true else if j < L.length then some false else none:=by
  intro j;unfold Sq;rw[Array.getElem?_append,Array.getElem?_replicate,Array.getElem?_replicate,Array.size_replicate];simp only[List.size_toArray];by_cases h1:j < k
  ·simp[h1]
  ·by_cases h2:j < L.length
   ·simp[h1,h2];omega
   ·simp[h1,h2];omega
 have hms:(Sq L.toArray k).size=L.toArray.size:=by unfold Sq;simp;omega
 unfold Rest;refine Aex (ops:=L.toArray) (n:=n) (C:=fun w'=>∃j,w'=w.drewN j) (Q:=fun a'=>∀j,wpList P L.toArray (Vs P Q' L (n+1)) [o] a' (w.drewN j))
  hn' hback hlast hrest jw ?_ (n - k) (L.length - k) _ a _ (by simp;omega) hw1 hms ?_ ?_ ?_
 ·rintro fuel listed a' w' hf ⟨j,rfl⟩ hQ hs hall hop;obtain⟨g,rfl⟩:∃g,fuel=g+1:=⟨fuel - 1,by omega⟩;refine⟨fun h0=>(Oq hback listed hs n hn' (hop n (Nat.le_refl _) hn') h0).elim,fun i hi=>?_⟩;have hin:i=n:=by
   rcases Nat.lt_trichotomy i n with h' | h' | h'
   ·have:=(mem_ready.1 hi).1;rw[hall i h'] at this;cases this
   ·exact h'
   ·exact(Wb hrest listed hop hs h' hi).elim
  subst hin;have hl:listed.setIfInBounds i true=Sq L.toArray (i+1):=by
   unfold Sq;apply Array.ext_getElem?;intro j;rw[Array.getElem?_setIfInBounds,Array.getElem?_append,Array.getElem?_replicate,Array.getElem?_replicate,Array.size_replicate];by_cases hj:i=j
   ·subst hj;simp[hs,hn]
   ·by_cases dc:j < i
    ·have h1:=hall j dc;have h3:j < listed.size:=by omega
     simp[Array.getD_eq_getD_getElem?,h3] at h1;simp[hj,show j < i+1 by omega,h3,h1]
    ·by_cases hj3:j < L.toArray.size
     ·have h1:=hop j (by omega) hj3;have h3:j < listed.size:=by omega
      simp[Array.getD_eq_getD_getElem?,h3] at h1;simp at hj3;simp[hj,show ¬j < i+1 by omega,h3,h1];omega
     ·simp at hj3;simp at hs;simp[hj,show ¬j < i+1 by omega,show listed.size<=j by omega];omega
  have hop':=Pf (Q':=Q') (by simpa using ho) (fun e a w he hx=>by cases e<;>first|exact(he rfl).elim|exact hx) (hQ j);refine wpOp_mono (fun a'' w'' h'=>?_) hop';rw[hl];exact All (by simp at hf;omega) h'
 ·intro i o ho hi e he hb;have h1:i < k:=by
   simp only[Array.getD_eq_getD_getElem?,oz] at hi;by_cases h1:i < k
   ·exact h1
   ·by_cases h2:i < L.length<;>simp[h1,h2] at hi
  have h2:=List.all_eq_true.1 hback i (List.mem_range.2 (by omega));rw[ho] at h2;simp only[Option.map_some,Option.getD_some] at h2;have h3:e.on < i:=by have:=Array.all_eq_true_iff_forall_mem.1 h2 e he;simpa using this
  simp only[Array.getD_eq_getD_getElem?,oz];simp[show e.on < k by omega]
 ·intro j hj dc;simp only[Array.getD_eq_getD_getElem?,oz];simp at dc;simp[show ¬j < k by omega,dc]
 ·have hlen:((L.take n).drop k).length=n - k:=by simp;omega
  have:=wpAnyQ_lex (P:=P) (ops:=L.toArray.extract 0 n) (C:=fun w'=>∃j,w'=w.drewN j) (md:=.any) xj ((L.take n).drop k) k ((Sq L.toArray k).extract 0 n) a
   (fun j=>by rw[List.getElem?_drop,hx];simp) (by rw[hlen];exact hB) (by rw[hx];exact h)
  rw[hlen] at this;exact this
theorem Vw {Q':Exit->Act->World->Prop} {id:Nat} {L:List Oper} {a:Act} {w:World} (hm:P.follows .mixedOrders=true) (h:Rest P Q' L 0 a w.drew):(Code.region id L.toArray true).wp P Q' a w:=by
 refine wp_region_any hm ?_;have:Sq L.toArray 0=Array.replicate L.toArray.size false:=by unfold Sq;simp
 unfold Rest at h;rw[this] at h;simpa using h
theorem Cb {Q':Exit->Act->World->Prop} {id:Nat} {L:List Oper} (n:Nat) {o:Oper} {a:Act} {w:World} (hm:P.follows .mixedOrders=true) (hb:Atw L 0 n=true) (ho:L[n]?=some o)
  (h:wpQuiet P (L.take n).toArray (fun w'=>∃j,w'=w.drewN j) (fun a'=>∀j,wpList P L.toArray (Vs P Q' L (n+1)) [o] a' (w.drewN j)) ((L.take n).drop 0) a):(Code.region id L.toArray true).wp P Q' a w :=
 Vw hm (Ac5 n ⟨1,rfl⟩ hb ho h)
theorem B9 {Q':Exit->Act->World->Prop} {L:List Oper} {k:Nat} {a:Act} {w:World} (h:Rest P Q' L k a w):Vs P Q' L k .normal a w:=h
end
section
variable {P:Program} {ops:Array Oper} {Q:Exit->Act->World->Prop}
def Lh:Op->Bool
 | .move _ | .assign _ | .load .. | .binOp .. | .unOp .. | .fieldAddr .. | .field .. | .indexAddr .. | .index .. | .slice .. | .extract .. | .pick .. | .nilCheck _ | .convert .. | .build ..=>true
 | .call { callee:=.builtin b,.. }=>match b with | .len | .cap | .min | .max=>true|_=>false
 | _=>false
theorem Ai6 {s:Sem Value} {w w':World} {n:Next} (h:(do pure (.value (<- s)):Sem Next).run P w=.ok n w'):∃v,n=.value v:=by
 rw[Sem.run_bind] at h;cases hs:s.run P w with
 | ok v w1=>rw[hs] at h;simp only[Result.andThen_ok,Sem.run_pure] at h;injection h with h1 _;exact⟨v,h1.symm⟩
 | halt x w1=>rw[hs] at h;cases h
def Ke (m:Sem Next):Prop:=∀(P:Program) (w w':World) (n:Next),m.run P w=.ok n w'->∃v,n=.value v
theorem Aby (s:Sem Value):Ke (do pure (.value (<- s)):Sem Next):=fun _ _ _ _ h=>Ai6 h
theorem Ew (v:Value):Ke (pure (.value v):Sem Next):=fun P w w' n h=>by
 rw[Sem.run_pure] at h;injection h with h1 _;exact⟨v,h1.symm⟩
theorem G6 {α:Type} (s:Sem α) (f:α->Sem Next) (h:∀x,Ke (f x)):Ke (s >>= f):=fun P w w' n hr=>by
 rw[Sem.run_bind] at hr;cases hs:s.run P w with
 | ok x w1=>rw[hs] at hr;simp only[Result.andThen_ok] at hr;exact h x P w1 w' n hr
 | halt x w1=>rw[hs] at hr;cases hr
theorem Abz (h:Halt):Ke (Sem.halt h:Sem Next):=fun P w w' n hr=>by simp[Sem.run] at hr
theorem Nh:Ke (runtimePanic .nilDeref:Sem Next):=by
 unfold runtimePanic;refine G6 _ _ fun p=>?_;exact Abz _
theorem Ty (ρ:Operand->Value) (o:Oper) (x:Operand) (h:o.op=.nilCheck x):Ke (execOp ρ o):=by
 unfold execOp;simp only[h];split
 ·exact Nh
 ·exact Nh
 ·exact Nh
 ·split
  ·exact Nh
  ·refine G6 _ _ fun p=>G6 _ _ fun q=>?_;split
   ·exact G6 _ _ fun _=>Ew _
   ·exact Ew _
  ·exact Ew _
 ·exact Ew _
theorem Aie (ρ:Operand->Value) (o:Oper) (hv:Lh o.op=true):Ke (execOp ρ o):=by
 by_cases hc:∃x,o.op=.nilCheck x
 ·obtain⟨x,hx⟩:=hc;exact Ty ρ o x hx
 have hn:∀x,o.op≠.nilCheck x:=fun x e=>hc ⟨x,e⟩;clear hc;obtain⟨dst,op,ty,pos,after,guard⟩:=o;cases op<;>simp only[Lh,Bool.false_eq_true] at hv
 case nilCheck x=>exact(hn x rfl).elim
 case call c =>
  obtain⟨callee,args,ats⟩:=c;cases callee with
  | builtin b=>cases b<;>first|exact Aby _ | (simp at hv)
  | value f=>simp at hv
  | invoke r m=>simp at hv
 case move x=>exact Ew _
 case assign x=>exact Ew _
 case pick c a b=>exact G6 _ _ fun _=>Ew _
 all_goals exact Aby _
def N8 (ops:Array Oper):List (Bool × Nat)->Array Bool->Bool
 | [],listed=>(Region.ready .any ops listed).isEmpty
 |(true,i)::l,listed=>((ops[i]?).map fun o=>Lh o.op).getD false&&Region.free .any ops listed i&&(Region.ready .any ops listed).contains i&&N8 ops l (listed.setIfInBounds i true)
 |(false,i)::l,listed=>(Region.ready .any ops listed==[i])&&N8 ops l (listed.setIfInBounds i true)
def Sa (P:Program) (ops:Array Oper) (Q:Exit->Act->World->Prop):List (Bool × Nat)->(World->Prop)->Act->World->Prop
 | [],_,a,w=>Q .normal a w
 |(true,i)::l,S,a,w=>∃o v,ops[i]?=some o/\YieldsIf P ops S o v a/\Sa P ops Q l S (a.put o.dst v) w
 |(false,i)::l,S,a,w=>wpOp P ops Q i (fun a' w'=>∃S':World->Prop,(∀x,S' x->S x)/\S' w'/\Sa P ops Q l S' a' w') a w
theorem Vy {md:Region.Mode} {S S':World->Prop} (h:∀x,S' x->S x):∀(fuel:Nat) (listed:Array Bool) (a:Act) (w:World),wpAnyH P md ops Q S' fuel listed a w->wpAnyH P md ops Q S fuel listed a w
 | 0,_,_,_,k=>k
 | f+1,_,_,_,k=>⟨k.1,fun i hi=>wpOp_mono (fun a' w' k'=>⟨h _ k'.1,Vy h f _ a' w' k'.2⟩) (k.2 i hi)⟩
theorem O2 (hs:Region.noSelect ops=true) (hQ:∀(c:List PanicEntry) (a:Act) (d:Option Tmp) (v:Value) (w:World),Q (.panic c) (a.put d v) w->Q (.panic c) a w) :
  ∀(l:List (Bool × Nat)) (fuel:Nat) (listed:Array Bool) (S:World->Prop) (a:Act) (w:World),l.length<=fuel->N8 ops l listed=true->S w->Sa P ops Q l S a w->wpAnyH P .any ops Q S fuel listed a w
 | [],fuel,listed,S,a,w,_,hB,_,h=>wpAnyH_done (by simpa [N8] using hB) h fuel
 |(true,i)::l,0,_,_,_,_,hf,_,_,_=>by simp at hf
 |(false,i)::l,0,_,_,_,_,hf,_,_,_=>by simp at hf
 |(true,i)::l,fuel+1,listed,S,a,w,hf,hB,hS,h=>by
  simp only[N8,Bool.and_eq_true] at hB;obtain⟨o,v,ho,hy,hk⟩:=h;exact wpAnyH_take ho hs hB.1.1.2 hB.1.2 (fun c a w=>hQ c a o.dst v w) hy hS (O2 hs hQ l fuel _ S _ w (by simpa using hf) hB.2 hS hk)
 |(false,i)::l,fuel+1,listed,S,a,w,hf,hB,hS,h=>by
  simp only[N8,Bool.and_eq_true,beq_iff_eq] at hB;refine wpAnyH_all hB.1 (by simp) fun j hj=>?_;simp only[List.mem_singleton] at hj;subst hj;refine wpOp_mono (fun a' w' k=>?_) h;obtain⟨S',h1,h2,h3⟩:=k;exact⟨h1 _ h2,Vy h1 fuel _ a' w' (O2 hs hQ l fuel _ S' a' w' (by simpa using hf) hB.2 h2 h3)⟩
def Mc (L:List Oper) (is:List Nat):List Oper:=is.filterMap fun i=>L[i]?
def Yk (Q:Exit->Act->World->Prop) (S:World->Prop) (K:(World->Prop)->Act->World->Prop):Exit->Act->World->Prop
 | .normal,a,w=>∃S':World->Prop,(∀x,S' x->S x)/\S' w/\K S' a w
 | e,a,w=>Q e a w
def Le (P:Program) (L:List Oper) (Q:Exit->Act->World->Prop):List (List Nat × Option Nat)->(World->Prop)->Act->World->Prop
 | [],_,a,w=>Q .normal a w
 |(is,none)::l,S,a,w=>wpQuiet P L.toArray S (fun a'=>Le P L Q l S a' w) (Mc L is) a
 |(is,some j)::l,S,a,w=>wpQuiet P L.toArray S (fun a'=>wpList P L.toArray (Yk Q S fun S' a' w'=>Le P L Q l S' a' w') (Mc L [j]) a' w) (Mc L is) a
def Eg:List (List Nat × Option Nat)->List (Bool × Nat)
 | []=>[]
 |(is,none)::l=>is.map (fun i=>(true,i))++Eg l
 |(is,some j)::l=>is.map (fun i=>(true,i))++(false,j)::Eg l
def Aq4 (n:Nat) (p:List (List Nat × Option Nat)):Bool:=(Eg p).all fun x=>decide (x.2 < n)
def As3 (L:List Oper) (p:List (List Nat × Option Nat)):Bool :=
 Region.noSelect L.toArray&&decide ((Eg p).length<=L.length)&&Aq4 L.length p&&N8 L.toArray (Eg p) (Array.replicate L.toArray.size false)
theorem Pb {S:World->Prop} {o:Oper} {a:Act} {K:Act->Prop} (hv:Lh o.op=true)
  (h:if Region.wanted o (yielded ops a.tmps) then o.quiet P a S K else K (a.put o.dst undef)):∃v,YieldsIf P ops S o v a/\K (a.put o.dst v):=by
 by_cases hw:Region.wanted o (yielded ops a.tmps)=true
 ·rw[if_pos hw] at h;obtain⟨v,h1,h2⟩:=h;refine⟨v,.inl ⟨hw,fun w hS=>?_⟩,h2⟩;have h3:=h1 w hS;unfold Oper.quietAt at h3;have h4:=Aie a.eval o hv P w;generalize (execOp a.eval o).run P w=r at h3 h4;cases r with
  | ok n w' =>
   obtain⟨u,rfl⟩:=h4 w' n rfl;simp only[Oper.quietUpon] at h3;obtain⟨e1,e2⟩:=h3;rw[e1,e2]
  | halt x w'=>simp only[Oper.quietUpon] at h3
 ·rw[if_neg hw] at h;exact⟨undef,.inr ⟨by simpa using hw,rfl⟩,h⟩
theorem Kh {L:List Oper} {S:World->Prop} {l:List (Bool × Nat)} {w:World}:∀(is:List Nat) (a:Act),(∀i∈is,i < L.length)->(∀i∈is,∀o,L[i]?=some o->Lh o.op=true) ->
  wpQuiet P L.toArray S (fun a'=>Sa P L.toArray Q l S a' w) (Mc L is) a->Sa P L.toArray Q (is.map (fun i=>(true,i))++l) S a w
 | [],a,_,_,h=>h
 | i::is,a,hl,hv,h=>by
  have hi:i < L.length:=hl i (by simp);have ho:L[i]?=some L[i]:=List.getElem?_eq_getElem hi;have e:Mc L (i::is)=L[i]::Mc L is:=by simp[Mc,ho]
  rw[e] at h;obtain⟨v,h1,h2⟩:=Pb (hv i (by simp) _ ho) (by unfold wpQuiet at h;exact h);exact⟨L[i],v,by simp,h1,Kh is _ (fun j hj=>hl j (by simp[hj])) (fun j hj=>hv j (by simp[hj])) h2⟩
theorem Sy {L:List Oper}:∀(l:List (Bool × Nat)) (listed:Array Bool),N8 L.toArray l listed=true->∀i,(true,i)∈l->∀o,L[i]?=some o->Lh o.op=true
 | [],_,_,i,hi,_,_=>by simp at hi
 |(true,j)::l,listed,hB,i,hi,o,ho=>by
  simp only[N8,Bool.and_eq_true] at hB;rcases List.mem_cons.1 hi with e|hi
  ·injection e with _ e;subst e;have:=hB.1.1.1;simpa [ho] using this
  ·exact Sy l _ hB.2 i hi o ho
 |(false,j)::l,listed,hB,i,hi,o,ho=>by
  simp only[N8,Bool.and_eq_true] at hB;rcases List.mem_cons.1 hi with e|hi
  ·injection e with e _;cases e
  ·exact Sy l _ hB.2 i hi o ho
theorem L2 {L:List Oper}:∀(p:List (List Nat × Option Nat)) (S:World->Prop) (a:Act) (w:World),(∀x∈Eg p,x.2 < L.length)->(∀i,(true,i)∈Eg p->∀o,L[i]?=some o->Lh o.op=true) ->
  Le P L Q p S a w->Sa P L.toArray Q (Eg p) S a w
 | [],_,_,_,_,_,h=>h
 |(is,none)::l,S,a,w,hl,hv,h=>by
  refine Kh is a (fun i hi=>hl (true,i) (by simp[Eg,hi])) (fun i hi=>hv i (by simp[Eg,hi])) (Ho (fun a' h'=>?_) _ _ h);exact L2 l S a' w (fun x hx=>hl x (by simp[Eg,hx])) (fun i hi=>hv i (by simp[Eg,hi])) h'
 |(is,some j)::l,S,a,w,hl,hv,h=>by
  refine Kh is a (fun i hi=>hl (true,i) (by simp[Eg,hi])) (fun i hi=>hv i (by simp[Eg,hi])) (Ho (fun a' h'=>?_) _ _ h);have hj:j < L.length:=hl (false,j) (by simp[Eg]);have ho:L[j]?=some L[j]:=List.getElem?_eq_getElem hj;have e:Mc L [j]=[L[j]]:=by simp[Mc,ho]
  rw[e] at h';have hop:=Pf (Q':=Q) (n:=j) (by simp) (fun e a w he hx=>by cases e<;>first|exact(he rfl).elim|exact hx) h';refine wpOp_mono (fun a2 w2 k=>?_) hop;obtain⟨S',h1,h2,h3⟩:=k;exact⟨S',h1,h2,L2 l S' a2 w2 (fun x hx=>hl x (by simp[Eg,hx])) (fun i hi=>hv i (by simp[Eg,hi])) h3⟩
theorem B7 {id:Nat} {L:List Oper} {a:Act} {w:World} (p:List (List Nat × Option Nat)) (S:World->Prop) (hm:P.follows .mixedOrders=true) (hB:As3 L p=true)
  (hQ:∀(c:List PanicEntry) (a:Act) (d:Option Tmp) (v:Value) (w:World),Q (.panic c) (a.put d v) w->Q (.panic c) a w) (hS:S w.drew) (h:Le P L Q p S a w.drew):(Code.region id L.toArray true).wp P Q a w:=by
 simp only[As3,Bool.and_eq_true,decide_eq_true_eq] at hB;obtain⟨⟨⟨b1,b2⟩,b3⟩,b4⟩:=hB;refine wp_region_held (S:=S) hm ?_;have hpl:∀x∈Eg p,x.2 < L.length:=fun x hx=>by
  have:=List.all_eq_true.1 b3 x hx;simpa using this
 exact O2 b1 hQ (Eg p) _ _ S a _ (by simpa using b2) b4 hS (L2 p S a _ hpl (Sy _ _ b4) h)
theorem Bb {L:List Oper} {is:List Nat} {j:Nat} {l:List (List Nat × Option Nat)} {S:World->Prop} {a:Act} {w:World}
  (h:wpQuiet P L.toArray S (fun a'=>wpList P L.toArray (Yk Q S fun S' a' w'=>Le P L Q l S' a' w') (Mc L [j]) a' w) (Mc L is) a):Le P L Q ((is,some j)::l) S a w:=h
theorem Dy {L:List Oper} {is:List Nat} {l:List (List Nat × Option Nat)} {S:World->Prop} {a:Act} {w:World}
  (h:wpQuiet P L.toArray S (fun a'=>Le P L Q l S a' w) (Mc L is) a):Le P L Q ((is,none)::l) S a w:=h
theorem Ez {L:List Oper} {S:World->Prop} {a:Act} {w:World} (h:Q .normal a w):Le P L Q [] S a w:=h
theorem Ap {S S':World->Prop} {K:(World->Prop)->Act->World->Prop} {a:Act} {w:World} (h1:∀x,S' x->S x) (h2:S' w) (h3:K S' a w):Yk Q S K .normal a w:=⟨S',h1,h2,h3⟩
end
instance later_ne (w:World):Nonempty (Kf w):=⟨⟨w,RowKit.Below.refl _ _⟩⟩
theorem Agh (w:World):∃x:Kf w,w.drew=x.to:=⟨⟨w.drew,(RowKit.Below.refl _ _).drew⟩,rfl⟩
theorem W6 {w w':World} (h:RowKit.Below w.heap.size w w'):∃x:Kf w,w'=x.to:=⟨⟨w',h⟩,rfl⟩
structure Of (S:World->Prop) where
 to:World
 ok:S to
theorem Wi {S:World->Prop} {w:World} (h:S w):∃x:Of S,w=x.to:=⟨⟨w,h⟩,rfl⟩
theorem As4 {S:World->Prop} {w:World} (h:S w):Nonempty (Of S):=⟨⟨w,h⟩⟩
section
variable {P:Program} {ops:Array Oper} {rest:List Oper} {o:Oper} {a:Act} {w:World} {Q:Exit->Act->World->Prop}
end
theorem Ah5 (t:TypeId) {P:Program} {ops:Array Oper} {Q:Exit->Act->World->Prop} {rest:List Oper} {d:Option Tmp} {x:Operand} {ty:TypeId} {pos:String} {after:Array Edge} {g:Option (Nat × Bool)} {a:Act} {w:World}
  (h:wpList P ops Q ({ dst:=d,op:=.load t x,type:=ty,pos,after,guard:=g }::rest) a w):wpList P ops Q ({ dst:=d,op:=.load t x,type:=ty,pos,after,guard:=g }::rest) a w:=h
theorem Aeo (t:TypeId) {P:Program} {ops:Array Oper} {Q:Exit->Act->World->Prop} {rest:List Oper} {d:Option Tmp} {x y:Operand} {ty:TypeId} {pos:String} {after:Array Edge} {g:Option (Nat × Bool)} {a:Act} {w:World}
  (h:wpList P ops Q ({ dst:=d,op:=.store t x y,type:=ty,pos,after,guard:=g }::rest) a w):wpList P ops Q ({ dst:=d,op:=.store t x y,type:=ty,pos,after,guard:=g }::rest) a w:=h
theorem Ac7 {w:World} {g:Nat} {cs:Array Value} {t:TypeId} {fr:Nat × Nat} (h:w.heap[g]?=some (.cells cs t fr)):w.rangeAt g 0 cs.toList:=fun j v hv=>by
 rw[cell_of_row w g (0+j) cs t fr h,Nat.zero_add];simpa using hv
theorem Touch.setRow {F:Nat->Prop} (w:World) (g:Nat) (c:Array Value) (hg:F g):Touch F w (w.setRow g c) :=
 ⟨rfl,rfl,rfl,by simp[World.setRow],fun k _ hk=>by
  unfold World.setRow;simp only;rw[Array.getElem?_modify,if_neg];intro e;subst e;exact hk hg⟩
theorem Hq {P:Program} {C:World->Prop} {o:Oper} {a:Act} {K:Act->Prop} {ty:TypeId} {x:Operand} {b f:Nat} {cs:List Value} {d:TypeDesc}
  (hc:∀w',C w'->w'.rangeAt b f cs) (hu:P.underlying ty=some d) (hd:d.isRow=true) (hi:(P.info? ty).map (·.size)=some cs.length)
  (ho:o.op=.load ty x) (hx:a.eval x=.pointer (some ⟨b,f,none⟩)) (hk:K (a.put o.dst (.agg cs.toArray))):o.quiet P a C K:=by
 refine⟨.agg cs.toArray,?_,hk⟩;intro w' hw';unfold Oper.quietAt execOp;simp only[ho,hx,Instr.loadAt,Instr.sureAddr,Sem.run_bind,Sem.run_pure,Result.andThen_ok,run_loadVar_mid w' b f ty cs d (hc w' hw') hu hd hi];exact⟨rfl,rfl⟩
theorem Api (t:TypeId) {P:Program} {ops:Array Oper} {Q:Exit->Act->World->Prop} {rest:List Oper} {d:Option Tmp} {parts:Array (Nat × Operand)} {ty:TypeId} {pos:String} {after:Array Edge} {g:Option (Nat × Bool)} {a:Act} {w:World}
  (h:wpList P ops Q ({ dst:=d,op:=.build t parts,type:=ty,pos,after,guard:=g }::rest) a w):wpList P ops Q ({ dst:=d,op:=.build t parts,type:=ty,pos,after,guard:=g }::rest) a w:=h
theorem Yo {P:Program} {ops:Array Oper} {rest:List Oper} {o:Oper} {a:Act} {w:World} {Q:Exit->Act->World->Prop} (hg:o.guard=none) (t:TypeId) (parts:Array (Nat × Operand)) (ho:o.op=.build t parts)
  (cells:Array Value) (hf:P.built t (parts.map fun(i,x)=>(i,a.eval x)).toList=some cells)
  (h:wpList P ops Q rest (a.put o.dst (.agg cells)) w):wpList P ops Q (o::rest) a w:=by
 refine wpList_build hg t parts ho (by rw[hf];rfl) ?_;rw[hf];exact h
end Go.Proofs.YtbicafgmfgdckaaGreatDoor
