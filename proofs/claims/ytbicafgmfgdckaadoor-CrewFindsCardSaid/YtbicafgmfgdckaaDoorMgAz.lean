/- The sum's plain mathematics: words, rounds, blocks, padding. No program in sight. A region that draws its order, all of whose operations but the last only read, and whose last one comes behind all others: walked once. For any program. Slices of slices of bytes; slices of numbers: for any program. The small helpers of the document's first reference: what each gives. Turns of 32 bits: the program's and the reference's. -/
import Derived.Test.YtbicafgmfgdckaaDoorMgAy
import Derived.Deep.QuietTactic
import Derived.BigQuiet
import Derived.Deep.Draws
import Derived.Test.YtbicafgmfgdckaaDoorProg
import Derived.Lib.Hide
namespace Go.Proofs.YtbicafgmfgdckaaDoor.Sha

abbrev B8:=BitVec 8
abbrev B32:=BitVec 32
def rotr (x:B32) (n:Nat):B32:=x >>> n ||| x <<< (32 - n)
def K:List B32:=[
 0x428a2f98#32,0x71374491#32,0xb5c0fbcf#32,0xe9b5dba5#32,0x3956c25b#32,0x59f111f1#32,0x923f82a4#32,0xab1c5ed5#32,
 0xd807aa98#32,0x12835b01#32,0x243185be#32,0x550c7dc3#32,0x72be5d74#32,0x80deb1fe#32,0x9bdc06a7#32,0xc19bf174#32,
 0xe49b69c1#32,0xefbe4786#32,0x0fc19dc6#32,0x240ca1cc#32,0x2de92c6f#32,0x4a7484aa#32,0x5cb0a9dc#32,0x76f988da#32,
 0x983e5152#32,0xa831c66d#32,0xb00327c8#32,0xbf597fc7#32,0xc6e00bf3#32,0xd5a79147#32,0x06ca6351#32,0x14292967#32,
 0x27b70a85#32,0x2e1b2138#32,0x4d2c6dfc#32,0x53380d13#32,0x650a7354#32,0x766a0abb#32,0x81c2c92e#32,0x92722c85#32,
 0xa2bfe8a1#32,0xa81a664b#32,0xc24b8b70#32,0xc76c51a3#32,0xd192e819#32,0xd6990624#32,0xf40e3585#32,0x106aa070#32,
 0x19a4c116#32,0x1e376c08#32,0x2748774c#32,0x34b0bcb5#32,0x391c0cb3#32,0x4ed8aa4a#32,0x5b9cca4f#32,0x682e6ff3#32,
 0x748f82ee#32,0x78a5636f#32,0x84c87814#32,0x8cc70208#32,0x90befffa#32,0xa4506ceb#32,0xbef9a3f7#32,0xc67178f2#32]
@[ext] structure St where
 a:B32
 b:B32
 c:B32
 d:B32
 e:B32
 f:B32
 g:B32
 h:B32
def begin:St:=⟨0x6a09e667#32,0xbb67ae85#32,0x3c6ef372#32,0xa54ff53a#32,0x510e527f#32,0x9b05688c#32,0x1f83d9ab#32,0x5be0cd19#32⟩
def St.list (s:St):List B32:=[s.a,s.b,s.c,s.d,s.e,s.f,s.g,s.h]
def St.at_ (s:St) (i:Nat):B32:=s.list.getD i 0#32
def small0 (x:B32):B32:=rotr x 7 ^^^ rotr x 18 ^^^ x >>> 3
def small1 (x:B32):B32:=rotr x 17 ^^^ rotr x 19 ^^^ x >>> 10
def big0 (x:B32):B32:=rotr x 2 ^^^ rotr x 13 ^^^ rotr x 22
def big1 (x:B32):B32:=rotr x 6 ^^^ rotr x 11 ^^^ rotr x 25
def ch (e f g:B32):B32:=(e &&& f) ^^^ (~~~e &&& g)
def maj (a b c:B32):B32:=(a &&& b) ^^^ (a &&& c) ^^^ (b &&& c)
def next (l:List B32) (k:Nat):B32:=l.getD k 0#32+small0 (l.getD (k+1) 0#32)+l.getD (k+9) 0#32+small1 (l.getD (k+14) 0#32)
def grow (b:List B32):Nat->List B32
 | 0=>b
 | k+1=>grow b k++[next (grow b k) k]
def be4 (a b c d:B8):B32:=(((a.setWidth 32 <<< 8 ||| b.setWidth 32) <<< 8 ||| c.setWidth 32) <<< 8) ||| d.setWidth 32
def word (l:List B8) (i:Nat):B32:=be4 (byteAt l (4 * i)) (byteAt l (4 * i+1)) (byteAt l (4 * i+2)) (byteAt l (4 * i+3))
def first (l:List B8):List B32:=(List.range 16).map (word l)
def sched (l:List B8):List B32:=grow (first l) 48
def step (v:St) (k w:B32):St :=
 let t:=v.h+big1 v.e+ch v.e v.f v.g+k+w
 ⟨t+(big0 v.a+maj v.a v.b v.c),v.a,v.b,v.c,v.d+t,v.e,v.f,v.g⟩
def rounds (v:St) (w:List B32):Nat->St
 | 0=>v
 | n+1=>step (rounds v w n) (K.getD n 0#32) (w.getD n 0#32)
def St.plus (s v:St):St:=⟨s.a+v.a,s.b+v.b,s.c+v.c,s.d+v.d,s.e+v.e,s.f+v.f,s.g+v.g,s.h+v.h⟩
def take (s:St) (l:List B8):St:=s.plus (rounds s (sched l) 64)
def blocks:Nat->St->List B8->St
 | 0,s,_=>s
 | n+1,s,l=>blocks n (take s (l.take 64)) (l.drop 64)
def be8 (n:Nat):List B8:=[BitVec.ofNat 8 (n / 2 ^ 56),BitVec.ofNat 8 (n / 2 ^ 48),BitVec.ofNat 8 (n / 2 ^ 40),BitVec.ofNat 8 (n / 2 ^ 32),BitVec.ofNat 8 (n / 2 ^ 24),BitVec.ofNat 8 (n / 2 ^ 16),BitVec.ofNat 8 (n / 2 ^ 8),BitVec.ofNat 8 n]
def noughts (n:Nat):Nat:=(119 - n % 64) % 64
def tail (rest:List B8) (n:Nat):List B8:=rest++[0x80#8]++List.replicate (noughts rest.length) 0#8++be8 (8 * n)
def pad (l:List B8):List B8:=tail l l.length
def bytes4 (x:B32):List B8:=[(x >>> 24).setWidth 8,(x >>> 16).setWidth 8,(x >>> 8).setWidth 8,x.setWidth 8]
def St.bytes (s:St):List B8:=s.list.flatMap bytes4
def sum (l:List B8):List B8:=(blocks ((pad l).length / 64) begin (pad l)).bytes

def held (l:List B8):St:=blocks (l.length / 64) begin l
def left (l:List B8):List B8:=l.drop (64 * (l.length / 64))

theorem length_grow (b:List B32):∀k,(grow b k).length=b.length+k
 | 0=>rfl
 | k+1=>by rw[grow,List.length_append,length_grow b k,List.length_singleton];omega
theorem length_first (l:List B8):(first l).length=16:=by simp[first]
theorem length_sched (l:List B8):(sched l).length=64:=by rw[sched,length_grow,length_first]
theorem grow_get (b:List B32) (i:Nat):∀k,i < b.length->(grow b k).getD i 0#32=b.getD i 0#32
 | 0,_=>rfl
 | k+1,h=>by
  have:=length_grow b k
  rw[grow,List.getD_eq_getElem?_getD,List.getElem?_append_left (by omega),<- List.getD_eq_getElem?_getD,grow_get b i k h]
theorem grow_stable (b:List B32) (i k:Nat) (h:i < b.length+k):∀m,(grow b (k+m)).getD i 0#32=(grow b k).getD i 0#32
 | 0=>rfl
 | m+1=>by
  have:=length_grow b (k+m)
  rw[<- Nat.add_assoc,grow,List.getD_eq_getElem?_getD,List.getElem?_append_left (by omega),<- List.getD_eq_getElem?_getD,grow_stable b i k h m]
theorem grow_next (b:List B32) (k:Nat):(grow b (k+1)).getD (b.length+k) 0#32=next (grow b k) k:=by
 have:=length_grow b k
 rw[grow,List.getD_eq_getElem?_getD,List.getElem?_append_right (by omega),this,Nat.sub_self];rfl
theorem sched_low (l:List B8) (i:Nat) (h:i < 16):(sched l).getD i 0#32=word l i:=by
 rw[sched,grow_get _ _ _ (by rw[length_first];exact h),List.getD_eq_getElem?_getD]
 simp[first,h]
theorem sched_get (l:List B8) (i k:Nat) (hk:k<=48) (h:i < 16+k):(sched l).getD i 0#32=(grow (first l) k).getD i 0#32:=by
 have:=grow_stable (first l) i k (by rw[length_first];exact h) (48 - k)
 rw[show k+(48 - k)=48 by omega] at this
 exact this
theorem sched_high (l:List B8) (i:Nat) (h1:16<=i) (h2:i < 64) :
  (sched l).getD i 0#32=(sched l).getD (i - 16) 0#32+small0 ((sched l).getD (i - 15) 0#32)+(sched l).getD (i - 7) 0#32+small1 ((sched l).getD (i - 2) 0#32):=by
 obtain⟨k,rfl⟩:∃k,i=16+k:=⟨i - 16,by omega⟩
 have e:=grow_next (first l) k
 rw[length_first] at e
 rw[sched_get l (16+k) (k+1) (by omega) (by omega),e,next]
 rw[sched_get l (16+k - 16) k (by omega) (by omega),sched_get l (16+k - 15) k (by omega) (by omega),sched_get l (16+k - 7) k (by omega) (by omega),sched_get l (16+k - 2) k (by omega) (by omega)]
 rw[show 16+k - 16=k by omega,show 16+k - 15=k+1 by omega,show 16+k - 7=k+9 by omega,show 16+k - 2=k+14 by omega]
theorem blocks_append:∀(m n:Nat) (s:St) (l r:List B8),l.length=64 * m->blocks (m+n) s (l++r)=blocks n (blocks m s l) r
 | 0,n,s,l,r,h=>by
  obtain rfl:l=[]:=List.eq_nil_of_length_eq_zero (by omega)
  rw[Nat.zero_add];rfl
 | m+1,n,s,l,r,h=>by
  rw[show m+1+n=(m+n)+1 by omega,blocks,blocks,List.take_append_of_le_length (by omega),List.drop_append_of_le_length (by omega)]
  exact blocks_append m n _ _ r (by rw[List.length_drop];omega)
theorem blocks_take:∀(m:Nat) (s:St) (l:List B8),64 * m<=l.length->blocks m s l=blocks m s (l.take (64 * m))
 | 0,s,l,h=>rfl
 | m+1,s,l,h=>by
  rw[blocks,blocks,List.take_take,Nat.min_eq_left (by omega),blocks_take m _ _ (by rw[List.length_drop];omega),List.drop_take]
  congr 3<;>omega
theorem held_left (l:List B8):∃h:List B8,h.length=64 * (l.length / 64)/\l=h++left l/\held l=blocks (l.length / 64) begin h:=by
 refine⟨l.take (64 * (l.length / 64)),?_,?_,?_⟩
 ·rw[List.length_take];omega
 ·rw[left,List.take_append_drop]
 ·rw[held];exact blocks_take _ _ _ (by omega)
theorem left_length (l:List B8):(left l).length=l.length % 64:=by rw[left,List.length_drop];omega
theorem held_append (l r:List B8):held (l++r)=blocks (((left l).length+r.length) / 64) (held l) (left l++r):=by
 obtain⟨h,h1,h2,h3⟩:=held_left l
 have hl:=left_length l
 rw[held,h3]
 have e:l++r=h++(left l++r):=by rw[<- List.append_assoc,<- h2]
 rw[e,show (h++(left l++r)).length / 64=l.length / 64+((left l).length+r.length) / 64 by rw[List.length_append,List.length_append,h1];omega]
 exact blocks_append _ _ _ _ _ h1
theorem left_append (l r:List B8):left (l++r)=(left l++r).drop (64 * (((left l).length+r.length) / 64)):=by
 obtain⟨h,h1,h2,_⟩:=held_left l
 have hl:=left_length l
 have e:l++r=h++(left l++r):=by rw[<- List.append_assoc,<- h2]
 rw[left,e,show (h++(left l++r)).length / 64=l.length / 64+((left l).length+r.length) / 64 by rw[List.length_append,List.length_append,h1];omega]
 rw[show 64 * (l.length / 64+((left l).length+r.length) / 64)=h.length+64 * (((left l).length+r.length) / 64) by omega,List.drop_append,List.drop_eq_nil_of_le (by omega),Nat.add_sub_cancel_left,List.nil_append]
theorem sum_held (l:List B8):sum l=(blocks ((tail (left l) l.length).length / 64) (held l) (tail (left l) l.length)).bytes:=by
 obtain⟨h,h1,h2,h3⟩:=held_left l
 have hl:=left_length l
 have hn:noughts l.length=noughts (left l).length:=by rw[hl,noughts,noughts,Nat.mod_mod]
 have e:pad l=h++tail (left l) l.length:=by
  rw[pad,tail,tail,hn]
  conv=>lhs;rw[show l++[0x80#8]=h++(left l++[0x80#8]) by rw[<- List.append_assoc,<- h2]]
  simp only[List.append_assoc]
 rw[sum,e,h3,show (h++tail (left l) l.length).length / 64=l.length / 64+(tail (left l) l.length).length / 64 by rw[List.length_append,h1];omega,blocks_append _ _ _ _ _ h1]
theorem ch_or (e f g:B32):((e &&& f) ||| ((e ^^^ 0xffffffff#32) &&& g))=ch e f g:=by
 have h1:e ^^^ 0xffffffff#32 = ~~~e:=by rw[show (0xffffffff#32)=BitVec.allOnes 32 from rfl,BitVec.xor_allOnes]
 rw[h1,ch]
 apply BitVec.eq_of_getLsbD_eq
 intro i hi
 simp only[BitVec.getLsbD_or,BitVec.getLsbD_and,BitVec.getLsbD_xor,BitVec.getLsbD_not,hi,decide_true,Bool.true_and]
 cases e.getLsbD i<;>cases f.getLsbD i<;>cases g.getLsbD i<;>rfl
theorem maj_or (a b c:B32):((a &&& b) ||| (a &&& c) ||| (b &&& c))=maj a b c:=by
 rw[maj]
 apply BitVec.eq_of_getLsbD_eq
 intro i hi
 simp only[BitVec.getLsbD_or,BitVec.getLsbD_and,BitVec.getLsbD_xor]
 cases a.getLsbD i<;>cases b.getLsbD i<;>cases c.getLsbD i<;>rfl
end Go.Proofs.YtbicafgmfgdckaaDoor.Sha
namespace Go.Proofs.YtbicafgmfgdckaaDoor
open Go

section
variable {P:Program} {md:Region.Mode} {C:World->Prop}

def idle (o:Oper):Oper:={ o with op:=.move (.const undef) }

theorem wpQuiet_mono {ops:Array Oper} {Q Q':Act->Prop} (hQ:∀a,Q a->Q' a):∀(l:List Oper) (a:Act),wpQuiet P ops C Q l a->wpQuiet P ops C Q' l a
 | [],_,h=>hQ _ h
 | o::l,a,h=>by
  unfold wpQuiet at h ⊢
  split
  ·rename_i hw;rw[if_pos hw] at h
   exact Oper.quiet_mono (fun a' h'=>wpQuiet_mono hQ l a' h') h
  ·rename_i hw;rw[if_neg hw] at h
   exact wpQuiet_mono hQ l _ h
def backB (ops:Array Oper):Bool:=(List.range ops.size).all fun i=>((ops[i]?).map fun o=>o.after.all fun e=>decide (e.on < i)).getD true
def afters (ops:Array Oper) (i:Nat):List Nat:=((ops[i]?).map fun o=>((o.after.toList.filter fun e=>Region.binds .any e).map (·.on))).getD []
def marks (ops:Array Oper) (n:Nat):Nat->List Nat
 | 0=>afters ops n
 | t+1=>if (marks ops n t).contains (n - 1 - t) then afters ops (n - 1 - t)++marks ops n t else marks ops n t
def lastB (ops:Array Oper) (n:Nat):Bool:=(List.range n).all fun j=>(marks ops n n).contains j
def Closed (ops:Array Oper) (listed:Array Bool):Prop:=∀i o,ops[i]?=some o->listed.getD i false=true->∀e∈o.after,Region.binds .any e=true->listed.getD e.on false=true
theorem Closed.step {ops:Array Oper} {listed:Array Bool} {i:Nat} (h:Closed ops listed) (hi:i∈Region.ready .any ops listed):Closed ops (listed.setIfInBounds i true):=by
 intro j o ho hj e he hb
 refine getD_set_true ?_
 by_cases hji:j=i
 ·subst hji
  obtain⟨_,o',ho',hall⟩:=mem_ready.1 hi
  rw[ho] at ho'
  obtain rfl:=Option.some.inj ho'
  exact hall e he hb
 ·refine h j o ho ?_ e he hb
  simp only[Array.getD_eq_getD_getElem?] at hj ⊢
  rw[Array.getElem?_setIfInBounds_ne (Ne.symm hji)] at hj
  exact hj
theorem marks_listed {ops:Array Oper} {listed:Array Bool} {n:Nat} (hc:Closed ops listed) (hn:n∈Region.ready .any ops listed):∀t,∀j∈marks ops n t,listed.getD j false=true:=by
 intro t
 induction t with
 | zero =>
  intro j hj
  obtain⟨_,o,ho,hall⟩:=mem_ready.1 hn
  unfold marks afters at hj
  rw[ho] at hj
  simp only[Option.map_some,Option.getD_some,List.mem_map,List.mem_filter,Array.mem_toList_iff] at hj
  obtain⟨e,⟨he,hb⟩,rfl⟩:=hj
  exact hall e he hb
 | succ t ih =>
  intro j hj
  unfold marks at hj
  split at hj
  ·rename_i hcon
   rcases List.mem_append.1 hj with hj|hj
   ·have hi:=ih (n - 1 - t) (by simpa using hcon)
    unfold afters at hj
    cases ho:ops[n - 1 - t]? with
    | none=>rw[ho] at hj;simp at hj
    | some o =>
     rw[ho] at hj
     simp only[Option.map_some,Option.getD_some,List.mem_map,List.mem_filter,Array.mem_toList_iff] at hj
     obtain⟨e,⟨he,hb⟩,rfl⟩:=hj
     exact hc _ o ho hi e he hb
   ·exact ih j hj
  ·exact ih j hj
theorem last_all {ops:Array Oper} {listed:Array Bool} {n:Nat} (hl:lastB ops n=true) (hc:Closed ops listed) (hn:n∈Region.ready .any ops listed):∀j,j < n->listed.getD j false=true:=by
 intro j hj
 have h1:=List.all_eq_true.1 hl j (List.mem_range.2 hj)
 exact marks_listed hc hn n j (by simpa using h1)

theorem ready_open {ops:Array Oper} (hb:backB ops=true) (listed:Array Bool) (hs:listed.size=ops.size):∀n,n < ops.size->listed.getD n true=false->Region.ready md ops listed≠[]:=by
 intro n
 induction n using Nat.strongRecOn with
 | _ n ih =>
  intro hn hl h0
  have hnot:n ∉ Region.ready md ops listed:=by rw[h0];simp
  rw[mem_ready] at hnot
  obtain⟨o,ho⟩:∃o,ops[n]?=some o:=⟨ops[n],Array.getElem?_eq_getElem hn⟩
  have hex:∃e∈o.after,Region.binds md e=true/\listed.getD e.on false≠true:=by
   apply Classical.byContradiction
   intro hc
   refine hnot ⟨hl,o,ho,fun e he hbd=>?_⟩
   apply Classical.byContradiction
   intro hx
   exact hc ⟨e,he,hbd,hx⟩
  obtain⟨e,he,_,hx⟩:=hex
  have h1:=List.all_eq_true.1 hb n (List.mem_range.2 hn)
  rw[ho] at h1
  simp only[Option.map_some,Option.getD_some] at h1
  have h2:e.on < n:=by
   have:=Array.all_eq_true_iff_forall_mem.1 h1 e he
   simpa using this
  refine ih e.on h2 (by omega) ?_ h0
  have h3:e.on < listed.size:=by omega
  simp only[Array.getD_eq_getD_getElem?,Array.getElem?_eq_getElem h3,Option.getD_some] at hx ⊢
  simpa using hx


def restB (ops:Array Oper) (n:Nat):Bool:=(List.range ops.size).all fun i=>decide (i<=n)||((ops[i]?).map fun o=>o.after.any fun e=>decide (n<=e.on)&&decide (e.on < i)&&Region.binds .any e).getD false
def guardB (ops:Array Oper) (n:Nat):Bool:=(List.range n).all fun i=>((ops[i]?).map fun o=>(o.guard.map fun g=>decide (g.1 < n)).getD true).getD true

theorem rest_waits {ops:Array Oper} {n:Nat} (hr:restB ops n=true) (listed:Array Bool) (hl:∀j,n<=j->j < ops.size->listed.getD j true=false) (hs:listed.size=ops.size) {i:Nat} (hi:n < i):i ∉ Region.ready .any ops listed:=by
 intro h
 rw[mem_ready] at h
 obtain⟨_,o,ho,hall⟩:=h
 have hlt:i < ops.size:=(Array.getElem?_eq_some_iff.1 ho).1
 have h1:=List.all_eq_true.1 hr i (List.mem_range.2 hlt)
 rw[ho] at h1
 simp only[Option.map_some,Option.getD_some,Bool.or_eq_true,decide_eq_true_eq] at h1
 rcases h1 with h1|h1
 ·omega
 ·rw[<- Array.any_toList,List.any_eq_true] at h1
  obtain⟨e,he,hx⟩:=h1
  rw[Array.mem_toList_iff] at he
  simp only[Bool.and_eq_true,decide_eq_true_eq] at hx
  have h2:=hall e he hx.2
  have h3:=hl e.on hx.1.1 (by omega)
  have h4:e.on < listed.size:=by omega
  simp[Array.getD_eq_getD_getElem?,h4] at h2 h3
  rw[h2] at h3;cases h3

theorem wanted_head {ops:Array Oper} {n i:Nat} {o:Oper} (hg:guardB ops n=true) (hi:i < n) (ho:ops[i]?=some o) (tmps:Array Value) :
  Region.wanted o (yielded (ops.extract 0 n) tmps)=Region.wanted o (yielded ops tmps):=by
 have h1:=List.all_eq_true.1 hg i (List.mem_range.2 hi)
 rw[ho] at h1
 simp only[Option.map_some,Option.getD_some] at h1
 unfold Region.wanted
 cases hgd:o.guard with
 | none=>rfl
 | some g =>
  rw[hgd] at h1
  simp only[Option.map_some,Option.getD_some,decide_eq_true_eq] at h1
  have:yielded (ops.extract 0 n) tmps g.1=yielded ops tmps g.1:=by
   unfold yielded
   rw[Array.getElem?_extract]
   have:g.1 < min n ops.size - 0\/ops.size<=g.1:=by
    rcases Nat.lt_or_ge g.1 ops.size with h|h
    ·left;omega
    ·right;exact h
   rcases this with h|h
   ·rw[if_pos h];simp
   ·rw[Array.getElem?_eq_none h]
    split<;>simp_all
  simp only[this]

theorem wpAny_head {ops:Array Oper} {n:Nat} {Q:Act->Prop} {Q':Exit->Act->World->Prop} (hn:n < ops.size) (hback:backB ops=true) (hlast:lastB ops n=true) (hrest:restB ops n=true) (hguard:guardB ops n=true)
  (hQ:∀(fuel:Nat) (listed:Array Bool) (a:Act) (w:World),ops.size - n<=fuel->C w->Q a->listed.size=ops.size->(∀j,j < n->listed.getD j true=true)->(∀j,n<=j->j < ops.size->listed.getD j true=false)->wpAny P .any ops Q' fuel listed a w) :
  ∀(f fuel:Nat) (listed:Array Bool) (a:Act) (w:World),f+(ops.size - n)<=fuel->C w->listed.size=ops.size->Closed ops listed->(∀j,n<=j->j < ops.size->listed.getD j true=false) ->
   wpAnyQ P .any (ops.extract 0 n) C Q f (listed.extract 0 n) a->wpAny P .any ops Q' fuel listed a w:=by
 have hget:∀j,j < n->(ops.extract 0 n)[j]?=ops[j]?:=fun j hj=>by
  rw[Array.getElem?_extract,if_pos (by omega)];simp
 have hgl:∀(listed:Array Bool),listed.size=ops.size->∀(j:Nat) (d:Bool),j < n->(listed.extract 0 n).getD j d=listed.getD j d:=fun listed hs j d hj=>by
  simp only[Array.getD_eq_getD_getElem?]
  rw[Array.getElem?_extract,if_pos (by omega)];simp
 have hhead:∀(listed:Array Bool),listed.size=ops.size->∀j,j < n->(j∈Region.ready .any (ops.extract 0 n) (listed.extract 0 n)↔j∈Region.ready .any ops listed):=by
  intro listed hs j hj
  rw[mem_ready,mem_ready,hget j hj,hgl listed hs j true hj]
  refine and_congr_right fun _=>?_
  constructor
  ·rintro⟨o,ho,h⟩
   refine⟨o,ho,fun e he hb=>?_⟩
   have h1:=List.all_eq_true.1 hback j (List.mem_range.2 (by omega))
   rw[ho] at h1
   simp only[Option.map_some,Option.getD_some] at h1
   have h2:e.on < j:=by have:=Array.all_eq_true_iff_forall_mem.1 h1 e he;simpa using this
   rw[<- hgl listed hs e.on false (by omega)];exact h e he hb
  ·rintro⟨o,ho,h⟩
   refine⟨o,ho,fun e he hb=>?_⟩
   have h1:=List.all_eq_true.1 hback j (List.mem_range.2 (by omega))
   rw[ho] at h1
   simp only[Option.map_some,Option.getD_some] at h1
   have h2:e.on < j:=by have:=Array.all_eq_true_iff_forall_mem.1 h1 e he;simpa using this
   rw[hgl listed hs e.on false (by omega)];exact h e he hb
 intro f
 induction f with
 | zero =>
  intro fuel listed a w hf hw hs hcl hop h
  by_cases hall:∀j,j < n->listed.getD j true=true
  ·exact hQ fuel listed a w (by omega) hw h.2 hs hall hop
  ·exfalso
   obtain⟨j,hj⟩:=Classical.not_forall.1 hall
   obtain⟨hj1,hj2⟩:=Classical.not_imp.1 hj
   have hback':backB (ops.extract 0 n)=true:=by
    unfold backB
    rw[List.all_eq_true]
    intro i hi
    rw[List.mem_range,Array.size_extract] at hi
    rw[hget i (by omega)]
    exact List.all_eq_true.1 hback i (List.mem_range.2 (by omega))
   refine ready_open (md:=.any) hback' (listed.extract 0 n) (by simp[hs]) j (by simp;omega) ?_ h.1
   rw[hgl listed hs j true hj1]
   cases hh:listed.getD j true
   ·rfl
   ·exact(hj2 hh).elim
 | succ f ih =>
  intro fuel listed a w hf hw hs hcl hop h
  by_cases hall:∀j,j < n->listed.getD j true=true
  ·have hnil:Region.ready .any (ops.extract 0 n) (listed.extract 0 n)=[]:=by
    rw[List.eq_nil_iff_forall_not_mem]
    intro j hj
    have:=(mem_ready.1 hj).1
    have hj2:j < n:=by
     obtain⟨_,o,ho,_⟩:=mem_ready.1 hj
     have:=(Array.getElem?_eq_some_iff.1 ho).1
     rw[Array.size_extract] at this;omega
    rw[hgl listed hs j true hj2,hall j hj2] at this
    cases this
   exact hQ fuel listed a w (by omega) hw (h.1 hnil) hs hall hop
  ·obtain⟨g,rfl⟩:∃g,fuel=g+1:=⟨fuel - 1,by omega⟩
   refine⟨fun h0=>(ready_open hback listed hs n hn (hop n (Nat.le_refl _) hn) h0).elim,fun i hi=>?_⟩
   have hin:i < n:=by
    rcases Nat.lt_trichotomy i n with h' | h' | h'
    ·exact h'
    ·exfalso
     subst h'
     apply hall
     intro j hj
     have h2:=last_all hlast hcl hi j hj
     have h3:j < listed.size:=by omega
     simp[Array.getD_eq_getD_getElem?,h3] at h2 ⊢
     exact h2
    ·exact(rest_waits hrest listed hop hs h' hi).elim
   have hq:=h.2 i ((hhead listed hs i hin).2 hi)
   have hq':qOp P ops C i (wpAnyQ P .any (ops.extract 0 n) C Q f ((listed.setIfInBounds i true).extract 0 n)) a:=by
    have he:(listed.setIfInBounds i true).extract 0 n=(listed.extract 0 n).setIfInBounds i true:=by
     apply Array.ext_getElem?
     intro j
     rw[Array.getElem?_extract,Array.getElem?_setIfInBounds,Array.getElem?_setIfInBounds,Array.getElem?_extract]
     simp only[Array.size_setIfInBounds,Array.size_extract,Nat.zero_add]
     by_cases hj:i=j
     ·subst hj
      have h1:i < min n listed.size:=by omega
      have h2:i < listed.size:=by omega
      simp[h1,h2]
     ·simp[hj]
    rw[he]
    unfold qOp at hq ⊢
    rw[hget i hin] at hq
    cases ho:ops[i]? with
    | none=>simp only[ho] at hq ⊢;exact hq
    | some o =>
     simp only[ho] at hq ⊢
     rw[wanted_head hguard hin ho] at hq
     exact hq
   exact wpOp_of_qOp hw (fun a' w' hw' hk=>ih g _ a' w' (by omega) hw' (by simpa using hs) (hcl.step hi) (fun j hj hj2=>by rw[getD_set_ne true (by omega)];exact hop j hj hj2) hk) hq'

def mask (ops:Array Oper) (k:Nat):Array Bool:=Array.replicate k true++Array.replicate (ops.size - k) false
def Rest (P:Program) (Q':Exit->Act->World->Prop) (L:List Oper) (k:Nat) (a:Act) (w:World):Prop:=wpAny P .any L.toArray Q' (L.length - k) (mask L.toArray k) a w
def MidPost (P:Program) (Q':Exit->Act->World->Prop) (L:List Oper) (k:Nat):Exit->Act->World->Prop
 | .normal,a,w=>Rest P Q' L k a w
 | e,a,w=>Q' e a w
def midB (L:List Oper) (k n:Nat):Bool :=
 decide (k<=n)&&decide (n < L.length)&&backB L.toArray&&lastB L.toArray n&&restB L.toArray n&&guardB L.toArray n&&Region.noSelect (L.toArray.extract 0 n) &&
  Region.lexFrom .any (L.toArray.extract 0 n) (n - k) k ((mask L.toArray k).extract 0 n)
def endB (L:List Oper) (k:Nat):Bool:=decide (k<=L.length)&&Region.noSelect L.toArray&&Region.lexFrom .any L.toArray (L.length - k) k (mask L.toArray k)

theorem wpAny_more {ops:Array Oper} {Q':Exit->Act->World->Prop}:∀(f:Nat) (listed:Array Bool) (a:Act) (w:World),wpAny P md ops Q' f listed a w->wpAny P md ops Q' (f+1) listed a w
 | 0,listed,a,w,h=>⟨fun _=>h.2,by rw[h.1];intro i hi;cases hi⟩
 | f+1,listed,a,w,h=>⟨h.1,fun i hi=>wpOp_mono (fun a' w' h'=>wpAny_more f _ a' w' h') (h.2 i hi)⟩
theorem wpAny_le {ops:Array Oper} {Q':Exit->Act->World->Prop} {f g:Nat} (hfg:f<=g) {listed:Array Bool} {a:Act} {w:World} (h:wpAny P md ops Q' f listed a w):wpAny P md ops Q' g listed a w:=by
 induction hfg with
 | refl=>exact h
 | step _ ih=>exact wpAny_more _ _ _ _ ih

theorem wpOp_of_list {ops:Array Oper} {Q Q':Exit->Act->World->Prop} {n:Nat} {o:Oper} {a:Act} {w:World} (ho:ops[n]?=some o) (hQ:∀e a w,e≠.normal->Q e a w->Q' e a w)
  (h:wpList P ops Q [o] a w):wpOp P ops Q' n (fun a' w'=>Q .normal a' w') a w:=by
 unfold wpList at h
 unfold wpOp
 simp only[ho]
 split
 ·rename_i hw
  rw[if_pos hw] at h
  rcases h with h|⟨h1,a0,w0,h2⟩
  ·left
   unfold Oper.wp at h ⊢
   generalize (execOp a.eval o).run P w=r at *
   cases r with
   | ok x w' =>
    cases x<;>first
     | exact h
     | exact h.elim
     |(exact Calls.mono h fun e w'' he=>by cases e<;>first|exact he|exact hQ _ _ _ (by simp) he | (obtain⟨a1,w1,h1⟩:=he;exact⟨a1,w1,hQ _ _ _ (by simp) h1⟩))
     | exact Rows.mono h fun _ _ he=>he
   | halt x w'=>cases x<;>first|exact hQ _ _ _ (by simp) h|exact h.elim
  ·exact .inr ⟨h1,a0,w0,hQ _ _ _ (by simp) h2⟩
 ·rename_i hw
  rw[if_neg hw] at h
  exact h

theorem rest_quiet {Q':Exit->Act->World->Prop} {L:List Oper} {k:Nat} {a:Act} {w:World} (hb:endB L k=true)
  (h:wpQuiet P L.toArray (fun w'=>∃j,w'=w.drewN j) (fun a'=>∀j,Q' .normal a' (w.drewN j)) (L.drop k) a):Rest P Q' L k a w:=by
 unfold endB at hb
 simp only[Bool.and_eq_true,decide_eq_true_eq] at hb
 obtain⟨⟨hk,hsel⟩,hB⟩:=hb
 refine wpAny_of_quiet (C:=fun w'=>∃j,w'=w.drewN j) (Q:=fun a'=>∀j,Q' .normal a' (w.drewN j)) (fun a3 w3 hw3 hq3=>by obtain⟨j,rfl⟩:=hw3;exact hq3 j) _ _ a w ⟨0,rfl⟩ ?_
 have hlen:(L.drop k).length=L.length - k:=by simp
 rw[<- hlen]
 exact wpAnyQ_lex (P:=P) (C:=fun w'=>∃j,w'=w.drewN j) (md:=.any) hsel (L.drop k) k (mask L.toArray k) a (fun j=>by rw[List.getElem?_drop];simp) (by rw[hlen];exact hB) h

theorem rest_mid_in {Q':Exit->Act->World->Prop} {L:List Oper} {k:Nat} (n:Nat) {o:Oper} {a:Act} {w w1:World} (hw1:∃j,w1=w.drewN j) (hb:midB L k n=true) (ho:L[n]?=some o)
  (h:wpQuiet P (L.take n).toArray (fun w'=>∃j,w'=w.drewN j) (fun a'=>∀j,wpList P L.toArray (MidPost P Q' L (n+1)) [o] a' (w.drewN j)) ((L.take n).drop k) a):Rest P Q' L k a w1:=by
 unfold midB at hb
 simp only[Bool.and_eq_true,decide_eq_true_eq] at hb
 obtain⟨⟨⟨⟨⟨⟨⟨hk,hn⟩,hback⟩,hlast⟩,hrest⟩,hguard⟩,hsel⟩,hB⟩:=hb
 have hn':n < L.toArray.size:=by simpa using hn
 have hx:L.toArray.extract 0 n=(L.take n).toArray:=by simp
 have hmget:∀j,(mask L.toArray k)[j]?=if j < k then some true else if j < L.length then some false else none:=by
  intro j
  unfold mask
  rw[Array.getElem?_append,Array.getElem?_replicate,Array.getElem?_replicate,Array.size_replicate]
  simp only[List.size_toArray]
  by_cases h1:j < k
  ·simp[h1]
  ·by_cases h2:j < L.length
   ·simp[h1,h2];omega
   ·simp[h1,h2];omega
 have hms:(mask L.toArray k).size=L.toArray.size:=by unfold mask;simp;omega
 unfold Rest
 refine wpAny_head (ops:=L.toArray) (n:=n) (C:=fun w'=>∃j,w'=w.drewN j) (Q:=fun a'=>∀j,wpList P L.toArray (MidPost P Q' L (n+1)) [o] a' (w.drewN j))
  hn' hback hlast hrest hguard ?_ (n - k) (L.length - k) _ a _ (by simp;omega) hw1 hms ?_ ?_ ?_
 ·rintro fuel listed a' w' hf ⟨j,rfl⟩ hQ hs hall hop
  obtain⟨g,rfl⟩:∃g,fuel=g+1:=⟨fuel - 1,by omega⟩
  refine⟨fun h0=>(ready_open hback listed hs n hn' (hop n (Nat.le_refl _) hn') h0).elim,fun i hi=>?_⟩
  have hin:i=n:=by
   rcases Nat.lt_trichotomy i n with h' | h' | h'
   ·have:=(mem_ready.1 hi).1
    rw[hall i h'] at this;cases this
   ·exact h'
   ·exact(rest_waits hrest listed hop hs h' hi).elim
  subst hin
  have hl:listed.setIfInBounds i true=mask L.toArray (i+1):=by
   unfold mask
   apply Array.ext_getElem?
   intro j
   rw[Array.getElem?_setIfInBounds,Array.getElem?_append,Array.getElem?_replicate,Array.getElem?_replicate,Array.size_replicate]
   by_cases hj:i=j
   ·subst hj;simp[hs,hn]
   ·by_cases hj2:j < i
    ·have h1:=hall j hj2
     have h3:j < listed.size:=by omega
     simp[Array.getD_eq_getD_getElem?,h3] at h1
     simp[hj,show j < i+1 by omega,h3,h1]
    ·by_cases hj3:j < L.toArray.size
     ·have h1:=hop j (by omega) hj3
      have h3:j < listed.size:=by omega
      simp[Array.getD_eq_getD_getElem?,h3] at h1
      simp at hj3
      simp[hj,show ¬j < i+1 by omega,h3,h1];omega
     ·simp at hj3
      simp at hs
      simp[hj,show ¬j < i+1 by omega,show listed.size<=j by omega];omega
  have hop':=wpOp_of_list (Q':=Q') (by simpa using ho) (fun e a w he hx=>by cases e<;>first|exact(he rfl).elim|exact hx) (hQ j)
  refine wpOp_mono (fun a'' w'' h'=>?_) hop'
  rw[hl]
  exact wpAny_le (by simp at hf;omega) h'
 ·intro i o ho hi e he hb
  have h1:i < k:=by
   simp only[Array.getD_eq_getD_getElem?,hmget] at hi
   by_cases h1:i < k
   ·exact h1
   ·by_cases h2:i < L.length<;>simp[h1,h2] at hi
  have h2:=List.all_eq_true.1 hback i (List.mem_range.2 (by omega))
  rw[ho] at h2
  simp only[Option.map_some,Option.getD_some] at h2
  have h3:e.on < i:=by have:=Array.all_eq_true_iff_forall_mem.1 h2 e he;simpa using this
  simp only[Array.getD_eq_getD_getElem?,hmget]
  simp[show e.on < k by omega]
 ·intro j hj hj2
  simp only[Array.getD_eq_getD_getElem?,hmget]
  simp at hj2
  simp[show ¬j < k by omega,hj2]
 ·have hlen:((L.take n).drop k).length=n - k:=by simp;omega
  have:=wpAnyQ_lex (P:=P) (ops:=L.toArray.extract 0 n) (C:=fun w'=>∃j,w'=w.drewN j) (md:=.any) hsel ((L.take n).drop k) k ((mask L.toArray k).extract 0 n) a
   (fun j=>by rw[List.getElem?_drop,hx];simp) (by rw[hlen];exact hB) (by rw[hx];exact h)
  rw[hlen] at this
  exact this

theorem wp_region_rest {Q':Exit->Act->World->Prop} {id:Nat} {L:List Oper} {a:Act} {w:World} (hm:P.follows .mixedOrders=true) (h:Rest P Q' L 0 a w.drew):(Code.region id L.toArray true).wp P Q' a w:=by
 refine wp_region_any hm ?_
 have:mask L.toArray 0=Array.replicate L.toArray.size false:=by unfold mask;simp
 unfold Rest at h
 rw[this] at h
 simpa using h
theorem wp_region_mid {Q':Exit->Act->World->Prop} {id:Nat} {L:List Oper} (n:Nat) {o:Oper} {a:Act} {w:World} (hm:P.follows .mixedOrders=true) (hb:midB L 0 n=true) (ho:L[n]?=some o)
  (h:wpQuiet P (L.take n).toArray (fun w'=>∃j,w'=w.drewN j) (fun a'=>∀j,wpList P L.toArray (MidPost P Q' L (n+1)) [o] a' (w.drewN j)) ((L.take n).drop 0) a):(Code.region id L.toArray true).wp P Q' a w :=
 wp_region_rest hm (rest_mid_in n ⟨1,rfl⟩ hb ho h)
theorem midPost_normal {Q':Exit->Act->World->Prop} {L:List Oper} {k:Nat} {a:Act} {w:World} (h:Rest P Q' L k a w):MidPost P Q' L k .normal a w:=h
end
end Go.Proofs.YtbicafgmfgdckaaDoor
namespace Go.Proofs.YtbicafgmfgdckaaDoor
open Go Go.RowKit

def dropAddr (a:Option Addr) (cap n:Nat):Option Addr:=if cap=n then a else a.map (·.add n)
theorem add_zero' (a:Addr):a.add 0=a:=by simp[Addr.add]
theorem map_add_zero (a:Option Addr):a.map (fun x=>x.add 0)=a:=by cases a<;>simp[add_zero']

section
variable {P:Program} {t e:TypeId} (T:ByteSlice P t e) (w:World) (a:Option Addr) (len cap:Nat)
include T
theorem run_slice_from (k:IntKind) (n:Nat) (N:Int) (hN:N=n) (hn:n<=len):(Instr.slice t (.slice a len cap) (some (.int k N)) none none).run P w=.ok (.slice (dropAddr a cap n) (len - n) (cap - n)) w:=by
 obtain⟨i,hi,_,hz1,_⟩:=info_parts T.info
 subst hN
 have hn':(n:Int)<=(len:Int):=by omega
 simp[Instr.slice,run_underlying T.slice,Instr.sliceBounds,Instr.sliceBound,asIntOf,hn,sizeOf,typeInfo,hi,hz1,dropAddr]
theorem run_slice_to (k:IntKind) (n:Nat) (N:Int) (hN:N=n) (hn:n<=cap):(Instr.slice t (.slice a len cap) none (some (.int k N)) none).run P w=.ok (.slice a n cap) w:=by
 obtain⟨i,hi,_,_,_⟩:=info_parts T.info
 subst hN
 simp[Instr.slice,run_underlying T.slice,Instr.sliceBounds,Instr.sliceBound,asIntOf,hn,sizeOf,typeInfo,hi,map_add_zero]
theorem run_slice_both (k k':IntKind) (m n:Nat) (M N:Int) (hM:M=m) (hN:N=n) (hmn:m<=n) (hn:n<=cap) :
  (Instr.slice t (.slice a len cap) (some (.int k M)) (some (.int k' N)) none).run P w=.ok (.slice (dropAddr a cap m) (n - m) (cap - m)) w:=by
 obtain⟨i,hi,_,hz1,_⟩:=info_parts T.info
 subst hM hN
 have h2:m<=cap:=by omega
 simp[Instr.slice,run_underlying T.slice,Instr.sliceBounds,Instr.sliceBound,asIntOf,hn,hmn,sizeOf,typeInfo,hi,hz1,dropAddr]
end

theorem Reads.drop {w:World} {a:Option Addr} {cap:Nat} {l:List (BitVec 8)} (h:Reads w a cap l) (n:Nat) (hn:n<=l.length):Reads w (dropAddr a cap n) (cap - n) (l.drop n):=by
 have h1:=h.fits
 have h2:=h.room
 refine⟨by rw[List.length_drop];omega,by omega,?_,?_⟩
 ·intro e
  unfold dropAddr at e
  split at e
  ·rename_i hc;omega
  ·have:a=none:=by cases a<;>simp_all
   have:=h.null this;omega
 ·by_cases hd:l.drop n=[]
  ·exact .inl hd
  ·right
   have hlt:n < l.length:=by
    rcases Nat.lt_or_ge n l.length with h' | h'
    ·exact h'
    ·exact(hd (List.drop_eq_nil_of_le h')).elim
   rcases h.bytes with rfl|⟨b,off,rfl,hb⟩
   ·simp at hlt
   ·refine⟨b,off+n,?_,hb.drop n⟩
    unfold dropAddr
    rw[if_neg (by omega),Option.map_some,Addr.add_lit]

def IntsAt (w:World) (b off:Nat) (l:List Int):Prop:=∀i,i < l.length->w.cell? ⟨b,off+i,none⟩=some (.int .i64 (l.getD i 0))
structure IReads (w:World) (a:Option Addr) (cap:Nat) (l:List Int):Prop where
 fits:l.length<=cap
 room:cap<=9223372036854775807
 null:a=none->cap=0
 ints:l=[]\/∃b off,a=some ⟨b,off,none⟩/\IntsAt w b off l
 bounds:∀i,i < l.length->-9223372036854775808<=l.getD i 0/\l.getD i 0<=9223372036854775807
end Go.Proofs.YtbicafgmfgdckaaDoor
namespace Go.Proofs.YtbicafgmfgdckaaDoor
open Go Go.RowKit

theorem byteSlice:ByteSlice Tryd.prog 44 5:=⟨by kernel_rfl,by kernel_rfl⟩
theorem ret_slice {a:Option Addr} {m n c:Nat} (h:m=n):Ending.returned (.slice a m c)=.returned (.slice a n c):=by rw[h]
theorem ret_bool {a b:Bool} (h:a=b):Ending.returned (.bool a)=.returned (.bool b):=by rw[h]
theorem cut_any (a:Option Addr) (cap:Nat) (l:List (BitVec 8)) (n:Nat) (N:Int) (w:World) (hN:(n:Int)=N) (hr:Reads w a cap l) (hn:n<=1048576) :
  Calls Tryd.prog 17 #[.slice a l.length cap,.int .i64 N] w fun e w'=>e=.returned (.slice a (l.take n).length cap)/\w=w':=by
 subst hN
 have hl:=hr.fits
 have hc:=hr.room
 by_cases h:n < l.length
 ·rcases hr.bytes with rfl|⟨b,off,rfl,_⟩
  ·simp at h
  ·clear hr
   go_enter Tryd.func17,Tryd.ntmps17
   go_wp2
   go_ret
   exact⟨ret_slice (by rw[List.length_take];omega),rfl⟩
 ·clear hr
  go_enter Tryd.func17,Tryd.ntmps17
  go_wp2
  go_ret
  exact⟨ret_slice (by rw[List.length_take];omega),rfl⟩

def Copies (w:World) (l:List (BitVec 8)) (e:Ending) (w':World):Prop:=∃v,e=.returned v/\Owns w' w.heap.size 5 v l/\Below w.heap.size w w'
theorem copy_any (a:Option Addr) (cap:Nat) (l:List (BitVec 8)) (w:World) (hr:Reads w a cap l) (hl:l.length<=140737488355328) :
  Calls Tryd.prog 16 #[.slice a l.length cap] w (Copies w l):=by
 go_enter Tryd.func16,Tryd.ntmps16
 go_wp2_with (at_builtin;refine wpList_append_bytes byteSlice rfl _ _ rfl w.heap.size (.slice none 0 0) [] rfl (owns_nil _ _ _) a cap l rfl hr (by simpa using hl) (Nat.le_refl _) ?_;intro v' w' h1 h2)
 go_ret
 exact⟨_,rfl,h1,⟨h2.os,h2.tape,h2.output,h2.size,fun k hk=>h2.block k hk (by simp[Value.ownBlock])⟩⟩

end Go.Proofs.YtbicafgmfgdckaaDoor
namespace Go.Proofs.YtbicafgmfgdckaaDoor
open Go Go.RowKit

theorem and31 (N:Int):bits .and .i64 N 31=N % 32:=by
 have e2:bits .and .i64 N 31=IntKind.i64.wrap ((BitVec.ofInt 64 N) &&& (BitVec.ofInt 64 31)).toNat:=rfl
 have e1:((BitVec.ofInt 64 N) &&& (BitVec.ofInt 64 31)).toNat=(N % 18446744073709551616).toNat % 32:=by
  rw[BitVec.toNat_and,BitVec.toNat_ofInt,show (BitVec.ofInt 64 31).toNat=31 from rfl]
  exact Nat.and_two_pow_sub_one_eq_mod _ 5
 rw[e2,e1,IntWalk.i64_in _ (by omega)]
 omega
def Gives (w:World) (v:Value) (e:Ending) (w':World):Prop:=∃n,e=.returned v/\w'=w.drewN n

theorem turn32_any (x:BitVec 32) (N:Int) (k:Nat) (hk:N % 32=k) (w:World):Calls Tryd.prog 89 #[U32 x,.int .i64 N] w (Gives w (U32 (x <<< k ||| x >>> (32 - k)))):=by
 have hb:=and31 N
 have hk32:k < 32:=by omega
 rw[hk] at hb
 clear hk
 have h0:(0:Int)<=32 - (k:Int):=by omega
 have h3:(k:Int)<=32:=by omega
 have h1:((32:Int) - (k:Int)).toNat=32 - k:=by omega
 have h2:IntKind.i64.wrap (32 - (k:Int))=32 - (k:Int):=IntWalk.i64_in _ (by omega)
 go_enter Tryd.func89,Tryd.ntmps89
 go_wp2
 go_quiet (fail)
 go_wp2
 go_ret
 exact⟨_,rfl,rfl⟩
theorem right_any (x:BitVec 32) (n:Nat) (h1:1<=n) (h2:n<=31) (w:World):Calls Tryd.prog 79 #[U32 x,.int .i64 n] w (Gives w (U32 (Sha.rotr x n))):=by
 have TU:=turn32_any x (-(n:Int)) (32 - n) (by omega) w
 rw[show 32 - (32 - n)=n by omega,BitVec.or_comm] at TU
 have h3:IntKind.i64.wrap (-(n:Int))=-(n:Int):=IntWalk.i64_in _ (by omega)
 clear h1 h2
 go_enter Tryd.func79,Tryd.ntmps79
 go_wp2_with fail
 refine TU.mono ?_
 rintro e w' ⟨m,rfl,rfl⟩
 go_wp2
 go_ret
 exact⟨_,rfl,rfl⟩
theorem turned_any (x:BitVec 32) (n:Nat) (h1:1<=n) (h2:n<=31) (w:World):Calls Tryd.prog 67 #[U32 x,.int .u64 n] w fun e w'=>e=.returned (U32 (Sha.rotr x n))/\w=w':=by
 have h0:(0:Int)<=32 - (n:Int):=by omega
 have h3:((32:Int) - (n:Int)).toNat=32 - n:=by omega
 have h5:(n:Int)<=32:=by omega
 have h4:IntKind.u64.wrap (32 - (n:Int))=32 - (n:Int):=IntWalk.u64_in _ (by omega)
 go_enter Tryd.func67,Tryd.ntmps67
 go_wp2
 go_ret
 exact⟨rfl,rfl⟩
end Go.Proofs.YtbicafgmfgdckaaDoor
