/- A piece. -/
import Derived.Test.YtbicafgmfgdckaaGreatDoorMgAa
import Derived.Lib.LazyBuf
set_option maxRecDepth 100000
set_option maxHeartbeats 16000000
set_option linter.all false
namespace Go.Proofs.YtbicafgmfgdckaaGreatDoor
open Go.Proofs.Tryz
open Go Go.RowKit
abbrev Dg:=List (List (BitVec 8))
def Sd (ls:Dg) (i:Nat):List (BitVec 8):=ls.getD i []
structure La (w:World) (a:Option Addr) (cap:Nat) (ls:Dg):Prop where
 fits:ls.length<=cap
 room:cap<=9223372036854775807
 rows:ls=[]\/∃b off,a=some ⟨b,off,none⟩/\∀i,i < ls.length->∃x c,w.cell? ⟨b,off+i,none⟩=some (.slice x (Sd ls i).length c)/\A0 w x c (Sd ls i)
theorem La.keeps {w w':World} {a:Option Addr} {cap:Nat} {ls:Dg} (h:La w a cap ls) (k:Bm w w'):La w' a cap ls:=by
 refine⟨h.fits,h.room,?_⟩;rcases h.rows with e|⟨b,off,e,hb⟩
 ·exact .inl e
 ·refine .inr ⟨b,off,e,fun i hi=>?_⟩;obtain⟨x,c,h1,h2⟩:=hb i hi;exact⟨x,c,k _ _ h1,h2.keeps k⟩
theorem Sc {ls:Dg} {i:Nat} (h:i < ls.length):Sd ls i=ls[i]:=by simp[Sd,List.getD_eq_getElem?_getD,List.getElem?_eq_getElem h]
def Md (ls:Dg):Dg:=(ls.take 12).map (·.take 100)
theorem Aec (ls:Dg) (r:List (BitVec 8)) (h:r∈Md ls):r.length<=100:=by
 obtain⟨x,_,rfl⟩:=List.mem_map.1 h;rw[List.length_take];omega
theorem Abn (ls:Dg):(Md ls).length<=12:=by
 unfold Md;rw[List.length_map,List.length_take];omega
theorem Amd:Aet prog 25 37 (.slice none 0 0) 24:=⟨by kernel_rfl,by kernel_rfl,rfl⟩
theorem Aeh (a:Option Addr) (cap:Nat) (l:List (BitVec 8)) (w:World) (hr:A0 w a cap l) (hl:l.length<=140737488355328) :
  Calls prog 17 #[.slice a l.length cap] w fun e w'=>∃x c,e=.returned (.slice x l.length c)/\A0 w' x c l/\Below w.heap.size w w'/\∀ad,x=some ad->w.heap.size<=ad.block/\ad.block < w'.heap.size/\0 < l.length:=by
 by_cases h0:l=[]
 ·subst h0;have ux:=hr.room;clear hr hl;show Calls prog 17 #[.slice a 0 cap] w _;cases a with
  | none =>
   go_enter func17,ntmps17
   go_wp2
   go_ret
   exact⟨none,0,rfl,Hz _,Below.refl _ _,fun ad e=>by cases e⟩
  | some ad =>
   go_enter func17,ntmps17
   go_wp2
   go_ret
   exact⟨none,0,rfl,Hz _,Below.refl _ _,fun ad e=>by cases e⟩
 ·refine(Aei a cap l w hr hl).mono fun e w' h=>?_;obtain⟨v,rfl,ho,hb⟩:=h;have hp:0 < l.length:=List.length_pos_iff.2 h0;obtain⟨g,c,rfl,hrow,hB,hg⟩:=ho.row (by omega);obtain⟨x,c2,e,rd⟩:=ho.reads;injection e with e1 _ e2;subst e1 e2;exact⟨_,_,rfl,rd,hb,fun ad e=>by injection e with e;subst e;exact⟨hB,hg,hp⟩⟩
def Ag9 (vs:List Value):Prop:=∀i ad n c,i < vs.length->vs.getD i undef=.slice (some ad) n c->0 < n
theorem Ag9.snoc {vs:List Value} {a:Option Addr} {n c:Nat} (h:Ag9 vs) (k:∀ad,a=some ad->0 < n):Ag9 (vs++[.slice a n c]):=by
 intro i ad n2 c2 hi e;rw[List.length_append,List.length_singleton] at hi;by_cases hlt:i < vs.length
 ·refine h i ad n2 c2 hlt ?_;rw[List.getD_eq_getElem?_getD,List.getElem?_append_left hlt,<- List.getD_eq_getElem?_getD] at e;exact e
 ·have e0:i=vs.length:=by omega
  subst e0;have e3:(vs++[Value.slice a n c]).getD vs.length undef=.slice a n c:=by simp[List.getD_eq_getElem?_getD]
  rw[e3] at e;injection e with e4 e5 e6;subst e5;exact k ad e4
def Aut (w:World) (ls:Dg) (v i:Value) (wr:World):Prop :=
 ∃k vs,k<=ls.length/\k<=12/\i=.int .i64 (k:Nat)/\Bl (fun _=>False) wr w.heap.size 37 v vs ((ls.take k).map (·.take 100))/\Ag9 vs/\Below w.heap.size w wr
theorem Ar3 (a:Option Addr) (cap:Nat) (ls:Dg) (w:World) (hr:La w a cap ls) :
  Calls prog 5 #[.slice a ls.length cap] w fun e w'=>∃v vs,e=.returned v/\Bl (fun _=>False) w' w.heap.size 37 v vs (Md ls)/\Ag9 vs/\Below w.heap.size w w':=by
 have hfit:=hr.fits;have hroom:=hr.room;have HR:=Lib.hid hr;clear hr
 go_enter func5,ntmps5
 go_wp2_with fail
 go_loopw [3,4] (fun v i wr=>Aut w ls v i wr) (fun _ i _=>12 - (intOf i).toNat)
 case atStart=>exact⟨0,[],Nat.zero_le _,by omega,rfl,Lq _ _ _ _,(fun i _ _ _ hi=>by simp at hi),Below.refl _ _⟩
 case round =>
  obtain⟨k,vs,hk,yg,rfl,HO,wj,hbr⟩:=hrel;have HFI:=Lib.hid wj;clear wj;by_cases hlt:k < ls.length/\k < 12
  ·obtain⟨h1,h2⟩:=hlt;obtain⟨b,off,rfl,hrows⟩:=(HR.out.keeps (Bm.below hbr)).rows.resolve_left (fun e=>by rw[e] at h1;simp at h1);obtain⟨x,c,hcell,aq⟩:=hrows k h1;have il:(ls.take (k+1)).map (·.take 100)=(ls.take k).map (·.take 100)++[(Sd ls k).take 100]:=by
    rw[List.take_succ_eq_append_getElem h1,List.map_append,Sc h1];rfl
   have x9:((ls.take k).map (·.take 100)).length=k:=by rw[List.length_map,List.length_take];omega
   have HSN:=Lib.hid il;have HLN:=Lib.hid x9;have HO1:=Lib.hid HO;have HBR:=Lib.hid hbr;clear il x9 HO hbr hrows;generalize Sd ls k=m at *
   go_wp2_with fail
   refine(Asj x c m 100 _ wr rfl aq (by decide)).mono ?_;rintro e w' ⟨rfl,rfl⟩;have hm:=aq.take 100;have hmlen:(m.take 100).length<=100:=by rw[List.length_take];omega
   clear aq;generalize m.take 100=q at *
   go_wp2_with fail
   refine(Aeh x c q wr hm (by omega)).mono ?_;rintro e w4 ⟨a4,c4,rfl,hr4,hb4,ua⟩;have HF5:=Lib.hid (HFI.out.snoc (c:=c4) fun ad e=>(ua ad e).2.2);have HO4:=HO1.out.touch (.of_below hb4);have nA:=(Below.refl w4.heap.size w4).alloc (Nat.le_refl _) (.cells #[.slice a4 q.length c4] 37);have yq:(w4.alloc (.cells #[.slice a4 q.length c4] 37)).cell? ⟨w4.heap.size,0,none⟩=some (.slice a4 q.length c4):=by unfold World.cell?;rw[heap_alloc_new];simp
   have HO5:=Lib.hid (HO4.touch (.of_below nA));have rd5:=hr4.keeps (Bm.below nA);have bo:=HBR.out.trans ((hb4.mono HBR.out.size).trans (nA.mono (Nat.le_trans HBR.out.size hb4.size)));have hvl:∀g,Value.ownBlock u3=some g->g < wr.heap.size:=fun g hg=>(Dm HO1.out.row hg).2;have hs4:=hb4.size;have hcx:Kg (fun _=>False) (w4.alloc (.cells #[.slice a4 q.length c4] 37)) (.slice a4 q.length c4) q:=⟨a4,c4,rfl,rd5,fun ad e=>⟨id,Nat.lt_of_lt_of_le (ua ad e).2.1 nA.size⟩⟩;have HCX:=Lib.hid hcx;have HVL:=Lib.hid hvl;have HBL:=Lib.hid ua;have HB5:=Lib.hid bo;have hrow:(w4.alloc (.cells #[.slice a4 q.length c4] 37)).ownsRow w.heap.size 37 1 u3 k vs:=by have:=HO5.out.row;rw[HLN.out] at this;exact this
   have hsz:=bo.size;clear HO4 hb4 hr4 nA hcx hvl ua bo rd5 hm HO1 HBR hcell;generalize q.length=nq at *
   go_wp2_with (at_builtin;refine Da Amd rfl _ _ rfl w.heap.size u3 k vs rfl hrow ⟨w4.heap.size,0,none⟩ 1 (.slice a4 nq c4) rfl yq rfl (by omega) (by omega) hsz ?_;intro v5 w5 r1 r2 r3)
   go_roundw
   case rel =>
    refine⟨k+1,vs++[.slice a4 nq c4],by omega,by omega,by go_num,?_,HF5.out,?_⟩
    ·rw[HSN.out];refine HO5.out.snoc HCX.out (fun _ f=>f.elim) (by rw[HLN.out];exact r1) r2 r3 ?_;intro ad n c e hv;injection e with e _ _;have:=(HBL.out ad e).1;have:=HVL.out _ hv;omega
    ·exact HB5.out.trans ((Touch.of_grown (F:=fun g=>Value.ownBlock u3=some g) r2 fun _ hk=>hk).below (fun g hg=>(Dm HO5.out.row hg).1) HB5.out.size)
   case measure=>simp[intOf];omega
  ·have hkk:(ls.take k).map (·.take 100)=Md ls:=by
    unfold Md
    congr 1
    rcases Nat.lt_or_ge k 12 with h|h
    ·rw[List.take_of_length_le (by omega),List.take_of_length_le (by omega)]
    ·obtain rfl:k=12:=by omega
     rfl
   rw[hkk] at HO;have HO1:=Lib.hid HO;have HBR:=Lib.hid hbr;clear HO hbr hkk;by_cases h1:k < ls.length
   ·have h2:¬k < 12:=fun q=>hlt ⟨h1,q⟩;go_wp2
    go_ret
    exact⟨_,vs,rfl,HO1.out,HFI.out,HBR.out⟩
   ·go_wp2
    go_ret
    exact⟨_,vs,rfl,HO1.out,HFI.out,HBR.out⟩
namespace Sha
abbrev B8:=BitVec 8
abbrev B32:=BitVec 32
def rotr (x:B32) (n:Nat):B32:=x >>> n ||| x <<< (32 - n)
def K:List B32:=[
 0x428a2f98#32,0x71374491#32,0xb5c0fbcf#32,0xe9b5dba5#32,0x3956c25b#32,0x59f111f1#32,0x923f82a4#32,0xab1c5ed5#32,
 0xd807aa98#32,0x12835b01#32,0x243185be#32,0x550c7dc3#32,0x72be5d74#32,0x80deb1fe#32,0x9bdc06a7#32,0xc19bf174#32,
 0xe49b69c1#32,0xefbe4786#32,0x0fc19dc6#32,0x240ca1cc#32,0x2de92c6f#32,0x4a7484aa#32,0x5cb0a9dc#32,0x76f988da#32,
 0x983e5152#32,0xa831c66d#32,0xb00327c8#32,0xbf597fc7#32,0xc6e00bf3#32,0xd5a79147#32,0x06ca6351#32,0x14292967#32,
 0x27b70a85#32,0x2e1b2138#32,0x4d2c6dfc#32,0x53380d13#32,0x650a7354#32,0x766a0abb#32,0x81c2c92e#32,0x92722c85#32,
 0xa2bfe8a1#32,0xa81a664b#32,0xc24b8b70#32,0xc76c51a3#32,0xd192e819#32,0xd6990624#32,0xf40e3585#32,0x106aa070#32,
 0x19a4c116#32,0x1e376c08#32,0x2748774c#32,0x34b0bcb5#32,0x391c0cb3#32,0x4ed8aa4a#32,0x5b9cca4f#32,0x682e6ff3#32,
 0x748f82ee#32,0x78a5636f#32,0x84c87814#32,0x8cc70208#32,0x90befffa#32,0xa4506ceb#32,0xbef9a3f7#32,0xc67178f2#32]
@[ext] structure St where
 a:B32
 b:B32
 c:B32
 d:B32
 e:B32
 f:B32
 g:B32
 h:B32
def begin:St:=⟨0x6a09e667#32,0xbb67ae85#32,0x3c6ef372#32,0xa54ff53a#32,0x510e527f#32,0x9b05688c#32,0x1f83d9ab#32,0x5be0cd19#32⟩
def St.list (s:St):List B32:=[s.a,s.b,s.c,s.d,s.e,s.f,s.g,s.h]
def St.at_ (s:St) (i:Nat):B32:=s.list.getD i 0#32
def small0 (x:B32):B32:=rotr x 7 ^^^ rotr x 18 ^^^ x >>> 3
def small1 (x:B32):B32:=rotr x 17 ^^^ rotr x 19 ^^^ x >>> 10
def big0 (x:B32):B32:=rotr x 2 ^^^ rotr x 13 ^^^ rotr x 22
def big1 (x:B32):B32:=rotr x 6 ^^^ rotr x 11 ^^^ rotr x 25
def ch (e f g:B32):B32:=(e &&& f) ^^^ (~~~e &&& g)
def maj (a b c:B32):B32:=(a &&& b) ^^^ (a &&& c) ^^^ (b &&& c)
def next (l:List B32) (k:Nat):B32:=l.getD k 0#32+small0 (l.getD (k+1) 0#32)+l.getD (k+9) 0#32+small1 (l.getD (k+14) 0#32)
def Fr (b:List B32):Nat->List B32
 | 0=>b
 | k+1=>Fr b k++[next (Fr b k) k]
def be4 (a b c d:B8):B32:=(((a.setWidth 32 <<< 8 ||| b.setWidth 32) <<< 8 ||| c.setWidth 32) <<< 8) ||| d.setWidth 32
def word (l:List B8) (i:Nat):B32:=be4 (Ad l (4 * i)) (Ad l (4 * i+1)) (Ad l (4 * i+2)) (Ad l (4 * i+3))
def first (l:List B8):List B32:=(List.range 16).map (word l)
def sched (l:List B8):List B32:=Fr (first l) 48
def step (v:St) (k w:B32):St :=
 let t:=v.h+big1 v.e+ch v.e v.f v.g+k+w
 ⟨t+(big0 v.a+maj v.a v.b v.c),v.a,v.b,v.c,v.d+t,v.e,v.f,v.g⟩
def rounds (v:St) (w:List B32):Nat->St
 | 0=>v
 | n+1=>step (rounds v w n) (K.getD n 0#32) (w.getD n 0#32)
def St.plus (s v:St):St:=⟨s.a+v.a,s.b+v.b,s.c+v.c,s.d+v.d,s.e+v.e,s.f+v.f,s.g+v.g,s.h+v.h⟩
def take (s:St) (l:List B8):St:=s.plus (rounds s (sched l) 64)
def blocks:Nat->St->List B8->St
 | 0,s,_=>s
 | n+1,s,l=>blocks n (take s (l.take 64)) (l.drop 64)
def be8 (n:Nat):List B8:=[BitVec.ofNat 8 (n / 2 ^ 56),BitVec.ofNat 8 (n / 2 ^ 48),BitVec.ofNat 8 (n / 2 ^ 40),BitVec.ofNat 8 (n / 2 ^ 32),BitVec.ofNat 8 (n / 2 ^ 24),BitVec.ofNat 8 (n / 2 ^ 16),BitVec.ofNat 8 (n / 2 ^ 8),BitVec.ofNat 8 n]
def noughts (n:Nat):Nat:=(119 - n % 64) % 64
def tail (rest:List B8) (n:Nat):List B8:=rest++[0x80#8]++List.replicate (noughts rest.length) 0#8++be8 (8 * n)
def pad (l:List B8):List B8:=tail l l.length
def bytes4 (x:B32):List B8:=[(x >>> 24).setWidth 8,(x >>> 16).setWidth 8,(x >>> 8).setWidth 8,x.setWidth 8]
def St.bytes (s:St):List B8:=s.list.flatMap bytes4
def sum (l:List B8):List B8:=(blocks ((pad l).length / 64) begin (pad l)).bytes
def held (l:List B8):St:=blocks (l.length / 64) begin l
def left (l:List B8):List B8:=l.drop (64 * (l.length / 64))
theorem length_grow (b:List B32):∀k,(Fr b k).length=b.length+k
 | 0=>rfl
 | k+1=>by rw[Fr,List.length_append,length_grow b k,List.length_singleton];omega
theorem length_first (l:List B8):(first l).length=16:=by simp[first]
theorem length_sched (l:List B8):(sched l).length=64:=by rw[sched,length_grow,length_first]
theorem grow_get (b:List B32) (i:Nat):∀k,i < b.length->(Fr b k).getD i 0#32=b.getD i 0#32
 | 0,_=>rfl
 | k+1,h=>by
  have:=length_grow b k;rw[Fr,List.getD_eq_getElem?_getD,List.getElem?_append_left (by omega),<- List.getD_eq_getElem?_getD,grow_get b i k h]
theorem grow_stable (b:List B32) (i k:Nat) (h:i < b.length+k):∀m,(Fr b (k+m)).getD i 0#32=(Fr b k).getD i 0#32
 | 0=>rfl
 | m+1=>by
  have:=length_grow b (k+m);rw[<- Nat.add_assoc,Fr,List.getD_eq_getElem?_getD,List.getElem?_append_left (by omega),<- List.getD_eq_getElem?_getD,grow_stable b i k h m]
theorem grow_next (b:List B32) (k:Nat):(Fr b (k+1)).getD (b.length+k) 0#32=next (Fr b k) k:=by
 have:=length_grow b k;rw[Fr,List.getD_eq_getElem?_getD,List.getElem?_append_right (by omega),this,Nat.sub_self];rfl
theorem sched_low (l:List B8) (i:Nat) (h:i < 16):(sched l).getD i 0#32=word l i:=by
 rw[sched,grow_get _ _ _ (by rw[length_first];exact h),List.getD_eq_getElem?_getD];simp[first,h]
theorem sched_get (l:List B8) (i k:Nat) (hk:k<=48) (h:i < 16+k):(sched l).getD i 0#32=(Fr (first l) k).getD i 0#32:=by
 have:=grow_stable (first l) i k (by rw[length_first];exact h) (48 - k);rw[show k+(48 - k)=48 by omega] at this;exact this
theorem sched_high (l:List B8) (i:Nat) (h1:16<=i) (h2:i < 64) :
  (sched l).getD i 0#32=(sched l).getD (i - 16) 0#32+small0 ((sched l).getD (i - 15) 0#32)+(sched l).getD (i - 7) 0#32+small1 ((sched l).getD (i - 2) 0#32):=by
 obtain⟨k,rfl⟩:∃k,i=16+k:=⟨i - 16,by omega⟩;have e:=grow_next (first l) k;rw[length_first] at e;rw[sched_get l (16+k) (k+1) (by omega) (by omega),e,next];rw[sched_get l (16+k - 16) k (by omega) (by omega),sched_get l (16+k - 15) k (by omega) (by omega),sched_get l (16+k - 7) k (by omega) (by omega),sched_get l (16+k - 2) k (by omega) (by omega)];rw[show 16+k - 16=k by omega,show 16+k - 15=k+1 by omega,show 16+k - 7=k+9 by omega,show 16+k - 2=k+14 by omega]
theorem blocks_append:∀(m n:Nat) (s:St) (l r:List B8),l.length=64 * m->blocks (m+n) s (l++r)=blocks n (blocks m s l) r
 | 0,n,s,l,r,h=>by
  obtain rfl:l=[]:=List.eq_nil_of_length_eq_zero (by omega);rw[Nat.zero_add];rfl
 | m+1,n,s,l,r,h=>by
  rw[show m+1+n=(m+n)+1 by omega,blocks,blocks,List.take_append_of_le_length (by omega),List.drop_append_of_le_length (by omega)];exact blocks_append m n _ _ r (by rw[List.length_drop];omega)
theorem blocks_take:∀(m:Nat) (s:St) (l:List B8),64 * m<=l.length->blocks m s l=blocks m s (l.take (64 * m))
 | 0,s,l,h=>rfl
 | m+1,s,l,h=>by
  rw[blocks,blocks,List.take_take,Nat.min_eq_left (by omega),blocks_take m _ _ (by rw[List.length_drop];omega),List.drop_take]
  congr 3<;>omega
theorem df (l:List B8):∃h:List B8,h.length=64 * (l.length / 64)/\l=h++left l/\held l=blocks (l.length / 64) begin h:=by
 refine⟨l.take (64 * (l.length / 64)),?_,?_,?_⟩
 ·rw[List.length_take];omega
 ·rw[left,List.take_append_drop]
 ·rw[held];exact blocks_take _ _ _ (by omega)
theorem left_length (l:List B8):(left l).length=l.length % 64:=by rw[left,List.length_drop];omega
theorem held_append (l r:List B8):held (l++r)=blocks (((left l).length+r.length) / 64) (held l) (left l++r):=by
 obtain⟨h,h1,h2,h3⟩:=df l;have hl:=left_length l;rw[held,h3];have e:l++r=h++(left l++r):=by rw[<- List.append_assoc,<- h2]
 rw[e,show (h++(left l++r)).length / 64=l.length / 64+((left l).length+r.length) / 64 by rw[List.length_append,List.length_append,h1];omega];exact blocks_append _ _ _ _ _ h1
theorem left_append (l r:List B8):left (l++r)=(left l++r).drop (64 * (((left l).length+r.length) / 64)):=by
 obtain⟨h,h1,h2,_⟩:=df l;have hl:=left_length l;have e:l++r=h++(left l++r):=by rw[<- List.append_assoc,<- h2]
 rw[left,e,show (h++(left l++r)).length / 64=l.length / 64+((left l).length+r.length) / 64 by rw[List.length_append,List.length_append,h1];omega];rw[show 64 * (l.length / 64+((left l).length+r.length) / 64)=h.length+64 * (((left l).length+r.length) / 64) by omega,List.drop_append,List.drop_eq_nil_of_le (by omega),Nat.add_sub_cancel_left,List.nil_append]
theorem sum_held (l:List B8):sum l=(blocks ((tail (left l) l.length).length / 64) (held l) (tail (left l) l.length)).bytes:=by
 obtain⟨h,h1,h2,h3⟩:=df l;have hl:=left_length l;have hn:noughts l.length=noughts (left l).length:=by rw[hl,noughts,noughts,Nat.mod_mod]
 have e:pad l=h++tail (left l) l.length:=by
  rw[pad,tail,tail,hn]
  conv=>lhs;rw[show l++[0x80#8]=h++(left l++[0x80#8]) by rw[<- List.append_assoc,<- h2]]
  simp only[List.append_assoc]
 rw[sum,e,h3,show (h++tail (left l) l.length).length / 64=l.length / 64+(tail (left l) l.length).length / 64 by rw[List.length_append,h1];omega,blocks_append _ _ _ _ _ h1]
theorem ch_or (e f g:B32):((e &&& f) ||| ((e ^^^ 0xffffffff#32) &&& g))=ch e f g:=by
 have h1:e ^^^ 0xffffffff#32 = ~~~e:=by rw[show (0xffffffff#32)=BitVec.allOnes 32 from rfl,BitVec.xor_allOnes]
 rw[h1,ch];apply BitVec.eq_of_getLsbD_eq;intro i hi;simp only[BitVec.getLsbD_or,BitVec.getLsbD_and,BitVec.getLsbD_xor,BitVec.getLsbD_not,hi,decide_true,Bool.true_and];cases e.getLsbD i<;>cases f.getLsbD i<;>cases g.getLsbD i<;>rfl
theorem maj_or (a b c:B32):((a &&& b) ||| (a &&& c) ||| (b &&& c))=maj a b c:=by
 rw[maj];apply BitVec.eq_of_getLsbD_eq;intro i hi;simp only[BitVec.getLsbD_or,BitVec.getLsbD_and,BitVec.getLsbD_xor];cases a.getLsbD i<;>cases b.getLsbD i<;>cases c.getLsbD i<;>rfl
end Sha
theorem Apm (N:Int):bits .and .i64 N 31=N % 32:=by
 have e2:bits .and .i64 N 31=IntKind.i64.wrap ((BitVec.ofInt 64 N) &&& (BitVec.ofInt 64 31)).toNat:=rfl;have e1:((BitVec.ofInt 64 N) &&& (BitVec.ofInt 64 31)).toNat=(N % 18446744073709551616).toNat % 32:=by
  rw[BitVec.toNat_and,BitVec.toNat_ofInt,show (BitVec.ofInt 64 31).toNat=31 from rfl];exact Nat.and_two_pow_sub_one_eq_mod _ 5
 rw[e2,e1,IntWalk.i64_in _ (by omega)];omega
def Td (w:World) (v:Value) (e:Ending) (w':World):Prop:=∃n,e=.returned v/\w'=w.drewN n
theorem Aci (x:BitVec 32) (N:Int) (k:Nat) (hk:N % 32=k) (w:World):Calls prog 111 #[Af x,.int .i64 N] w (Td w (Af (x <<< k ||| x >>> (32 - k)))):=by
 have hb:=Apm N;have hk32:k < 32:=by omega
 rw[hk] at hb;clear hk;have h0:(0:Int)<=32 - (k:Int):=by omega
 have h3:(k:Int)<=32:=by omega
 have h1:((32:Int) - (k:Int)).toNat=32 - k:=by omega
 have h2:IntKind.i64.wrap (32 - (k:Int))=32 - (k:Int):=IntWalk.i64_in _ (by omega)
 go_enter func111,ntmps111
 go_wp2
 go_quiet (fail)
 go_wp2
 go_ret
 exact⟨_,rfl,rfl⟩
theorem Kr (x:BitVec 32) (n:Nat) (h1:1<=n) (h2:n<=31) (w:World):Calls prog 100 #[Af x,.int .i64 n] w (Td w (Af (Sha.rotr x n))):=by
 have TU:=Aci x (-(n:Int)) (32 - n) (by omega) w;rw[show 32 - (32 - n)=n by omega,BitVec.or_comm] at TU;have h3:IntKind.i64.wrap (-(n:Int))=-(n:Int):=IntWalk.i64_in _ (by omega);clear h1 h2
 go_enter func100,ntmps100
 go_wp2_with fail
 refine TU.mono ?_;rintro e w' ⟨m,rfl,rfl⟩;go_wp2
 go_ret
 exact⟨_,rfl,rfl⟩
theorem Fp (x:BitVec 32) (n:Nat) (h1:1<=n) (h2:n<=31) (w:World):Calls prog 84 #[Af x,.int .u64 n] w fun e w'=>e=.returned (Af (Sha.rotr x n))/\w=w':=by
 have h0:(0:Int)<=32 - (n:Int):=by omega
 have h3:((32:Int) - (n:Int)).toNat=32 - n:=by omega
 have h5:(n:Int)<=32:=by omega
 have h4:IntKind.u64.wrap (32 - (n:Int))=32 - (n:Int):=IntWalk.u64_in _ (by omega)
 go_enter func84,ntmps84
 go_wp2
 go_ret
 exact⟨rfl,rfl⟩
def Gm (l:List (BitVec 8)):BitVec 64:=l.foldl (fun x c=>x <<< 8 ||| c.setWidth 64) 0#64
theorem Ag1 (l:List (BitVec 8)) (k:Nat) (h:k < l.length):Gm (l.take (k+1))=Gm (l.take k) <<< 8 ||| (Ad l k).setWidth 64:=by
 unfold Gm;rw[Y9 l k h,List.foldl_append];rfl
def Aux (l:List (BitVec 8)) (w:World) (x i:Value) (wr:World):Prop:=∃k:Nat,k<=l.length/\i=.int .i64 k/\x=F6 (Gm (l.take k))/\wr=w
theorem Ago (b off cap:Nat) (l:List (BitVec 8)) (w:World) (h1:1<=l.length) (h8:l.length<=8) (hb:Bf w b off l) :
  Calls prog 112 #[.slice (some ⟨b,off,none⟩) l.length cap] w fun e w'=>e=.returned (.tuple #[F6 (Gm l),.bool true])/\w=w':=by
 have hl0:(1:Int)<=l.length:=by omega
 have jh:(l.length:Int)<=8:=by omega
 go_enter func112,ntmps112
 go_wp2
 go_loopw [4,17] (fun x i wr=>Aux l w x i wr) (fun _ i _=>l.length - (intOf i).toNat)
 case atStart=>exact⟨0,Nat.zero_le _,rfl,rfl,rfl⟩
 case round =>
  obtain⟨k,hk,rfl,rfl,hw⟩:=hrel;by_cases hlt:k < l.length
  ·have hc:wr.cell? ⟨b,off+k,none⟩=some (U8 (Ad l k)):=hw ▸ hb k hlt;have HW:=Lib.hid hw;have HS:=Lib.hid (Ag1 l k hlt);clear hw hb;generalize Ad l k=c at *;go_wp2
   go_roundw
   case rel=>exact⟨k+1,by omega,by go_num,by rw[HS.out],HW.out⟩
   case measure=>simp[intOf];omega
  ·obtain rfl:k=l.length:=by omega
   have HW:=Lib.hid hw;clear hw hb;go_wp2
   go_ret2
   exact⟨by rw[List.take_length];rfl,HW.out.symm⟩
abbrev Bv:=List (BitVec 32)
def Bu (f:Bv):Array Value:=(f.map Af).toArray
def Ac (f:Bv) (i:Nat):BitVec 32:=f.getD i 0#32
theorem Bi (f:Bv):(Bu f).size=f.length:=by simp[Bu]
theorem Ah6 (f:Bv) (i:Nat) (h:i < f.length):(Bu f)[i]?=some (Af (Ac f i)):=by
 simp[Bu,Ac,List.getD_eq_getElem?_getD,List.getElem?_eq_getElem h]
theorem Asr (f:Bv) (i:Nat) (x:BitVec 32):(Bu f).setIfInBounds i (Af x)=Bu (f.set i x):=by
 simp[Bu,List.map_set]
theorem Hu (f:Bv):(Bu f).all (·.oneCell')=true:=by
 rw[Array.all_eq_true_iff_forall_mem];intro v hv;simp only[Bu,List.mem_toArray,List.mem_map] at hv;obtain⟨x,_,rfl⟩:=hv;rfl
theorem Y4 {f g:Bv} (hl:f.length=g.length) (h:∀i,i < f.length->Ac f i=Ac g i):f=g:=by
 apply List.ext_getElem hl;intro i h1 h2;have:=h i h1;simpa [Ac,List.getD_eq_getElem?_getD,List.getElem?_eq_getElem h1,List.getElem?_eq_getElem h2] using this
theorem Lg (f:Bv) (i j:Nat) (x:BitVec 32) (h:i < f.length):Ac (f.set i x) j=if j=i then x else Ac f j:=by
 unfold Ac;rw[List.getD_eq_getElem?_getD,List.getElem?_set,List.getD_eq_getElem?_getD];by_cases e:i=j
 ·subst e;simp[h]
 ·rw[if_neg e,if_neg (fun e2=>e e2.symm)]
def Aw (w:World) (g:Nat) (t:TypeId) (f:Bv):Prop:=w.heap[g]?=some (.cells (Bu f) t (0,0))
section
variable {w w':World} {g:Nat} {t:TypeId} {f:Bv}
theorem Aw.cell (h:Aw w g t f) {i:Nat} (hi:i < f.length):w.cell? ⟨g,i,none⟩=some (Af (Ac f i)):=by
 have e:=Ah6 f i hi;unfold Aw at h;unfold World.cell?;rw[h];exact e
theorem Aw.thawed (h:Aw w g t f) (o:Nat):w.frozen? ⟨g,o,none⟩=false:=by
 unfold Aw at h;simp[World.frozen?,h]
theorem Aw.lt (h:Aw w g t f):g < w.heap.size:=Dk h
theorem Aw.set (h:Aw w g t f) (i:Nat) (x:BitVec 32):Aw (w.setCell ⟨g,i,none⟩ (Af x)) g t (f.set i x):=by
 have e:=setCell_eq_setRow w g i (Bu f) t (0,0) (Af x) h;unfold Aw;rw[e,Asr];exact setRow_heap w g (Bu f) _ t _ h
theorem Aw.drewN (h:Aw w g t f) (n:Nat):Aw (w.drewN n) g t f:=h
theorem Aw.touch {F:Nat->Prop} (h:Aw w g t f) (k:Touch F w w') (hn:¬F g):Aw w' g t f:=by
 have hl:=h.lt;unfold Aw at h ⊢;rw[k.block g hl hn];exact h
theorem Aw.below (h:Aw w g t f) (hb:Below w.heap.size w w'):Aw w' g t f:=(h.touch (F:=fun _=>False) (.of_below hb) fun e=>e)
theorem Aw.row (h:Aw w g t f) (f':Bv):Aw (w.setRow g (Bu f')) g t f':=setRow_heap w g (Bu f) _ t _ h
theorem Aw.new (w:World) (t:TypeId) (f:Bv):Aw (w.alloc (.cells (Bu f) t)) w.heap.size t f:=heap_alloc_new w _
end
theorem Aln (x:BitVec 64):(x <<< 8).setWidth 32=x.setWidth 32 <<< 8:=by
 apply BitVec.eq_of_getLsbD_eq;intro i hi;simp only[BitVec.getLsbD_setWidth,BitVec.getLsbD_shiftLeft,hi,decide_true,Bool.true_and,show i < 64 by omega];by_cases h:i < 8
 ·simp[h]
 ·simp[h,show i - 8 < 32 by omega]
theorem Aig (c:BitVec 8):(c.setWidth 64).setWidth 32=c.setWidth 32:=by
 apply BitVec.eq_of_getLsbD_eq;intro i hi;simp only[BitVec.getLsbD_setWidth,hi,decide_true,Bool.true_and,show i < 64 by omega]
theorem Au9 (l:List (BitVec 8)) (h:l.length=4):(Gm l).setWidth 32=Sha.be4 (Ad l 0) (Ad l 1) (Ad l 2) (Ad l 3):=by
 match l,h with
 | [a,b,c,d],_ =>
  simp only[Gm,List.foldl_cons,List.foldl_nil,BitVec.setWidth_or,Aln,Aig,Sha.be4,Ad,List.getD_eq_getElem?_getD];simp
theorem Oc:∃z:Bv,(∀w,Sem.run prog (zeroValue 138) w=.ok (.agg (Bu z)) w)/\z.length=64:=⟨List.replicate 64 0#32,fun w=>by kernel_rfl,by simp⟩
def Alg (z:Bv) (w:World) (l:List (BitVec 8)) (i:Value) (wr:World):Prop :=
 ∃(k:Nat) (f:Bv),k<=16/\i=.int .i64 k/\f.length=64/\(∀j,j < k->Ac f j=Sha.word l j)/\Aw wr w.heap.size 138 z/\Aw wr (w.heap.size+1) 138 f/\Below w.heap.size w wr
def Lb (z:Bv) (w:World) (S:Bv) (i:Value) (wr:World):Prop :=
 ∃(k:Nat) (f:Bv),16<=k/\k<=64/\i=.int .i64 k/\f.length=64/\(∀j,j < k->Ac f j=Ac S j)/\Aw wr w.heap.size 138 z/\Aw wr (w.heap.size+1) 138 f/\Below w.heap.size w wr
theorem Lb.step {z S f:Bv} {w wr W:World} {k j:Nat} {v:Value} {i:Value} (h0:16<=k) (hk:k < 64) (hf:f.length=64) (hw:∀j,j < k->Ac f j=Ac S j) (hr:Aw wr w.heap.size 138 z) (hv:Aw wr (w.heap.size+1) 138 f) (hb:Below w.heap.size w wr)
  (t:Touch (fun _=>False) wr W) (e:v=Af (Ac S k)) (hi:i=.int .i64 (k+1:Nat)):Lb z w S i ((W.setCell ⟨w.heap.size+1,k,none⟩ v).drewN j):=by
 subst e;have hs:=hb.size;have hv1:=hv.touch t fun e=>e;have t2:Touch (fun q=>q=w.heap.size+1) wr ((W.setCell ⟨w.heap.size+1,k,none⟩ (Af (Ac S k))).drewN j):=((t.mono fun _ e=>e.elim).trans (Touch.set (F:=fun q=>q=w.heap.size+1) W (w.heap.size+1) k _ rfl)).drewN j;refine⟨k+1,f.set k (Ac S k),by omega,by omega,hi,by simp[hf],fun q hq=>?_,hr.touch t2 (by omega),(hv1.set k _).drewN j,hb.trans (t2.below (fun q e=>by omega) hs)⟩;rw[Lg _ _ _ _ (by omega)];split
 ·rename_i e;subst e;rfl
 ·exact hw q (by omega)
theorem Ai5 (b off cap:Nat) (l:List (BitVec 8)) (w:World) (hl:l.length=64) (hcap:64<=cap) (hcm:cap<=9223372036854775807) (hb:Bf w b off l) :
  Calls prog 99 #[.slice (some ⟨b,off,none⟩) 64 cap] w fun e w'=>e=.returned (.agg (Bu (Sha.sched l)))/\Below w.heap.size w w':=by
 obtain⟨z,hz,hzl⟩:=Oc;have hS:=Lib.hid (Sha.length_sched l);have bj:=Lib.hid (Sha.sched_low l);have pj:=Lib.hid (Sha.sched_high l);generalize Sha.sched l=S at *
 go_enter func99,ntmps99
 go_wp2;have r0:Aw ((w.alloc (.cells (Bu z) 138)).alloc (.cells (Bu z) 138)) w.heap.size 138 z:=(Aw.new w _ _).touch (F:=fun _=>False) ((Touch.refl _ _).alloc _) fun e=>e;have v0:Aw ((w.alloc (.cells (Bu z) 138)).alloc (.cells (Bu z) 138)) (w.heap.size+1) 138 z:=by
  have:=Aw.new (w.alloc (.cells (Bu z) 138)) 138 z;simpa using this
 have hb0:Below w.heap.size w ((w.alloc (.cells (Bu z) 138)).alloc (.cells (Bu z) 138)):=((Below.refl _ _).alloc (Nat.le_refl _) _).alloc (by simp) _;clear hz;generalize (w.alloc (.cells (Bu z) 138)).alloc (.cells (Bu z) 138)=w1 at *
 go_loopw [4,5,6,12,15] (fun _ _ _ i _ wr=>Alg z w l i wr) (fun _ _ _ i _ _=>16 - (intOf i).toNat)
 case atStart=>exact⟨0,_,by omega,rfl,hzl,fun j h=>by omega,r0,v0,hb0⟩
 case round =>
  clear r0 v0 hb0;obtain⟨k,f,hk,rfl,hf,hw,hr,hv,ae⟩:=hrel;by_cases hlt:k < 16
  ·have hs:=fun w=>Ii (P:=prog) Ay w (some ⟨b,off,none⟩) 64 cap .i64 .i64 (4 * k) (4 * k+4) (4 * (k:Int)) (4 * (k:Int)+4) (by omega) (by omega) (by omega) (by omega);have wn:Cf (some ⟨b,off,none⟩) cap (4 * k)=some ⟨b,off+4 * k,none⟩:=by
    unfold Cf;rw[if_neg (by omega),Option.map_some,Addr.add_lit]
   rw[wn,show 4 * k+4 - 4 * k=4 by omega] at hs;have kr:((l.drop (4 * k)).take 4).length=4:=by rw[List.length_take,List.length_drop];omega
   have gy:Bf wr b (off+4 * k) ((l.drop (4 * k)).take 4):=((hb.mono (Bm.below ae ⟨b,·,none⟩)).drop (4 * k)).take 4;have GB:=Ago b (off+4 * k) (cap - 4 * k) _ wr (by omega) (by omega) gy;have hbig:=Au9 _ kr;have bt:∀j,j < 4->Ad ((l.drop (4 * k)).take 4) j=Ad l (4 * k+j):=fun j hj=>by rw[Na hj,Nb]
   rw[kr] at GB;rw[bt 0 (by omega),bt 1 (by omega),bt 2 (by omega),bt 3 (by omega)] at hbig;have jd:(Gm ((l.drop (4 * k)).take 4)).setWidth 32=Sha.word l k:=hbig;have HB:=Lib.hid jd;have hcell:=hv.cell (i:=k) (by omega);have mj:=hv.thawed k;clear hbig jd bt kr gy wn;generalize Gm ((l.drop (4 * k)).take 4)=x at *;have HV:=Lib.hid hv;have HR:=Lib.hid hr;have HW:=Lib.hid hw;have HBW:=Lib.hid ae;clear hv hr hw ae hb
   go_wp2_with fail
   refine GB.mono ?_;rintro e w2 ⟨rfl,rfl⟩;clear GB hs;go_wp2
   go_roundw
   case rel =>
    have t:Touch (fun q=>q=w.heap.size+1) wr (wr.setCell ⟨w.heap.size+1,k,none⟩ (Af (x.setWidth 32))):=Touch.set wr (w.heap.size+1) k (Af (x.setWidth 32)) rfl;refine⟨k+1,f.set k (x.setWidth 32),by omega,by go_num,by simp[hf],fun j hj=>?_,HR.out.touch t (by omega),HV.out.set k _,HBW.out.trans (t.below (fun q e=>by omega) HBW.out.size)⟩;rw[Lg _ _ _ _ (by omega)];split
    ·rename_i e;subst e;exact HB.out
    ·exact HW.out j (by omega)
   case measure=>simp[intOf];omega
  ·obtain rfl:k=16:=by omega
   rw[show (((16:Nat):Int))=16 from rfl];have rel2:Lb z w S (.int .i64 16) wr:=⟨16,f,by omega,by omega,rfl,hf,fun j hj=>by rw[hw j hj];exact(bj.out j hj).symm,hr,hv,ae⟩;clear hw hr hv ae hb;go_wp2
   go_loopw [7] (fun i wr=>Lb z w S i wr) (fun i _=>64 - (intOf i).toNat)
   case atStart=>exact rel2
   case round =>
    clear rel2;obtain⟨k,f,jk,hk,rfl,hf,hw,hr,hv,ae⟩:=hrel;by_cases hlt:k < 64
    ·obtain⟨n15,e15⟩:∃n:Nat,(k:Int) - 15=n:=⟨k - 15,by omega⟩;obtain⟨n2,e2⟩:∃n:Nat,(k:Int) - 2=n:=⟨k - 2,by omega⟩;obtain⟨n16,e16⟩:∃n:Nat,(k:Int) - 16=n:=⟨k - 16,by omega⟩;obtain⟨n7,e7⟩:∃n:Nat,(k:Int) - 7=n:=⟨k - 7,by omega⟩;have c15:=hv.cell (i:=n15) (by omega);have c2:=hv.cell (i:=n2) (by omega);have c16:=hv.cell (i:=n16) (by omega);have c7:=hv.cell (i:=n7) (by omega);have ck:=hv.cell (i:=k) (by omega);have mj:=hv.thawed k;have l15:n15 < 64:=by omega
     have l2:n2 < 64:=by omega
     have l16:n16 < 64:=by omega
     have l7:n7 < 64:=by omega
     go_wp2
     go_quiet (fail)
     have zz:=hw n15 (by omega);have hx2:=hw n2 (by omega);have zy:=hw n16 (by omega);have mg:=hw n7 (by omega);have ac:=pj.out k jk hlt;have bv:Ac S k=Ac S n16+Sha.small0 (Ac S n15)+Ac S n7+Sha.small1 (Ac S n2):=by
      rw[show n16=k - 16 by omega,show n15=k - 15 by omega,show n7=k - 7 by omega,show n2=k - 2 by omega];exact ac
     rw[<- zz,<- hx2,<- zy,<- mg] at bv;have HN:=Lib.hid bv;have HV:=Lib.hid hv;have HR:=Lib.hid hr;have HW:=Lib.hid hw;have HBW:=Lib.hid ae;clear zz hx2 zy mg ac bv hv hr hw ae;generalize Ac f n15=x15 at *;generalize Ac f n2=x2 at *;generalize Ac f n16=x16 at *;generalize Ac f n7=x7 at *;have R7:∀v,Calls prog 100 #[Af x15,.int .i64 7] v (Td v (Af (Sha.rotr x15 7))):=fun v=>Kr x15 7 (by decide) (by decide) v;have R18:∀v,Calls prog 100 #[Af x15,.int .i64 18] v (Td v (Af (Sha.rotr x15 18))):=fun v=>Kr x15 18 (by decide) (by decide) v;have R17:∀v,Calls prog 100 #[Af x2,.int .i64 17] v (Td v (Af (Sha.rotr x2 17))):=fun v=>Kr x2 17 (by decide) (by decide) v;have R19:∀v,Calls prog 100 #[Af x2,.int .i64 19] v (Td v (Af (Sha.rotr x2 19))):=fun v=>Kr x2 19 (by decide) (by decide) v
     go_wp2_with fail
     refine(R7 _).mono ?_;rintro e w' ⟨m1,rfl,rfl⟩
     go_wp2_with fail
     refine(R18 _).mono ?_;rintro e w' ⟨m2,rfl,rfl⟩
     go_wp2_with fail
     refine(R17 _).mono ?_;rintro e w' ⟨m3,rfl,rfl⟩
     go_wp2_with fail
     refine(R19 _).mono ?_;rintro e w' ⟨m4,rfl,rfl⟩
     go_wp2_with fail
     refine Cb 15 (by kernel_rfl) (by kernel_rfl) rfl ?_;simp only[List.take_succ_cons,List.take_zero,List.drop_zero]
     repeat (first|go_big_quiet_step (fail) | quiet_step (fail))
     refine wpQuiet_nil ?_;intro j;go_wp2;refine B9 (Db (by kernel_rfl) ?_);simp only[List.drop_succ_cons,List.drop_nil];refine wpQuiet_nil ?_;intro j';clear R7 R18 R17 R19 c15 c2 c16 c7 ck mj e15 e2 e16 e7;go_wp2
     go_roundw
     case rel =>
      refine Lb.step jk hlt hf HW.out HR.out HV.out HBW.out ?_ (by rw[HN.out];rfl) (by go_num)
      repeat (first|exact Touch.refl _ _|refine Touch.drewN ?_ _)
     case measure=>simp[intOf];omega
    ·obtain rfl:k=64:=by omega
     have e0:f=S:=Y4 (by rw[hf,hS.out]) fun i hi=>hw i (by omega);subst e0;have hi:(prog.info? 138).map (·.size)=some (Bu f).size:=by rw[Bi,hf];kernel_rfl
     have ky:(Bu z).size=(Bu f).size:=by rw[Bi,Bi,hzl,hf]
     have hone:=Hu f;have HB:=Lib.hid ae;have hr2:=hr.row f;have tR:Touch (fun q=>q=w.heap.size) wr (wr.setRow w.heap.size (Bu f)):=Touch.setRow wr _ _ rfl;have hr1:wr.heap[w.heap.size]?=some (.cells (Bu z) 138 (0,0)):=hr;have hv1:wr.heap[w.heap.size+1]?=some (.cells (Bu f) 138 (0,0)):=hv;clear hr hv ae hw
     go_wp2_with (first | (refine wpList_load_row rfl 138 _ rfl (w.heap.size+1) rfl _ (Bu f) _ _ hv1 underlying138 rfl hi ?_) | (refine wpList_store_row rfl 138 _ _ rfl w.heap.size (Bu f) rfl rfl _ (Bu z) hr1 hi ky hone ?_))
     refine bodyPost_ret (results_cell_row rfl _ _ w.heap.size _ (Bu f) _ _ rfl hr2 underlying138 rfl hi) rfl ?_;exact⟨rfl,HB.out.trans (tR.below (fun q e=>by omega) HB.out.size)⟩
def C2 (w:World):Prop:=∀i,i < 64->w.cell? ⟨0,i,none⟩=some (Af (Ac Sha.K i))
theorem C2.keeps {w w':World} (h:C2 w) (k:Bm w w'):C2 w':=fun i hi=>k _ _ (h i hi)
theorem Od:∃z:Bv,(∀w,Sem.run prog (zeroValue 132) w=.ok (.agg (Bu z)) w)/\z.length=8:=⟨List.replicate 8 0#32,fun w=>by kernel_rfl,by simp⟩
theorem Tk (x:BitVec 32) (N:Int) (h1:1<=N) (h2:N<=31) (w:World) (j:Nat):Calls prog 100 #[Af x,.int .i64 N] (w.drewN j) fun e w''=>e=.returned (Af (Sha.rotr x N.toNat))/\∃m,w''=w.drewN m:=by
 obtain⟨n,rfl⟩:∃n:Nat,N=n:=⟨N.toNat,by omega⟩;exact(Kr x n (by omega) (by omega) _).mono fun _ _ ⟨m,he,hw⟩=>⟨he,j+m,by rw[hw,World.drewN_drewN]⟩
theorem Hp {P:Program} {ops:Array Oper} {rest:List Oper} {o:Oper} {a:Act} {w:World} {Q:Exit->Act->World->Prop} (hg:o.guard=none) (t:TypeId) (parts:Array (Nat × Operand)) (ho:o.op=.build t parts)
  (cells:Array Value) (hf:P.built t (parts.map fun(i,x)=>(i,a.eval x)).toList=some cells)
  (h:wpList P ops Q rest (a.put o.dst (.agg cells)) w):wpList P ops Q (o::rest) a w:=by
 refine wpList_build hg t parts ho (by rw[hf];rfl) ?_;rw[hf];exact h
theorem Li {P:Program} {ops:Array Oper} {Q:Exit->Act->World->Prop} {l:List Oper} {a:Act} {w:World} {d t q1 pos after g parts} (h:wpList P ops Q (⟨d,.build t parts,q1,pos,after,g⟩::l) a w):wpList P ops Q (⟨d,.build t parts,q1,pos,after,g⟩::l) a w:=h
theorem Auf (a b c d e f g i:BitVec 32):Program.built prog 132 [(0,Af a),(1,Af b),(2,Af c),(3,Af d),(4,Af e),(5,Af f),(6,Af g),(7,Af i)]=some (Bu [a,b,c,d,e,f,g,i]):=by
 kernel_rfl
def Ast (z8:Bv) (s:Sha.St) (S:Bv) (w:World) (g2 g3:Nat) (i:Value) (wr:World):Prop :=
 ∃(k:Nat) (v:Sha.St),k<=64/\i=.int .i64 k/\v=Sha.rounds s S k/\Aw wr w.heap.size 132 s.list/\Aw wr (w.heap.size+1) 132 z8/\Aw wr g2 138 S/\Aw wr g3 132 v.list/\Below w.heap.size w wr
theorem Aiw (v:Sha.St) (xk xs T U:BitVec 32) (hT:v.h+(Sha.rotr v.e 6 ^^^ Sha.rotr v.e 11 ^^^ Sha.rotr v.e 25)+(v.e &&& v.f ^^^ ~~~v.e &&& v.g)+xk+xs=T)
  (hU:(Sha.rotr v.a 2 ^^^ Sha.rotr v.a 13 ^^^ Sha.rotr v.a 22)+(v.a &&& v.b ^^^ v.a &&& v.c ^^^ v.b &&& v.c)=U):(Sha.step v xk xs).list=[T+U,v.a,v.b,v.c,v.d+T,v.e,v.f,v.g]:=by
 subst hT hU;rfl
theorem Aq3 (s v:Sha.St) (j:Nat) (h:j < 8):Ac (s.plus v).list j=Ac s.list j+Ac v.list j:=by
 match j,h with
 | 0,_=>rfl
 | 1,_=>rfl
 | 2,_=>rfl
 | 3,_=>rfl
 | 4,_=>rfl
 | 5,_=>rfl
 | 6,_=>rfl
 | 7,_=>rfl
 | n+8,h=>omega
def Yn (z8 A V:Bv) (w:World) (g3:Nat) (i:Value) (wr:World):Prop :=
 ∃(k:Nat) (f:Bv),k<=8/\i=.int .i64 k/\f.length=8/\(∀j,j < k->Ac f j=Ac A j+Ac V j)/\(∀j,k<=j->j < 8->Ac f j=Ac A j)/\Aw wr w.heap.size 132 f/\Aw wr (w.heap.size+1) 132 z8/\Aw wr g3 132 V/\Below w.heap.size w wr
theorem Yn.step {z8 A V f:Bv} {w wr W:World} {g3 k j:Nat} {i v:Value} (hk:k < 8) (hg:w.heap.size+1 < g3) (hf:f.length=8) (h1:∀j,j < k->Ac f j=Ac A j+Ac V j) (h2:∀j,k<=j->j < 8->Ac f j=Ac A j)
  (d0:Aw wr w.heap.size 132 f) (d1:Aw wr (w.heap.size+1) 132 z8) (d3:Aw wr g3 132 V) (hb:Below w.heap.size w wr)
  (t:Touch (fun _=>False) wr W) (e:v=Af (Ac f k+Ac V k)) (hi:i=.int .i64 (k+1:Nat)):Yn z8 A V w g3 i ((W.setCell ⟨w.heap.size,k,none⟩ v).drewN j):=by
 subst e;have hs:=hb.size;have hv1:=d0.touch t fun e=>e;have t2:Touch (fun q=>q=w.heap.size) wr ((W.setCell ⟨w.heap.size,k,none⟩ (Af (Ac f k+Ac V k))).drewN j):=((t.mono fun _ e=>e.elim).trans (Touch.set (F:=fun q=>q=w.heap.size) W w.heap.size k _ rfl)).drewN j;refine⟨k+1,f.set k (Ac f k+Ac V k),by omega,hi,by simp[hf],fun q hq=>?_,fun q hq hq8=>?_,(hv1.set k _).drewN j,d1.touch t2 (by omega),d3.touch t2 (by omega),hb.trans (t2.below (fun q e=>by omega) hs)⟩
 ·rw[Lg _ _ _ _ (by omega)];split
  ·rename_i e;subst e;rw[h2 q (by omega) (by omega)]
  ·exact h1 q (by omega)
 ·rw[Lg _ _ _ _ (by omega),if_neg (by omega)];exact h2 q (by omega) hq8
theorem Pn (s:Sha.St) (b off cap:Nat) (l:List (BitVec 8)) (w:World) (hl:l.length=64) (hcap:64<=cap) (hcm:cap<=9223372036854775807) (hb:Bf w b off l) (hk:C2 w) :
  Calls prog 79 #[.agg (Bu s.list),.slice (some ⟨b,off,none⟩) 64 cap] w fun e w'=>e=.returned (.agg (Bu (Sha.take s l).list))/\Below w.heap.size w w':=by
 obtain⟨z,hz,hzl⟩:=Oc;obtain⟨z8,zb,jm⟩:=Od;have SC:=fun v (h:Bm w v)=>Ai5 b off cap l v hl hcap hcm (hb.mono (h ⟨b,·,none⟩));have hsl:s.list.length=8:=rfl;unfold Sha.take;have HSl:=Lib.hid (Sha.length_sched l);generalize Sha.sched l=S at *;generalize hss:s.list=sl at *;have HSS:=Lib.hid hss;clear hss
 go_enter func79,ntmps79
 go_wp2_with fail
 have a0:Aw ((w.alloc (.cells (Bu sl) 132)).alloc (.cells (Bu z8) 132)) w.heap.size 132 sl:=(Aw.new w _ _).touch (F:=fun _=>False) ((Touch.refl _ _).alloc _) fun e=>e;have a1:Aw ((w.alloc (.cells (Bu sl) 132)).alloc (.cells (Bu z8) 132)) (w.heap.size+1) 132 z8:=by
  have:=Aw.new (w.alloc (.cells (Bu sl) 132)) 132 z8;simpa using this
 have hb0:Below w.heap.size w ((w.alloc (.cells (Bu sl) 132)).alloc (.cells (Bu z8) 132)):=((Below.refl _ _).alloc (Nat.le_refl _) _).alloc (by simp) _;generalize (w.alloc (.cells (Bu sl) 132)).alloc (.cells (Bu z8) 132)=w1 at *;refine(SC _ (Bm.below hb0)).mono ?_;rintro e w2 ⟨rfl,hb2⟩;have a0:=a0.below hb2;have a1:=a1.below hb2;have hs2:=a1.lt;have hb2:=hb0.trans (hb2.mono hb0.size);clear hb0 SC;have b2:(w2.alloc (.cells (Bu z) 138)).heap[w2.heap.size]?=some (.cells (Bu z) 138 (0,0)):=Aw.new w2 138 z;have hi:(prog.info? 138).map (·.size)=some (Bu S).size:=by rw[Bi,HSl.out];kernel_rfl
 have ky:(Bu z).size=(Bu S).size:=by rw[Bi,Bi,hzl,HSl.out]
 have hone:=Hu S;have t3:Touch (fun q=>q=w2.heap.size) w2 ((w2.alloc (.cells (Bu z) 138)).setRow w2.heap.size (Bu S)):=((Touch.refl _ _).alloc _).trans (Touch.setRow _ _ _ rfl);have b3:Aw ((w2.alloc (.cells (Bu z) 138)).setRow w2.heap.size (Bu S)) w2.heap.size 138 S:=(Aw.new w2 138 z).row S;have a03:=a0.touch t3 (by omega);have a13:=a1.touch t3 (by omega);have hb3:=hb2.trans (t3.below (fun q e=>by omega) hb2.size);clear t3;have hi8:(prog.info? 132).map (·.size)=some (Bu sl).size:=by rw[Bi,hsl];kernel_rfl
 have hzf8:(Bu z8).size=(Bu sl).size:=by rw[Bi,Bi,jm,hsl]
 have hone8:=Hu sl
 go_wp2_with (first
  |(refine wpList_store_row rfl 138 _ _ rfl w2.heap.size (Bu S) rfl rfl _ (Bu z) b2 hi ky hone ?_
    generalize (w2.alloc (.cells (Bu z) 138)).setRow w2.heap.size (Bu S)=w3 at *;have h03:w3.heap[w.heap.size]?=some (.cells (Bu sl) 132 (0,0)):=a03;have b4:(w3.alloc (.cells (Bu z8) 132)).heap[w3.heap.size]?=some (.cells (Bu z8) 132 (0,0)):=Aw.new w3 132 z8)
  |(refine wpList_load_row rfl 132 _ rfl w.heap.size rfl _ (Bu sl) _ _ h03 underlying132 rfl hi8 ?_)
  |(refine wpList_store_row rfl 132 _ _ rfl w3.heap.size (Bu sl) rfl rfl _ (Bu z8) b4 hi8 hzf8 hone8 ?_))
 have t5:Touch (fun q=>q=w3.heap.size) w3 ((w3.alloc (.cells (Bu z8) 132)).setRow w3.heap.size (Bu sl)):=((Touch.refl _ _).alloc _).trans (Touch.setRow _ _ _ rfl);have d3:Aw ((w3.alloc (.cells (Bu z8) 132)).setRow w3.heap.size (Bu sl)) w3.heap.size 132 sl:=(Aw.new w3 132 z8).row sl;have h2:=b3.lt;have d0:=a03.touch t5 (by omega);have d1:=a13.touch t5 (by omega);have d2:=b3.touch t5 (by omega);have bo:=hb3.trans (t5.below (fun q e=>by omega) hb3.size);have hg2:w.heap.size+1 < w2.heap.size:=hs2;clear t5 b2 b3 b4 h03 a03 a13 a0 a1 hb3 hb2;generalize (w3.alloc (.cells (Bu z8) 132)).setRow w3.heap.size (Bu sl)=w5 at *;generalize w2.heap.size=g2 at *;generalize w3.heap.size=g3 at *;rw[<- HSS.out] at d0 d3
 go_loopw [16] (fun i wr=>Ast z8 s S w g2 g3 i wr) (fun i _=>64 - (intOf i).toNat)
 case atStart=>exact⟨0,s,by omega,rfl,rfl,d0,d1,d2,d3,bo⟩
 case round =>
  clear d0 d1 d2 d3 bo;obtain⟨k,v,hk64,rfl,hv,d0,d1,d2,d3,ae⟩:=hrel;by_cases hlt:k < 64
  ·have e0:wr.cell? ⟨g3,0,none⟩=some (Af v.a):=d3.cell (i:=0) (show 0 < 8 by decide);have e1:wr.cell? ⟨g3,1,none⟩=some (Af v.b):=d3.cell (i:=1) (show 1 < 8 by decide);have e2:wr.cell? ⟨g3,2,none⟩=some (Af v.c):=d3.cell (i:=2) (show 2 < 8 by decide);have e3:wr.cell? ⟨g3,3,none⟩=some (Af v.d):=d3.cell (i:=3) (show 3 < 8 by decide);have e4:wr.cell? ⟨g3,4,none⟩=some (Af v.e):=d3.cell (i:=4) (show 4 < 8 by decide);have e5:wr.cell? ⟨g3,5,none⟩=some (Af v.f):=d3.cell (i:=5) (show 5 < 8 by decide);have e6:wr.cell? ⟨g3,6,none⟩=some (Af v.g):=d3.cell (i:=6) (show 6 < 8 by decide);have e7:wr.cell? ⟨g3,7,none⟩=some (Af v.h):=d3.cell (i:=7) (show 7 < 8 by decide);have ek:=hk.keeps (Bm.below ae) k hlt;have es:=d2.cell (i:=k) (by rw[HSl.out];exact hlt);have hn:Sha.rounds s S (k+1)=Sha.step v (Ac Sha.K k) (Ac S k):=by rw[hv];rfl
   have HN:=Lib.hid hn;have H0:=Lib.hid d0;have H1:=Lib.hid d1;have H2:=Lib.hid d2;have H3:=Lib.hid d3;have HK:=Lib.hid hk;clear hv hn d0 d1 d2 d3 hk;generalize Ac Sha.K k=xk at *;generalize Ac S k=xs at *;go_wp2
   go_quiet (exact Tk _ _ (by decide) (by decide) _ _)
   have f0:(wr.drewN nq).cell? ⟨g3,0,none⟩=some (Af v.a):=e0;have f1:(wr.drewN nq).cell? ⟨g3,1,none⟩=some (Af v.b):=e1;have f2:(wr.drewN nq).cell? ⟨g3,2,none⟩=some (Af v.c):=e2;have f3:(wr.drewN nq).cell? ⟨g3,3,none⟩=some (Af v.d):=e3;have f4:(wr.drewN nq).cell? ⟨g3,4,none⟩=some (Af v.e):=e4;have f5:(wr.drewN nq).cell? ⟨g3,5,none⟩=some (Af v.f):=e5;have f6:(wr.drewN nq).cell? ⟨g3,6,none⟩=some (Af v.g):=e6;have f7:(wr.drewN nq).cell? ⟨g3,7,none⟩=some (Af v.h):=e7;have G0:Hid (Aw (wr.drewN nq) w.heap.size 132 s.list):=Lib.hid H0.out;have G1:Hid (Aw (wr.drewN nq) (w.heap.size+1) 132 z8):=Lib.hid H1.out;have G2:Hid (Aw (wr.drewN nq) g2 138 S):=Lib.hid H2.out;have G3:Hid (Aw (wr.drewN nq) g3 132 v.list):=Lib.hid H3.out;have GB:Below w.heap.size w (wr.drewN nq):=below_drewN ae nq;clear e0 e1 e2 e3 e4 e5 e6 e7 ek es H0 H1 H2 H3 ae;generalize wr.drewN nq=w6 at *;go_wp2
   go_quiet (exact Tk _ _ (by decide) (by decide) _ _)
   have h3:w6.heap[g3]?=some (.cells (Bu v.list) 132 (0,0)):=G3.out;generalize hT:v.h+(Sha.rotr v.e 6 ^^^ Sha.rotr v.e 11 ^^^ Sha.rotr v.e 25)+(v.e &&& v.f ^^^ ~~~v.e &&& v.g)+xk+xs=T;generalize hU:(Sha.rotr v.a 2 ^^^ Sha.rotr v.a 13 ^^^ Sha.rotr v.a 22)+(v.a &&& v.b ^^^ v.a &&& v.c ^^^ v.b &&& v.c)=U;have HT:=Lib.hid hT;have HU:=Lib.hid hU;clear hT hU;obtain⟨L,hL⟩:∃L:Bv,L=[T+U,v.a,v.b,v.c,v.d+T,v.e,v.f,v.g]:=⟨_,rfl⟩;have qw:=Auf (T+U) v.a v.b v.c (v.d+T) v.e v.f v.g;rw[<- hL] at qw;have y7:L.length=8:=by rw[hL];rfl
   have HL:=Lib.hid hL;clear hL;have hsz:(Bu v.list).size=(Bu L).size:=by rw[Bi,Bi,y7];rfl
   have fc:(prog.info? 132).map (·.size)=some (Bu L).size:=by rw[Bi,y7];kernel_rfl
   have hov:=Hu L
   go_wp2_with (with_reducible refine Li ?roundEnd)
   refine Hp rfl 132 _ rfl (Bu L) ?hb0 ?nx1
   case hb0=>go_simp
   clear qw f0 f1 f2 f3 f4 f5 f6 f7
   go_wp2_with (refine wpList_store_row rfl 132 _ _ rfl g3 (Bu L) rfl rfl _ (Bu v.list) h3 fc hsz hov ?_)
   go_roundw
   case rel =>
    have t:Touch (fun q=>q=g3) w6 ((w6.drewN nq).setRow g3 (Bu L)):=((Touch.refl _ _).drewN nq).trans (Touch.setRow _ _ _ rfl);have hs:=GB.size;have e:=Aiw v xk xs T U HT.out HU.out;rw[<- HL.out] at e;refine⟨k+1,Sha.step v xk xs,by omega,by go_num,HN.out.symm,G0.out.touch t (by omega),G1.out.touch t (by omega),G2.out.touch t (by omega),?_,GB.trans (t.below (fun q e=>by omega) hs)⟩;rw[e];exact(G3.out.drewN nq).row L
   case measure=>simp[intOf];omega
  ·obtain rfl:k=64:=by omega
   rw[show (((64:Nat):Int))=64 from rfl];have hg2':w.heap.size+1 < g3:=Nat.lt_trans hg2 h2;subst hv;have hP:=Lib.hid (Aq3 s (Sha.rounds s S 64));have hPl:(s.plus (Sha.rounds s S 64)).list.length=8:=rfl;have hVl:(Sha.rounds s S 64).list.length=8:=rfl;have hAl:s.list.length=8:=rfl;clear HSS d2 hk hb hlt;generalize hPP:(s.plus (Sha.rounds s S 64)).list=PP at *;have HPP:=Lib.hid hPP;clear hPP;generalize (Sha.rounds s S 64).list=V at *;generalize s.list=A at *;have rel2:Yn z8 A V w g3 (.int .i64 0) wr:=⟨0,A,by omega,rfl,hAl,fun j h=>by omega,fun j _ _=>rfl,d0,d1,d3,ae⟩;clear d0 d1 d3 ae;go_wp2
   go_loopw [96] (fun i wr=>Yn z8 A V w g3 i wr) (fun i _=>8 - (intOf i).toNat)
   case atStart=>exact rel2
   case round =>
    clear rel2;obtain⟨k,f,hk,rfl,hf,h1,h2,d0,d1,d3,ae⟩:=hrel;by_cases hlt:k < 8
    ·have c1:=d0.cell (i:=k) (by omega);have c2:=d3.cell (i:=k) (by omega);have mj:=d0.thawed k;have H1:=Lib.hid h1;have H2:=Lib.hid h2;have D0:=Lib.hid d0;have D1:=Lib.hid d1;have D3:=Lib.hid d3;have HBW:=Lib.hid ae;clear h1 h2 d0 d1 d3 ae;obtain⟨ya,ze⟩:∃y,Ac f k=y:=⟨_,rfl⟩;obtain⟨yv,hyv⟩:∃y,Ac V k=y:=⟨_,rfl⟩;rw[ze] at c1;rw[hyv] at c2;have HYA:=Lib.hid ze;have HYV:=Lib.hid hyv;clear ze hyv
     go_wp2_with fail
     refine Cb 8 (by kernel_rfl) (by kernel_rfl) rfl ?_;simp only[List.take_succ_cons,List.take_zero,List.drop_zero]
     repeat (first|go_big_quiet_step (fail) | quiet_step (fail))
     refine wpQuiet_nil ?_;intro j;go_wp2;refine B9 (Db (by kernel_rfl) ?_);simp only[List.drop_succ_cons,List.drop_nil];refine wpQuiet_nil ?_;intro j';clear c1 c2 mj;go_wp2
     go_roundw
     case rel =>
      refine Yn.step hlt hg2' hf H1.out H2.out D0.out D1.out D3.out HBW.out ?_ (by rw[HYA.out,HYV.out]) (by go_num)
      repeat (first|exact Touch.refl _ _|refine Touch.drewN ?_ _)
     case measure=>simp[intOf];omega
    ·obtain rfl:k=8:=by omega
     have e0:f=PP:=Y4 (by rw[hf,hPl]) fun i hi=>by rw[h1 i (by omega),hP.out i (by omega)]
     subst e0;have zj:(prog.info? 132).map (·.size)=some (Bu f).size:=by rw[Bi,hf];kernel_rfl
     have hzf9:(Bu z8).size=(Bu f).size:=by rw[Bi,Bi,jm,hf]
     have hone9:=Hu f;have HB:=Lib.hid ae;have hr2:=d1.row f;have tR:Touch (fun q=>q=w.heap.size+1) wr (wr.setRow (w.heap.size+1) (Bu f)):=Touch.setRow wr _ _ rfl;have hv1:wr.heap[w.heap.size]?=some (.cells (Bu f) 132 (0,0)):=d0;have hr1:wr.heap[w.heap.size+1]?=some (.cells (Bu z8) 132 (0,0)):=d1;clear d0 d1 d3 ae h1 h2
     go_wp2_with (first | (refine wpList_load_row rfl 132 _ rfl w.heap.size rfl _ (Bu f) _ _ hv1 underlying132 rfl zj ?_) | (refine wpList_store_row rfl 132 _ _ rfl (w.heap.size+1) (Bu f) rfl rfl _ (Bu z8) hr1 zj hzf9 hone9 ?_))
     refine bodyPost_ret (results_cell_row rfl _ _ (w.heap.size+1) _ (Bu f) _ _ rfl hr2 underlying132 rfl zj) rfl ?_;exact⟨by rw[HPP.out],HB.out.trans (tR.below (fun q e=>by omega) HB.out.size)⟩
def Ts (x:BitVec 64) (n:Nat):List (BitVec 8):=(List.range n).map fun i=>(x >>> (8 * i)).setWidth 8
theorem Gt (x:BitVec 64) (n:Nat):(Ts x n).length=n:=by simp[Ts]
theorem At2 (x:BitVec 64) (n i:Nat) (h:i < n):Ad (Ts x n) i=(x >>> (8 * i)).setWidth 8:=by
 simp[Ad,Ts,List.getD_eq_getElem?_getD,h]
theorem L5 (l:List (BitVec 8)) (i j:Nat) (x:BitVec 8) (h:i < l.length):Ad (l.set i x) j=if j=i then x else Ad l j:=by
 unfold Ad;rw[List.getD_eq_getElem?_getD,List.getElem?_set,List.getD_eq_getElem?_getD];by_cases e:i=j
 ·subst e;simp[h]
 ·rw[if_neg e,if_neg (fun e2=>e e2.symm)]
theorem Pi {P:Program} (w:World) {ops:Array Oper} {rest:List Oper} {o:Oper} {a:Act} {Q:Exit->Act->World->Prop} {t e:TypeId} (T:ByteSlice P t e)
  (hg:o.guard=none) (l c:Operand) (hop:o.op=Op.makeSlice t l c) (n:Nat) (hl:a.eval l=.int .i64 n) (hc:a.eval c=.int .i64 n) (hn:n<=1048576)
  (hK:∀w',Dz w' w.heap.size e w.heap.size n n (List.replicate n 0#8)->Below w.heap.size w w'->wpList P ops Q rest (a.put o.dst (.slice (some ⟨w.heap.size,0,none⟩) n n)) w') :
  wpList P ops Q (o::rest) a w:=by
 obtain⟨i,hi,hz0,hz1,hz2⟩:=info_parts T.info;refine wpList_make_full w hg l c t hop w.heap.size e i (.int .u8 0) 1 T.slice hi hz0 hz1 .i64 .i64 n n n hl hc rfl rfl (by rw[hz2];omega) (by unfold maxLen;omega) (Nat.le_refl _) ?_;intro w' h1 h2;refine hK w' ⟨?_,by simp⟩ ⟨h2.os,h2.tape,h2.output,h2.size,fun k hk=>h2.block k hk (by simp)⟩;rw[show (Value.int IntKind.u8 0).cells=#[.int .u8 0] from rfl,toList_madeCells_one,Nat.mul_one] at h1;rw[List.map_replicate];exact h1
def Aun (x:BitVec 64) (n B:Nat) (w:World) (i:Value) (wr:World):Prop :=
 ∃(k:Nat) (l:List (BitVec 8)),k<=n/\i=.int .i64 k/\Dz wr B 5 B n n l/\(∀j,j < k->Ad l j=(x >>> (8 * j)).setWidth 8)/\Below B w wr
theorem Afn (x:BitVec 64) (n:Nat) (h1:1<=n) (h8:n<=8) (w:World):Calls prog 101 #[F6 x,.int .i64 n] w fun e w' =>
  e=.returned (.slice (some ⟨w.heap.size,0,none⟩) n n)/\Dz w' w.heap.size 5 w.heap.size n n (Ts x n)/\Below w.heap.size w w':=by
 have hb1:(1:Int)<=n:=by omega
 have hb2:(n:Int)<=8:=by omega
 go_enter func101,ntmps101
 go_wp2_with (at_make;refine Pi w Ay rfl _ _ rfl n rfl rfl (by omega) ?_;intro w1 hr hbl)
 have hB:w.heap.size<=w.heap.size:=Nat.le_refl _;generalize hbe:w.heap.size=B at *;have HBE:=Lib.hid hbe;clear hbe
 go_loopw [17] (fun i wr=>Aun x n B w i wr) (fun i _=>n - (intOf i).toNat)
 case atStart=>exact⟨0,_,by omega,rfl,hr,fun j h=>by omega,hbl⟩
 case round =>
  clear hr hbl;obtain⟨k,l,hk,rfl,hr,hj,ae⟩:=hrel;by_cases hlt:k < n
  ·have mj:=hr.thawed k;have hc:=hr.cell k hlt;have HR:=Lib.hid hr;have HJ:=Lib.hid hj;have HB:=Lib.hid ae;clear hr hj ae;have h0:(0:Int)<=8 * (k:Int):=by omega
   have ht:(8 * (k:Int)).toNat=8 * k:=by omega
   go_wp2
   go_roundw
   case rel =>
    have t:Touch (fun q=>q=B) wr (wr.setCell ⟨B,k,none⟩ (U8 ((x >>> (8 * k)).setWidth 8))):=Touch.set wr B k _ rfl;refine⟨k+1,l.set k ((x >>> (8 * k)).setWidth 8),by omega,by go_num,HR.out.set k _,fun j hj=>?_,HB.out.trans (t.below (fun q e=>by omega) (HBE.out ▸ HB.out.size))⟩;rw[L5 _ _ _ _ (by rw[HR.out.2];exact hlt)];split
    ·rename_i e;subst e;rfl
    ·exact HJ.out j (by omega)
   case measure=>simp[intOf];omega
  ·obtain rfl:k=n:=by omega
   have e:l=Ts x k:=Wx (by rw[hr.2,Gt]) fun j h=>by rw[hr.2] at h;rw[hj j h,At2 _ _ _ h]
   subst e;have HR:=Lib.hid hr;have HB:=Lib.hid ae;clear hr hj ae;go_wp2
   go_ret
   rw[HBE.out];exact⟨rfl,HR.out,HB.out⟩
def Aul (l:List (BitVec 8)) (B g cap:Nat) (w:World) (i j:Value) (wr:World):Prop :=
 ∃(k:Nat) (f:List (BitVec 8)),2 * k<=l.length/\i=.int .i64 k/\j=.int .i64 ((l.length:Int) - 1 - k)/\Dz wr B 5 g cap l.length f /\
  (∀q,q < l.length->Ad f q=if q < k\/l.length - k<=q then Ad l (l.length - 1 - q) else Ad l q)/\Touch (fun q=>q=g) w wr
theorem Ac3 (l:List (BitVec 8)) (B g cap:Nat) (w:World) (h0:1<=l.length) (hl:l.length<=1048576) (hr:Dz w B 5 g cap l.length l) :
  Calls prog 102 #[.slice (some ⟨g,0,none⟩) l.length cap] w fun e w'=>e=.returned (.tuple #[])/\Dz w' B 5 g cap l.length l.reverse/\Touch (fun q=>q=g) w w':=by
 have hl0:(1:Int)<=l.length:=by omega
 have jh:(l.length:Int)<=1048576:=by omega
 go_enter func102,ntmps102
 go_wp2
 go_loopw [2,3] (fun i j wr=>Aul l B g cap w i j wr) (fun i _ _=>l.length - (intOf i).toNat)
 case atStart=>exact⟨0,l,by omega,rfl,by simp,hr,fun q h=>by rw[if_neg (by omega)],Touch.refl _ _⟩
 case round =>
  clear hr;obtain⟨k,f,hk,rfl,rfl,hr,hq,ht⟩:=hrel;by_cases hlt:2 * k+1 < l.length
  ·obtain⟨m,hm⟩:∃m:Nat,(l.length:Int) - 1 - k=m:=⟨l.length - 1 - k,by omega⟩;have hm2:m=l.length - 1 - k:=by omega
   rw[hm];have c1:=hr.cell k (by omega);have c2:=hr.cell m (by omega);have f1:=hr.thawed k;have f2:=hr.thawed m;have vk:k≠m:=by omega
   have hq1:=hq k (by omega);have hq2:=hq m (by omega);rw[if_neg (by omega)] at hq1 hq2;rw[hq1] at c1;rw[hq2] at c2;have HR:=Lib.hid hr;have HQ:=Lib.hid hq;have HT:=Lib.hid ht;have H1:=Lib.hid hq1;have H2:=Lib.hid hq2;clear hr hq ht hq1 hq2;have hlen:m < l.length:=by omega
   have hlen1:k < l.length:=by omega
   have hkm2:(k:Int) < m:=by omega
   have HM:=Lib.hid hm2;clear hm hm2;generalize e1:Ad l k=xk at *;generalize e2:Ad l m=xm at *;have E1:=Lib.hid e1;have E2:=Lib.hid e2;clear e1 e2
   go_wp2_with fail
   go_region
   clear c1 c2 f1 f2;go_wp2
   go_roundw
   case rel =>
    have cu:=HM.out;have hfl:f.length=l.length:=HR.out.2;have t:Touch (fun q=>q=g) wr ((wr.setCell ⟨g,k,none⟩ (U8 xm)).setCell ⟨g,m,none⟩ (U8 xk)).drew:=by
     have t1:Touch (fun q=>q=g) wr (wr.setCell ⟨g,k,none⟩ (U8 xm)):=Touch.set wr g k _ rfl;have t2:Touch (fun q=>q=g) (wr.setCell ⟨g,k,none⟩ (U8 xm)) ((wr.setCell ⟨g,k,none⟩ (U8 xm)).setCell ⟨g,m,none⟩ (U8 xk)):=Touch.set _ g m _ rfl;exact(t1.trans t2).drewN 1
    have hr2:Dz ((wr.setCell ⟨g,k,none⟩ (U8 xm)).setCell ⟨g,m,none⟩ (U8 xk)).drew B 5 g cap l.length ((f.set k xm).set m xk):=((HR.out.set k xm).set m xk).drewN 1;refine⟨k+1,(f.set k xm).set m xk,by omega,by go_num,by simp only[Value.int.injEq,true_and];omega,hr2,fun q hq=>?_,HT.out.trans t⟩;rw[L5 _ _ _ _ (by simp;omega),L5 _ _ _ _ (by omega)];by_cases hqm:q=m
    ·rw[if_pos hqm,if_pos (by omega),<- E1.out];congr 1;omega
    ·rw[if_neg hqm];by_cases hqk:q=k
     ·rw[if_pos hqk,if_pos (by omega),<- E2.out];congr 1;omega
     ·rw[if_neg hqk,HQ.out q hq];by_cases xx:q < k\/l.length - k<=q
      ·rw[if_pos xx,if_pos (by omega)]
      ·rw[if_neg xx,if_neg (by omega)]
   case measure=>simp[intOf];omega
  ·have e:f=l.reverse:=Wx (by rw[hr.2,List.length_reverse]) fun j h=>by
    have h2:j < l.length:=by rw[hr.2] at h;exact h
    have h3:Ad l.reverse j=Ad l (l.length - 1 - j):=by
     rw[Cm (by simpa using h2),List.getElem_reverse,Cm (by omega)]
    rw[hq j h2,h3];by_cases xx:j < k\/l.length - k<=j
    ·rw[if_pos xx]
    ·rw[if_neg xx];congr 1;omega
   subst e;have HR:=Lib.hid hr;have HT:=Lib.hid ht;clear hr hq ht;go_wp2;exact bodyPost_end (results_none rfl _ _ _) rfl ⟨rfl,HR.out,HT.out⟩
def beB (x:BitVec 64) (n:Nat):List (BitVec 8):=(Ts x n).reverse
theorem Ah2 (x:BitVec 64) (n:Nat) (h1:1<=n) (h8:n<=8) (w:World):Calls prog 81 #[F6 x,.int .i64 n] w fun e w' =>
  e=.returned (.slice (some ⟨w.heap.size,0,none⟩) n n)/\Dz w' w.heap.size 5 w.heap.size n n (beB x n)/\Below w.heap.size w w':=by
 have PU:=Afn x n h1 h8 w;have hl:=Gt x n;have RV:∀w',Dz w' w.heap.size 5 w.heap.size n n (Ts x n)->Calls prog 102 #[.slice (some ⟨w.heap.size,0,none⟩) n n] w' fun e w''=>e=.returned (.tuple #[])/\Dz w'' w.heap.size 5 w.heap.size n n (beB x n)/\Touch (fun q=>q=w.heap.size) w' w'':=by
  intro w' hr;have:=Ac3 (Ts x n) w.heap.size w.heap.size n w' (by omega) (by omega) (by rw[hl];exact hr);rw[hl] at this;exact this
 go_enter func81,ntmps81
 go_wp2_with fail
 refine PU.mono ?_;rintro e w1 ⟨rfl,hr,hb⟩
 go_wp2_with fail
 refine(RV _ hr).mono ?_;rintro e w2 ⟨rfl,hr2,ht⟩;go_wp2
 go_ret
 exact⟨rfl,hr2,hb.trans (ht.below (fun q e=>by omega) hb.size)⟩
theorem Sn {P:Program} (w:World) (g o:Nat) (t ty:TypeId) (cs:Array Value) (fr:Nat × Nat) (d:TypeDesc) (part:List Value) (hg:w.heap[g]?=some (.cells cs t fr)) (hp:∀j v,part[j]?=some v->cs[o+j]?=some v)
  (hu:P.underlying ty=some d) (hd:(match d with | .struct _ | .array _ _=>true|_=>false)=true) (hi:(P.info? ty).map (·.size)=some part.length) :
  (loadVar ty ⟨g,o,none⟩).run P w=.ok (.agg part.toArray) w:=by
 have hl:(loadCells ⟨g,o,none⟩ part.length).run P w=.ok part.toArray w :=
  run_loadCells_list (P:=P) w ⟨g,o,none⟩ part (fun j v hv=>by
   rw[Addr.add_lit,cell_of_row w g (o+j) cs t fr hg];exact hp j v hv)
 cases hq:P.info? ty with
 | none=>simp[hq] at hi
 | some i =>
  have hs:i.size=part.length:=by simpa [hq] using hi
  have hagg:(isAgg ty).run P w=.ok true w:=by
   unfold isAgg;rw[Sem.run_bind,run_underlying hu w];cases d<;>simp_all
  simp[loadVar,Sem.run_bind,hagg,sizeOf,typeInfo,hq,hs,hl]
theorem R9 {P:Program} {ops:Array Oper} {rest:List Oper} {o:Oper} {a:Act} {w:World} {Q:Exit->Act->World->Prop} (hgd:o.guard=none) (ty:TypeId) (x:Operand) (ho:o.op=.load ty x)
  (g off:Nat) (hx:a.eval x=.pointer (some ⟨g,off,none⟩)) (t:TypeId) (cs:Array Value) (fr:Nat × Nat) (d:TypeDesc) (part:List Value) (hg:w.heap[g]?=some (.cells cs t fr)) (hp:∀j v,part[j]?=some v->cs[off+j]?=some v)
  (hu:P.underlying ty=some d) (hd:(match d with | .struct _ | .array _ _=>true|_=>false)=true) (hi:(P.info? ty).map (·.size)=some part.length)
  (h:wpList P ops Q rest (a.put o.dst (.agg part.toArray)) w):wpList P ops Q (o::rest) a w :=
 wpList_plain hgd fun _ hK=>by
  unfold Oper.wp execOp;simp only[ho,hx,Instr.loadAt,Instr.sureAddr,Sem.run_bind,Sem.run_pure,Result.andThen_ok,Sn w g off t ty cs fr d part hg hp hu hd hi];exact hK _ _ h
theorem Pg {P:Program} {ops:Array Oper} {rest:List Oper} {o:Oper} {a:Act} {w:World} {Q:Exit->Act->World->Prop} (hgd:o.guard=none) (ty:TypeId) (x y:Operand) (ho:o.op=.store ty x y)
  (g off:Nat) (part:List Value) (hx:a.eval x=.pointer (some ⟨g,off,none⟩)) (hy:a.eval y=.agg part.toArray)
  (t:TypeId) (old:Array Value) (hg:w.heap[g]?=some (.cells old t (0,0))) (hi:(P.info? ty).map (·.size)=some part.length)
  (hfit:off+part.length<=old.size) (h1:∀v∈part,v.oneCell'=true)
  (h:wpList P ops Q rest (a.put o.dst undef) (w.setRow g (old.toList.take off++part++old.toList.drop (off+part.length)).toArray)):wpList P ops Q (o::rest) a w :=
 wpList_plain hgd fun _ hK=>by
  have hst:=run_storeCells_at P g off t part 0 old w hg (by omega) h1;simp only[Nat.add_zero] at hst;have zf:(storeVar ty ⟨g,off,none⟩ (.agg part.toArray)).run P w=.ok () (w.setRow g (old.toList.take off++part++old.toList.drop (off+part.length)).toArray):=by
   cases hq:P.info? ty with
   | none=>simp[hq] at hi
   | some i =>
    have hs:part.length=i.size:=by simp[hq] at hi;omega
    simp[storeVar,sizeOf,typeInfo,hq,Value.cells,hs];rw[<- hs,<- List.append_assoc];exact hst
  unfold Oper.wp execOp;simp only[ho,hx,hy,Instr.storeAt,Instr.sureAddr,Sem.run_bind,Sem.run_pure,Result.andThen_ok,zf];exact hK _ _ h
def Fa (m:Bool) (f:Bv) (v:Value) (n:Int):List Value:=.bool m::(f.map Af++[v,.int .i64 n])
structure Lc (w:World) (b:Nat) (m:Bool) (f:Bv) (v:Value) (n:Int):Prop where
 row:w.heap[b]?=some (.cells (Fa m f v n).toArray 135 (0,0))
 len:f.length=8
section
variable {w w':World} {b:Nat} {m:Bool} {f:Bv} {v:Value} {n:Int}
theorem Lc.lt (h:Lc w b m f v n):b < w.heap.size:=Dk h.row
theorem Lc.made (h:Lc w b m f v n):w.cell? ⟨b,0,none⟩=some (.bool m):=by
 rw[cell_of_row w b 0 _ _ _ h.row];rfl
theorem Lc.rest (h:Lc w b m f v n):w.cell? ⟨b,9,none⟩=some v:=by
 rw[cell_of_row w b 9 _ _ _ h.row];have:=h.len
 match f,this with
 | [_,_,_,_,_,_,_,_],_=>rfl
theorem Lc.n_ (h:Lc w b m f v n):w.cell? ⟨b,10,none⟩=some (.int .i64 n):=by
 rw[cell_of_row w b 10 _ _ _ h.row];have:=h.len
 match f,this with
 | [_,_,_,_,_,_,_,_],_=>rfl
theorem Lc.thawed (h:Lc w b m f v n) (o:Nat):w.frozen? ⟨b,o,none⟩=false:=by simp[World.frozen?,h.row]
theorem Lc.part (h:Lc w b m f v n) (j:Nat) (x:Value) (hx:(f.map Af)[j]?=some x):(Fa m f v n).toArray[1+j]?=some x:=by
 have hj:j < f.length:=by
  have:=(List.getElem?_eq_some_iff.1 hx).1;simpa using this
 rw[List.getElem?_toArray,Fa,Nat.add_comm,List.getElem?_cons_succ,List.getElem?_append_left (by simpa using hj)];exact hx
theorem Lc.touch {F:Nat->Prop} (h:Lc w b m f v n) (t:Touch F w w') (hn:¬F b):Lc w' b m f v n:=⟨by rw[t.block b h.lt hn];exact h.row,h.len⟩
theorem Lc.below (h:Lc w b m f v n) (hb:Below w.heap.size w w'):Lc w' b m f v n:=h.touch (F:=fun _=>False) (.of_below hb) fun e=>e
theorem Lc.drewN (h:Lc w b m f v n) (j:Nat):Lc (w.drewN j) b m f v n:=⟨h.row,h.len⟩
theorem Lc.setRest (h:Lc w b m f v n) (u:Value):Lc (w.setCell ⟨b,9,none⟩ u) b m f u n:=by
 refine⟨?_,h.len⟩;rw[setCell_eq_setRow w b 9 _ _ _ u h.row,setRow_heap w b _ _ _ _ h.row];have:=h.len
 match f,this with
 | [_,_,_,_,_,_,_,_],_=>rfl
theorem Lc.setN (h:Lc w b m f v n) (k:Int):Lc (w.setCell ⟨b,10,none⟩ (.int .i64 k)) b m f v k:=by
 refine⟨?_,h.len⟩;rw[setCell_eq_setRow w b 10 _ _ _ (.int .i64 k) h.row,setRow_heap w b _ _ _ _ h.row];have:=h.len
 match f,this with
 | [_,_,_,_,_,_,_,_],_=>rfl
theorem Lc.setState (h:Lc w b m f v n) (g:Bv) (hg:g.length=8) :
  Lc (w.setRow b ((Fa m f v n).toArray.toList.take 1++g.map Af++(Fa m f v n).toArray.toList.drop (1+(g.map Af).length)).toArray) b m g v n:=by
 refine⟨?_,hg⟩;rw[setRow_heap w b _ _ _ _ h.row];have:=h.len
 match f,this,g,hg with
 | [_,_,_,_,_,_,_,_],_,[_,_,_,_,_,_,_,_],_=>rfl
end
theorem Aif (f:Bv):∀x∈f.map Af,x.oneCell'=true:=fun x hx=>by obtain⟨y,_,rfl⟩:=List.mem_map.1 hx;rfl
section
variable {ops:Array Oper} {rest:List Oper} {o:Oper} {a:Act} {w:World} {Q:Exit->Act->World->Prop} {b:Nat} {m:Bool} {f:Bv} {v:Value} {n:Int}
theorem Es (h:Lc w b m f v n) (hgd:o.guard=none) (x:Operand) (ho:o.op=.load 132 x) (hx:a.eval x=.pointer (some ⟨b,1,none⟩))
  (hK:wpList prog ops Q rest (a.put o.dst (.agg (Bu f))) w):wpList prog ops Q (o::rest) a w:=by
 have hag:(prog.info? 132).map (·.size)=some (f.map Af).length:=by rw[List.length_map,h.len];kernel_rfl
 exact R9 hgd 132 x ho b 1 hx _ _ _ _ (f.map Af) h.row (fun j v hv=>h.part j v hv) underlying132 rfl hag hK
theorem Fo (h:Lc w b m f v n) (g:Bv) (hg:g.length=8) (hgd:o.guard=none) (x y:Operand) (ho:o.op=.store 132 x y) (hx:a.eval x=.pointer (some ⟨b,1,none⟩)) (hy:a.eval y=.agg (Bu g))
  (hK:∀w',Lc w' b m g v n->Touch (fun q=>q=b) w w'->wpList prog ops Q rest (a.put o.dst undef) w'):wpList prog ops Q (o::rest) a w:=by
 have hag:(prog.info? 132).map (·.size)=some (g.map Af).length:=by rw[List.length_map,hg];kernel_rfl
 have hfit:1+(g.map Af).length<=(Fa m f v n).toArray.size:=by rw[List.length_map,hg];simp[Fa,h.len]
 exact Pg hgd 132 x y ho b 1 (g.map Af) hx hy _ _ h.row hag hfit (Aif g) (hK _ (h.setState g hg) (Touch.setRow _ _ _ rfl))
end
theorem Vp {w:World} {b:Nat} {m:Bool} {f:Bv} {v:Value} {n:Int} (h:Lc w b m f v n) :
  Calls prog 78 #[.pointer (some ⟨b,0,none⟩)] w fun e w'=>e=.returned (.bool m)/\w=w':=by
 have c0:=h.made
 go_enter func78,ntmps78
 go_wp2
 go_ret
 exact⟨rfl,rfl⟩
theorem Ala (w:World):Calls prog 77 #[] w fun e w'=>e=.returned (.agg (Bu Sha.begin.list))/\Below w.heap.size w w':=by
 obtain⟨z8,zb,jm⟩:=Od;obtain⟨L,hL⟩:∃L:Bv,L=Sha.begin.list:=⟨_,rfl⟩;have y7:L.length=8:=by rw[hL];rfl
 have qw:Program.built prog 132 [(0,.int .u32 1779033703),(1,.int .u32 3144134277),(2,.int .u32 1013904242),(3,.int .u32 2773480762),(4,.int .u32 1359893119),(5,.int .u32 2600822924),(6,.int .u32 528734635),(7,.int .u32 1541459225)]=some (Bu L):=by rw[hL];kernel_rfl
 rw[<- hL];clear hL;have fc:(prog.info? 132).map (·.size)=some (Bu L).size:=by rw[Bi,y7];kernel_rfl
 have hsz:(Bu z8).size=(Bu L).size:=by rw[Bi,Bi,y7,jm]
 have hov:=Hu L
 go_enter func77,ntmps77
 go_wp2_with (with_reducible refine Li ?roundEnd)
 refine Hp rfl 132 _ rfl (Bu L) ?hb0 ?nx1
 case hb0=>go_simp
 clear qw;have h3:(w.alloc (.cells (Bu z8) 132)).heap[w.heap.size]?=some (.cells (Bu z8) 132 (0,0)):=Aw.new w 132 z8;have h4:Aw ((w.alloc (.cells (Bu z8) 132)).setRow w.heap.size (Bu L)) w.heap.size 132 L:=(Aw.new w 132 z8).row L;have t:Touch (fun q=>q=w.heap.size) w ((w.alloc (.cells (Bu z8) 132)).setRow w.heap.size (Bu L)):=((Touch.refl _ _).alloc _).trans (Touch.setRow _ _ _ rfl)
 go_wp2_with (refine wpList_store_row rfl 132 _ _ rfl w.heap.size (Bu L) rfl rfl _ (Bu z8) h3 fc hsz hov ?_)
 refine bodyPost_ret (results_cell_row rfl _ _ w.heap.size _ (Bu L) _ _ rfl h4 underlying132 rfl fc) rfl ?_;exact⟨rfl,t.below (fun q e=>by omega) (Nat.le_refl _)⟩
structure Nf (w:World) (B b:Nat) (v:Value) (l:List (BitVec 8)):Prop where
 at_:Lc w b true (Sha.held l).list v l.length
 own:C6 w B 5 v (Sha.left l)
 vb:v.ownBlock≠some b
 low:B<=b
theorem Arb (w:World):Calls prog 42 #[] w fun e w'=>∃b,e=.returned (.pointer (some ⟨b,0,none⟩))/\w.heap.size<=b/\Nf w' w.heap.size b (.slice none 0 0) []/\Below w.heap.size w w':=by
 have BG:=Ala w;obtain⟨L,hL⟩:∃L:Bv,L=Sha.begin.list:=⟨_,rfl⟩;have qw:Program.built prog 135 [(0,.bool true),(1,.agg (Bu L))]=some (Fa true L (.slice none 0 0) 0).toArray:=by rw[hL];kernel_rfl
 rw[<- hL] at BG;obtain⟨C,hC⟩:∃C,C=(Fa true L (.slice none 0 0) 0).toArray:=⟨_,rfl⟩;rw[<- hC] at qw;have HC:=Lib.hid hC;clear hC;have y7:L.length=8:=by rw[hL];rfl
 have HL:=Lib.hid hL;clear hL
 go_enter func42,ntmps42
 go_wp2_with fail
 refine BG.mono ?_;rintro e w2 ⟨rfl,hb2⟩;clear BG
 go_wp2_with (with_reducible refine Li ?roundEnd)
 refine Hp rfl 135 _ rfl C ?hb0 ?nx1
 case hb0=>go_simp
 clear qw;go_wp2
 go_ret
 have t:Touch (fun _=>False) w2 (w2.alloc (.cells C 135)):=(Touch.refl _ _).alloc _;have hb:=hb2.size;have h0:(Sha.held []).list=Sha.begin.list:=rfl;refine⟨_,rfl,hb,⟨⟨?_,by rw[h0,<- HL.out];exact y7⟩,Ij _ _ _,by simp[Value.ownBlock],hb⟩,hb2.trans (t.below (fun _ e=>e.elim) hb)⟩;rw[h0,<- HL.out,show (([]:List (BitVec 8)).length:Int)=0 from rfl,<- HC.out];exact heap_alloc_new w2 _
theorem Agy (w:World):Calls prog 80 #[.slice none 0 0] w fun e w'=>e=.returned (.slice none 0 0)/\w=w':=by
 have hn:=run_eql_slice_nil (P:=prog) w 37 5 none 0 0 Ay.slice
 go_enter func80,ntmps80
 go_wp2
 go_ret
 exact⟨rfl,rfl⟩
theorem Agx (ad:Addr) (cap:Nat) (l:List (BitVec 8)) (w:World) (hr:A0 w (some ad) cap l) (hl:l.length<=1048576) :
  Calls prog 80 #[.slice (some ad) l.length cap] w fun e w'=>∃v,e=.returned v/\C6 w' w.heap.size 5 v l/\Below w.heap.size w w':=by
 have hn:=run_eql_slice_nil (P:=prog) w 37 5 (some ad) l.length cap Ay.slice;rw[show (some ad).isNone=false from rfl] at hn;have ho:C6 (w.alloc (.cells #[] 5)) w.heap.size 5 (.slice (some ⟨w.heap.size,0,none⟩) 0 0) [] :=
  World.ownsRow_lit w (e:=5) (size:=1) #[] 0 (Nat.le_refl _) (by unfold maxLen;omega) rfl
 have hr2:=hr.keeps (Bm.alloc w (.cells #[] 5));have hsz:w.heap.size<=(w.alloc (.cells #[] 5)).heap.size:=by simp
 have hlen:([]:List (BitVec 8)).length+l.length<=140737488355328:=by simp;omega
 have t1:Touch (fun q=>w.heap.size<=q) w (w.alloc (.cells #[] 5)):=(Touch.refl _ _).alloc _
 go_enter func80,ntmps80
 go_wp2_with (at_builtin;refine As Ay rfl _ _ rfl w.heap.size _ [] rfl ho (some ad) cap l rfl hr2 hlen hsz ?_;intro v w5 cj lj _)
 go_ret
 refine⟨v,rfl,cj,?_⟩;have t2:Touch (fun q=>w.heap.size<=q) (w.alloc (.cells #[] 5)) w5:=.of_grown lj fun k hk=>by
  injection hk with hk;rw[<- hk];exact Nat.le_refl _
 exact(t1.trans t2).below (fun q e=>e) (Nat.le_refl _)
theorem S6 (a:Option Addr) (cap:Nat) (l:List (BitVec 8)) (w:World) (hr:A0 w a cap l) (hl:l.length<=1048576) :
  Calls prog 80 #[.slice a l.length cap] w fun e w'=>∃v,e=.returned v/\C6 w' w.heap.size 5 v l/\Below w.heap.size w w':=by
 cases a with
 | some ad=>exact Agx ad cap l w hr hl
 | none =>
  obtain rfl:=hr.null rfl;obtain rfl:l=[]:=List.eq_nil_of_length_eq_zero (by have:=hr.fits;omega);exact(Agy w).mono fun e w' h=>⟨_,h.1,h.2 ▸ Ij _ _ _,h.2 ▸ Below.refl _ _⟩
theorem Sha.blocks_succ:∀(k:Nat) (s:Sha.St) (l:List (BitVec 8)),Sha.blocks (k+1) s l=Sha.take (Sha.blocks k s l) ((l.drop (64 * k)).take 64)
 | 0,s,l=>rfl
 | k+1,s,l=>by
  rw[Sha.blocks,Sha.blocks_succ k,List.drop_drop,show 64+64 * k=64 * (k+1) by omega];rfl
theorem C2.touch {F:Nat->Prop} {w w':World} (h:C2 w) (t:Touch F w w') (hn:¬F 0):C2 w':=fun i hi=>t.cell (h i hi) hn
theorem A0.touch' {F:Nat->Prop} {w w':World} {a:Option Addr} {cap:Nat} {l:List (BitVec 8)} (h:A0 w a cap l) (t:Touch F w w') (hn:l≠[]->∀ad,a=some ad->¬F ad.block):A0 w' a cap l:=by
 by_cases e:l=[]
 ·exact⟨h.fits,h.room,h.null,.inl e⟩
 ·exact t.reads h (hn e)
theorem Gw {g off cap n:Nat} {ad:Addr} (e:Cf (some ⟨g,off,none⟩) cap n=some ad):ad.block=g:=by
 unfold Cf at e;split at e
 ·injection e with e;rw[<- e]
 ·rw[Option.map_some,Addr.add_lit] at e;injection e with e;rw[<- e]
def Aev (b:Nat) (s0:Sha.St) (vv:Value) (N:Int) (m:List (BitVec 8)) (w:World) (x:Value) (wr:World):Prop :=
 ∃(k:Nat) (a:Option Addr) (cap:Nat),64 * k<=m.length/\x=.slice a (m.length - 64 * k) cap/\A0 wr a cap (m.drop (64 * k))/\(m≠[]->∀ad,a=some ad->ad.block≠b) /\
  Lc wr b true (Sha.blocks k s0 m).list vv N/\Touch (fun q=>q=b) w wr
def Ah7 (B b:Nat) (v:Value) (l m:List (BitVec 8)) (w:World) (e:Ending) (w':World):Prop :=
 ∃v',e=.returned (.tuple #[])/\Nf w' B b v' (l++m)/\Touch (fun q=>q=b\/v.ownBlock=some q) w w'/\∀q,v'.ownBlock=some q->v.ownBlock=some q\/w.heap.size<=q
theorem Ad9 {w:World} {B b:Nat} {v:Value} {l:List (BitVec 8)} (h:Nf w B b v l) (hB:B<=w.heap.size) (h0:0 < B) (hk:C2 w) (hl:Sha.left l=[])
  (a:Option Addr) (cap:Nat) (m:List (BitVec 8)) (hr:A0 w a cap m) (hlm:l.length+m.length<=1048576) (hoff:m≠[]->∀ad,a=some ad->ad.block≠b) :
  Calls prog 43 #[.pointer (some ⟨b,0,none⟩),.slice a m.length cap] w (Ah7 B b v l m w):=by
 have bj:=h.low;have OK:=Vp h.at_;have cN:=h.at_.n_;have fN:=h.at_.thawed 10;have h1:=h.at_.setN ((l.length:Int)+m.length);have c9:=h1.rest;have t1:Touch (fun q=>q=b) w (w.setCell ⟨b,10,none⟩ (.int .i64 ((l.length:Int)+m.length))):=Touch.set w b 10 _ rfl;have hv:∃a' cap',v=.slice a' 0 cap':=by obtain⟨a',cap',e,_⟩:=h.own.reads;rw[hl] at e;exact⟨a',cap',e⟩
 obtain⟨a',cap',rfl⟩:=hv;have hr1:=hr.touch' t1 hoff;have HH:=Lib.hid h;have HK:=Lib.hid hk;have HHL:=Lib.hid (Sha.held_append l m);have HLL:=Lib.hid (Sha.left_append l m);clear h hk;generalize Sha.held l=s0 at *
 go_enter func43,ntmps43
 go_wp2_with fail
 refine OK.mono ?_;rintro e w' ⟨rfl,rfl⟩;clear OK
 go_wp2_with fail
 have T1:=Lib.hid t1;clear cN fN c9 hr t1;generalize w.setCell ⟨b,10,none⟩ (.int .i64 ((l.length:Int)+m.length))=w1 at *
 go_loopw [1] (fun x wr=>Aev b s0 (.slice a' 0 cap') ((l.length:Int)+m.length) m w1 x wr) (fun x _=>match x with | .slice _ n _=>n|_=>0)
 case atStart=>exact⟨0,a,cap,by omega,rfl,hr1,hoff,h1,Touch.refl _ _⟩
 case round =>
  clear h1 hr1;obtain⟨k,a1,c1,hk64,rfl,hr2,hof,hat,ht⟩:=hrel;have hpl:(m.drop (64 * k)).length=m.length - 64 * k:=List.length_drop;by_cases hlt:64 * k+64<=m.length
  ·have hne:m.drop (64 * k)≠[]:=fun e=>by rw[e] at hpl;simp at hpl;omega
   obtain⟨g,off,rfl,gy⟩:∃g off,a1=some ⟨g,off,none⟩/\Bf wr g off (m.drop (64 * k)):=hr2.bytes.resolve_left hne;have hm0:m≠[]:=fun e=>by rw[e] at hne;simp at hne
   have hgb:g≠b:=hof hm0 _ rfl;have hfit:=hr2.fits;have hroom:=hr2.room;have iu:((m.drop (64 * k)).take 64).length=64:=by rw[List.length_take,hpl];omega
   have hbs:=Sha.blocks_succ k s0 m;have hr3:=hr2.drop 64 (by rw[hpl];omega);rw[List.drop_drop,show 64 * k+64=64 * (k+1) by omega] at hr3;rw[hpl] at hfit;have hs1:=fun w=>Gb (P:=prog) Ay w (some ⟨g,off,none⟩) (m.length - 64 * k) c1 .i64 64 64 rfl (by omega);have hs2:=fun w=>Ey (P:=prog) Ay w (some ⟨g,off,none⟩) (m.length - 64 * k) c1 .i64 64 64 rfl (by omega);have qz:=gy.take 64;generalize hp:(m.drop (64 * k)).take 64=p at *;generalize hs:Sha.blocks k s0 m=s at *;have hkr:C2 wr:=(HK.out.touch T1.out (show ¬(0=b) by omega)).touch ht (show ¬(0=b) by omega);have TK:=fun w' (hx:Bf w' g off p) (hy:C2 w')=>Pn s g off c1 p w' iu (by omega) (by omega) hx hy;have bp:Lc wr.drew b true s.list (.slice a' 0 cap') ((l.length:Int)+m.length):=hat.drewN 1;have jc:Bf wr.drew g off p:=qz;have hk1:C2 wr.drew:=hkr;have HP:=Lib.hid hp;have HS:=Lib.hid hs;have HBS:=Lib.hid hbs;have HT:=Lib.hid ht;have HR3:=Lib.hid hr3;have HOF:=Lib.hid hof;have sf:(64:Int)<=((m.length - 64 * k:Nat):Int):=by omega
   clear hp hs hbs ht hr2 hr3 hof hat gy qz hkr hne hpl;generalize mo:m.length - 64 * k=q at *;have HQ:=Lib.hid mo;clear mo
   go_wp2_with fail
   refine B7 [([0,1,2,3,5,6],some 4),([],some 7),([8,9],some 10),([],none)] (fun _=>True) (by kernel_rfl) (by kernel_rfl) (fun _ _ d _ _ h=>by cases d<;>exact h) trivial ?_;refine Bb (show wpQuiet _ _ _ _ (_::_::_::_::_::_::[]) _ from ?_)
   repeat (go_big_quiet_step (fail))
   refine wpQuiet_nil (show wpList _ _ _ (_::[]) _ _ from ?_);have hid:Touch (fun q=>q=b) wr wr.drew:=(Touch.refl _ _).drewN 1;generalize wr.drew=w6 at *;have HID:=Lib.hid hid;clear hid
   go_wp2_with (refine Es bp rfl _ rfl rfl ?_)
   refine Ap (fun _ h=>h) trivial ?_;refine Bb (show wpQuiet _ _ _ _ [] _ from ?_);refine wpQuiet_nil (show wpList _ _ _ (_::[]) _ _ from ?_)
   go_wp2_with fail
   refine(TK w6 jc hk1).mono ?_;rintro e w7 ⟨rfl,gz⟩;have dz:=bp.below gz;have ry:(Sha.take s p).list.length=8:=rfl;generalize Sha.take s p=s' at *;have HB7:=Lib.hid gz;clear TK jc hk1 bp gz
   go_wp2_with fail
   refine Ap (fun _ h=>h) trivial ?_;refine Bb (show wpQuiet _ _ _ _ (_::_::[]) _ from ?_)
   repeat (go_big_quiet_step (fail))
   refine wpQuiet_nil (show wpList _ _ _ (_::[]) _ _ from ?_)
   go_wp2_with (refine Fo dz s'.list ry rfl _ _ rfl rfl rfl ?_;intro w8 qi t8)
   refine Ap (fun _ h=>h) trivial ?_;refine Dy (show wpQuiet _ _ _ _ [] _ from ?_);refine wpQuiet_nil ?_;refine Ez ?_;have HTT:=Lib.hid ((HID.out.trans (.of_below HB7.out)).trans t8);have HA:=Lib.hid qi;clear dz qi t8;go_wp2
   go_roundw
   case rel =>
    have hq:=HQ.out;refine⟨k+1,_,_,by omega,?_,(HR3.out.touch' HTT.out fun hne ad e=>?_),fun hne ad e=>?_,?_,HT.out.trans HTT.out⟩
    ·rw[show m.length - 64 * (k+1)=q - 64 by omega]
    ·rw[Gw e];exact hgb
    ·rw[Gw e];exact hgb
    ·rw[HBS.out];exact HA.out
   case measure=>simp;omega
  ·have vh:m.length / 64=k:=by omega
   have CL:=S6 a1 c1 (m.drop (64 * k)) wr hr2 (by rw[hpl];omega);rw[hpl] at CL;have hlt2:((m.length - 64 * k:Nat):Int) < 64:=by omega
   generalize hd:m.drop (64 * k)=d at *;generalize hs:Sha.blocks k s0 m=s at *;have HD:=Lib.hid hd;have HS:=Lib.hid hs;have HA:=Lib.hid hat;have HT:=Lib.hid ht;have HKQ:=Lib.hid vh;clear hd hs hat ht vh hr2 hof hpl hlt;generalize mo:m.length - 64 * k=q at *;clear mo
   go_wp2_with fail
   refine CL.mono ?_;rintro e w5 ⟨vv,rfl,cj,bo⟩;have fe:=HA.out.below bo;have f9:=fe.thawed 9;have c9:=fe.rest;obtain⟨a5,c5,rfl,_⟩:=cj.reads;have HO:=Lib.hid cj;have HB5:=Lib.hid bo;have HA5:=Lib.hid fe;have HA6:=Lib.hid (fe.setRest (.slice a5 d.length c5));clear cj bo fe CL;go_wp2;refine bodyPost_end (results_none rfl _ _ _) rfl ?_;have hown:∀q,(Value.slice a5 d.length c5).ownBlock=some q->wr.heap.size<=q:=fun q hq=>(Dm HO.out hq).1;have hbl:=HA.out.lt;have hs1:=T1.out.size;have hs2:=HT.out.size;have t6:Touch (fun q=>q=b) w5 (w5.setCell ⟨b,9,none⟩ (.slice a5 d.length c5)):=Touch.set w5 b 9 _ rfl;have hh:=HHL.out;have hl2:=HLL.out;rw[hl,List.nil_append,List.length_nil,Nat.zero_add,HKQ.out] at hh hl2;rw[HS.out] at hh;rw[HD.out] at hl2;refine⟨_,rfl,⟨?_,?_,?_,bj⟩,?_,fun q hq=>.inr (by have:=hown q hq;omega)⟩
   ·rw[hh,List.length_append,Int.natCast_add];exact HA6.out
   ·rw[hl2];exact(t6.owns HO.out fun q hq e=>by have:=hown q hq;omega).mono (by omega)
   ·intro e;have:=hown b e;omega
   ·have:=((T1.out.trans HT.out).trans (.of_below HB5.out)).trans t6;exact this.mono fun q e=>.inl e
theorem Abk {w:World} {B b:Nat} {v:Value} {l:List (BitVec 8)} (h:Nf w B b v l) (hB:B<=w.heap.size) (hl:Sha.left l≠[])
  (a:Option Addr) (cap:Nat) (m:List (BitVec 8)) (hr:A0 w a cap m) (hlm:l.length+m.length<=1048576) (hoff:m≠[]->∀ad,a=some ad->ad.block≠b/\v.ownBlock≠some ad.block) (hs:(Sha.left l).length+m.length < 64) :
  Calls prog 43 #[.pointer (some ⟨b,0,none⟩),.slice a m.length cap] w (Ah7 B b v l m w):=by
 have bj:=h.low;have OK:=Vp h.at_;have cN:=h.at_.n_;have fN:=h.at_.thawed 10;have h1:=h.at_.setN ((l.length:Int)+m.length);have c9:=h1.rest;have f9:=h1.thawed 9;have t1:Touch (fun q=>q=b) w (w.setCell ⟨b,10,none⟩ (.int .i64 ((l.length:Int)+m.length))):=Touch.set w b 10 _ rfl;have hvb:=h.vb;have hr1:=hr.touch' t1 fun hm ad e=>(hoff hm ad e).1;have i6:=t1.owns h.own fun q hq e=>hvb (by rw[hq,e]);have fy:=Sha.held_append l m;have hleft:=Sha.left_append l m;rw[Nat.div_eq_of_lt hs] at fy hleft;generalize Sha.left l=r at *;generalize Sha.held l=s0 at *;have hvf:∃c a',v=.slice a' r.length c:=by obtain⟨a',cap',e,_⟩:=i6.reads;exact⟨cap',a',e⟩
 obtain⟨cap',a',rfl⟩:=hvf;have HH:=Lib.hid h;have HHL:=Lib.hid fy;have HLL:=Lib.hid hleft;clear h fy hleft;have ux:0 < r.length:=List.length_pos_iff.2 hl;have hr0':(0:Int) < r.length:=by omega
 have hmin:min (64 - (r.length:Int)) m.length=m.length:=by omega
 go_enter func43,ntmps43
 go_wp2_with fail
 refine OK.mono ?_;rintro e w' ⟨rfl,rfl⟩;clear OK
 go_wp2_with fail
 have hs1:=fun w=>Gb (P:=prog) Ay w a m.length cap .i64 m.length m.length rfl hr.fits;have hs2:=fun w=>Ey (P:=prog) Ay w a m.length cap .i64 m.length m.length rfl (Nat.le_refl _);rw[Nat.sub_self] at hs2;clear cN fN;generalize w.setCell ⟨b,10,none⟩ (.int .i64 ((l.length:Int)+m.length))=w1 at *;refine B7 [([0,1,2,3,5,6,7],some 4),([],some 8),([9,10],some 11),([],none)] (fun _=>True) (by kernel_rfl) (by kernel_rfl) (fun _ _ d _ _ h=>by cases d<;>exact h) trivial ?_;refine Bb (show wpQuiet _ _ _ _ (_::_::_::_::_::_::_::[]) _ from ?_)
 repeat (go_big_quiet_step (fail))
 refine wpQuiet_nil (show wpList _ _ _ (_::[]) _ _ from ?_);have hid:Touch (fun q=>q=b) w1 w1.drew:=(Touch.refl _ _).drewN 1;have d1:Lc w1.drew b true s0.list (.slice a' r.length cap') ((l.length:Int)+m.length):=h1.drewN 1;have e9:w1.drew.cell? ⟨b,9,none⟩=some (.slice a' r.length cap'):=c9;have ro:A0 w1.drew a cap m:=hr1.keeps (Bm.drewN w1 1);have oo:C6 w1.drew B 5 (.slice a' r.length cap') r:=i6;have hz:B<=w1.drew.heap.size:=Nat.le_trans hB t1.size;clear h1 c9 hr1 i6 f9;generalize w1.drew=w6 at *
 go_wp2_with fail
 refine Ap (fun _ h=>h) trivial ?_;refine Bb (show wpQuiet _ _ _ _ [] _ from ?_);refine wpQuiet_nil (show wpList _ _ _ (_::[]) _ _ from ?_);have hlen:r.length+m.length<=140737488355328:=by omega
 go_wp2_with (at_builtin;refine As Ay rfl _ _ rfl B (.slice a' r.length cap') r rfl oo a cap m rfl ro hlen hz ?_;intro v' w7 i5 vw gz)
 refine Ap (fun _ h=>h) trivial ?_;refine Bb (show wpQuiet _ _ _ _ (_::_::[]) _ from ?_)
 repeat (go_big_quiet_step (fail))
 refine wpQuiet_nil (show wpList _ _ _ (_::[]) _ _ from ?_);have t7:Touch (fun q=>(Value.slice a' r.length cap').ownBlock=some q) w6 w7:=.of_grown vw fun k hk=>hk;have d7:=d1.touch t7 hvb;have f9:=d7.thawed 9;have c9:=d7.rest;have mg:(r++m).length < 64:=by rw[List.length_append];exact hs
 obtain⟨x,hx⟩:∃x,r++m=x:=⟨_,rfl⟩;rw[hx] at i5 mg;obtain⟨a7,c7,rfl,_⟩:=i5.reads;have hx8:(x.length:Int) < 64:=by omega
 have d8:=d7.setRest (.slice a7 x.length c7);have e9:=d8.rest;have t8:Touch (fun q=>q=b) w7 (w7.setCell ⟨b,9,none⟩ (.slice a7 x.length c7)):=Touch.set w7 b 9 _ rfl;have HX:=Lib.hid hx;have HO:=Lib.hid i5;have HD:=Lib.hid d8;clear hx i5 d8 d7 vw mg
 go_wp2_with fail
 refine Ap (fun _ h=>h) trivial ?_;refine Dy (show wpQuiet _ _ _ _ [] _ from ?_);refine wpQuiet_nil ?_;refine Ez ?_;generalize w7.setCell ⟨b,9,none⟩ (.slice a7 x.length c7)=w8 at *;go_wp2;refine bodyPost_end (results_none rfl _ _ _) rfl ?_;have hh:=HHL.out;have hl2:=HLL.out;rw[show Sha.blocks 0 s0 (r++m)=s0 from rfl] at hh;rw[Nat.mul_zero,List.drop_zero,HX.out] at hl2;have hvb7:(Value.slice a7 x.length c7).ownBlock≠some b:=by
  rcases gz with e|e
  ·rw[e];exact hvb
  ·rw[e];intro e2;injection e2 with e2;have:=d1.lt;omega
 have hsz1:=t1.size;have xf:=hid.size;refine⟨_,rfl,⟨?_,?_,hvb7,bj⟩,?_,fun q hq=>?_⟩
 ·rw[hh,List.length_append,Int.natCast_add];exact HD.out
 ·rw[hl2];exact t8.owns HO.out fun q hq e=>hvb7 (by rw[hq,e])
 ·exact(((t1.mono fun q e=>.inl e).trans (hid.mono fun q e=>.inl e)).trans (t7.mono fun q e=>.inr e)).trans (t8.mono fun q e=>.inl e)
 ·rcases gz with e|e
  ·left;rw[<- e];exact hq
  ·right;rw[e] at hq;injection hq with hq;omega
end Go.Proofs.YtbicafgmfgdckaaGreatDoor
