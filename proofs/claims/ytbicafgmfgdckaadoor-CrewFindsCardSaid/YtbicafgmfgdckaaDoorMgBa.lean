/- Worlds that part in some blocks alone; slices whose elements have one cell each, of the call's own: append, with the place of the new slice. For any program. Numbers as bytes and back: GetBig, Put, Reverse, Big; the reference's Put, Back, Get. Arrays of words in memory, whole: their cells, stores, loads. For any program. The schedule of a block: the program's. One block taken: the program's. -/
import Derived.Test.YtbicafgmfgdckaaDoorMgAz
import Derived.Maps.AppendAt
import Derived.Laws.Rows
import Derived.Laws.Tables
namespace Go.Proofs.YtbicafgmfgdckaaDoor
open Go Go.RowKit

structure Touch (F:Nat->Prop) (w w':World):Prop where
 os:w'.os=w.os
 tape:w'.tape=w.tape
 output:w'.output=w.output
 size:w.heap.size<=w'.heap.size
 block:∀k,k < w.heap.size->¬F k->w'.heap[k]?=w.heap[k]?
theorem Touch.refl (F:Nat->Prop) (w:World):Touch F w w:=⟨rfl,rfl,rfl,Nat.le_refl _,fun _ _ _=>rfl⟩
theorem Touch.trans {F:Nat->Prop} {a b c:World} (h:Touch F a b) (k:Touch F b c):Touch F a c :=
 ⟨k.os.trans h.os,k.tape.trans h.tape,k.output.trans h.output,Nat.le_trans h.size k.size,fun i hi hn=>(k.block i (Nat.lt_of_lt_of_le hi h.size) hn).trans (h.block i hi hn)⟩
theorem Touch.mono {F G:Nat->Prop} {w w':World} (h:Touch F w w') (hG:∀i,F i->G i):Touch G w w' :=
 ⟨h.os,h.tape,h.output,h.size,fun i hi hn=>h.block i hi (fun f=>hn (hG i f))⟩
theorem Touch.below {F:Nat->Prop} {B:Nat} {w w':World} (h:Touch F w w') (hF:∀k,F k->B<=k) (hB:B<=w.heap.size):Below B w w' :=
 ⟨h.os,h.tape,h.output,h.size,fun k hk=>h.block k (by omega) (fun f=>by have:=hF k f;omega)⟩
theorem Touch.of_below {F:Nat->Prop} {w w':World} (h:Below w.heap.size w w'):Touch F w w':=⟨h.os,h.tape,h.output,h.size,fun k hk _=>h.block k hk⟩
theorem Touch.of_grown {F:Nat->Prop} {row:Option Nat} {w w':World} (h:w.grownBy w' row) (hb:∀k,row=some k->F k):Touch F w w' :=
 ⟨h.os,h.tape,h.output,h.size,fun k hk hn=>h.block k hk (fun e=>hn (hb k e.symm))⟩
theorem Touch.drewN {F:Nat->Prop} {a w:World} (h:Touch F a w) (n:Nat):Touch F a (w.drewN n):=⟨h.os,h.tape,h.output,h.size,h.block⟩
theorem Touch.alloc {F:Nat->Prop} {a w:World} (h:Touch F a w) (o:Obj):Touch F a (w.alloc o) :=
 ⟨h.os,h.tape,h.output,Nat.le_trans h.size (by simp),fun k hk hn=>(Below.heap_alloc w o k (Nat.lt_of_lt_of_le hk h.size)).trans (h.block k hk hn)⟩
theorem Touch.set {F:Nat->Prop} (w:World) (b o:Nat) (v:Value) (hb:F b):Touch F w (w.setCell ⟨b,o,none⟩ v) :=
 ⟨rfl,rfl,rfl,by simp[World.setCell],fun k _ hk=>Below.heap_setCell w ⟨b,o,none⟩ v k (fun e=>hk (by rw[e];exact hb))⟩
theorem Touch.cell {F:Nat->Prop} {w w':World} (h:Touch F w w') {a:Addr} {v:Value} (hc:w.cell? a=some v) (hn:¬F a.block):w'.cell? a=some v:=by
 rw[World.cell?_of_block (w:=w) (h.block a.block (World.block_lt_of_cell? w a hc) hn)];exact hc
theorem Touch.bytes {F:Nat->Prop} {w w':World} (h:Touch F w w') {b off:Nat} {l:List (BitVec 8)} (hb:BytesAt w b off l) (hn:¬F b):BytesAt w' b off l :=
 hb.mono fun _ _ hc=>h.cell hc hn
theorem Touch.reads {F:Nat->Prop} {w w':World} (h:Touch F w w') {a:Option Addr} {cap:Nat} {l:List (BitVec 8)} (hr:Reads w a cap l) (hn:∀ad,a=some ad->¬F ad.block):Reads w' a cap l:=by
 refine⟨hr.fits,hr.room,hr.null,?_⟩
 rcases hr.bytes with e|⟨b,off,e,hb⟩
 ·exact .inl e
 ·exact .inr ⟨b,off,e,h.bytes hb (hn _ e)⟩
theorem heap_lt {w:World} {g:Nat} {x:Obj} (h:w.heap[g]?=some x):g < w.heap.size:=by
 rcases Nat.lt_or_ge g w.heap.size with h' | h'
 ·exact h'
 ·rw[Array.getElem?_eq_none h'] at h;cases h
theorem Touch.row {F:Nat->Prop} {w w':World} (h:Touch F w w') {B:Nat} {E:TypeId} {size n:Nat} {v:Value} {xs:List Value} (hr:w.ownsRow B E size v n xs) (hn:∀k,v.ownBlock=some k->¬F k):w'.ownsRow B E size v n xs:=by
 obtain⟨h1,h2⟩:=hr
 refine⟨h1,?_⟩
 rcases h2 with h2|⟨g,cap,cur,hv,hg,hh,r⟩
 ·exact .inl h2
 ·refine .inr ⟨g,cap,cur,hv,hg,?_,r⟩
  rw[h.block g (heap_lt hh) (hn g (by rw[hv];rfl))];exact hh
theorem Touch.owns {F:Nat->Prop} {w w':World} (h:Touch F w w') {B:Nat} {E:TypeId} {v:Value} {l:List (BitVec 8)} (ho:Owns w B E v l) (hn:∀k,v.ownBlock=some k->¬F k):Owns w' B E v l:=h.row ho hn
theorem row_lt {w:World} {B:Nat} {E:TypeId} {size n:Nat} {v:Value} {xs:List Value} (h:w.ownsRow B E size v n xs) {k:Nat} (hk:v.ownBlock=some k):B<=k/\k < w.heap.size:=by
 rcases h.2 with⟨rfl,_⟩|⟨g,cap,cur,rfl,hg,hh,_⟩
 ·simp[Value.ownBlock] at hk
 ·simp only[Value.ownBlock,Option.some.injEq] at hk
  subst hk
  exact⟨hg,heap_lt hh⟩
theorem row_mono {w:World} {B B':Nat} {E:TypeId} {size n:Nat} {v:Value} {xs:List Value} (h:w.ownsRow B E size v n xs) (hB:∀k,v.ownBlock=some k->B'<=k):w.ownsRow B' E size v n xs:=by
 refine⟨h.1,?_⟩
 rcases h.2 with e|⟨g,cap,cur,e,hb,r⟩
 ·exact .inl e
 ·exact .inr ⟨g,cap,cur,e,hB g (by rw[e];rfl),r⟩

structure Elem (P:Program) (t e:TypeId) (z:Value) (bytes:Nat):Prop where
 slice:P.underlying t=some (.slice e)
 info:(P.info? e).map (fun i=>(i.zero,i.size,i.bytes))=some (some z,1,bytes)
 one:z.cells.size=1
section
variable {P:Program} {t e:TypeId} {z:Value} {bytes:Nat} (T:Elem P t e z bytes) (w:World) (a:Option Addr) (len cap:Nat)
include T
end
theorem wpList_append_elem {P:Program} {w:World} {ops:Array Oper} {rest:List Oper} {o:Oper} {act:Act} {Q:Exit->Act->World->Prop} {t e:TypeId} {z:Value} {bytes:Nat} (T:Elem P t e z bytes)
  (hgd:o.guard=none) (s x:Operand) (ho:o.op=.call { callee:=.builtin .append,args:=#[s,x],argTypes:=#[t,t] })
  (B:Nat) (v:Value) (n:Nat) (xs:List Value) (hs:act.eval s=v) (hown:w.ownsRow B e 1 v n xs)
  (ad:Addr) (c:Nat) (u:Value) (hx:act.eval x=.slice (some ad) 1 c) (hu:w.cell? ad=some u) (h1:u.oneCell'=true)
  (hlen:n+1<=9223372036854775807) (hby:(n+1) * bytes<=140737488355328) (hbase:B<=w.heap.size)
  (h:∀v' w',w'.ownsRow B e 1 v' (n+1) (xs++[u])->w.grownBy w' v.ownBlock->(v'.ownBlock=v.ownBlock\/v'.ownBlock=some w.heap.size)->wpList P ops Q rest (act.put o.dst v') w'):wpList P ops Q (o::rest) act w:=by
 obtain⟨i,hi,hz0,hz1,hz2⟩:=info_parts T.info
 refine wpList_append_own_at w hgd s x t ho B e i z 1 bytes T.slice hi hz0 hz1 hz2 T.one (by decide) v n xs hs hown ad 1 c [u] hx rfl ?_ ?_ ?_ hby hbase ?_
 ·intro j y hj
  cases j with
  | zero=>simp at hj;subst hj;simpa [Addr.add] using hu
  | succ j=>simp at hj
 ·intro y hy;simp at hy;subst hy;exact h1
 ·unfold maxLen;omega
 ·intro v' w' h2 h3 _ h5
  exact h v' w' h2 h3 h5
theorem wpList_append_bytes_at {P:Program} {w:World} {ops:Array Oper} {rest:List Oper} {o:Oper} {act:Act} {Q:Exit->Act->World->Prop} {t e:TypeId} (T:ByteSlice P t e)
  (hgd:o.guard=none) (s x:Operand) (ho:o.op=.call { callee:=.builtin .append,args:=#[s,x],argTypes:=#[t,t] })
  (B:Nat) (v:Value) (l:List (BitVec 8)) (hs:act.eval s=v) (hown:Owns w B e v l)
  (a:Option Addr) (cap:Nat) (m:List (BitVec 8)) (hx:act.eval x=.slice a m.length cap) (hm:Reads w a cap m)
  (hlen:l.length+m.length<=140737488355328) (hbase:B<=w.heap.size)
  (h:∀v' w',Owns w' B e v' (l++m)->w.grownBy w' v.ownBlock->(v'.ownBlock=v.ownBlock\/v'.ownBlock=some w.heap.size)->wpList P ops Q rest (act.put o.dst v') w'):wpList P ops Q (o::rest) act w:=by
 obtain⟨i,hi,hz0,hz1,hz2⟩:=info_parts T.info
 have fin:∀v' w',w'.ownsRow B e 1 v' (l.length+m.length) (l.map U8++m.map U8)->w.grownBy w' v.ownBlock->(v'.ownBlock=v.ownBlock\/v'.ownBlock=some w.heap.size)->wpList P ops Q rest (act.put o.dst v') w':=by
  intro v' w' h1 h2 h3
  exact h v' w' (by unfold Owns;rw[List.length_append,List.map_append];exact h1) h2 h3
 by_cases hn:a=none
 ·subst hn
  have hc:=hm.null rfl
  have hm0:m=[]:=List.eq_nil_of_length_eq_zero (by have:=hm.fits;omega)
  subst hc hm0
  refine wpList_append_own_none hgd s x t ho B e i 1 T.slice hi v l.length (l.map U8) hs hown (by simpa using hx) ?_
  exact fin v w (by simpa [Owns] using hown) ⟨rfl,rfl,rfl,Nat.le_refl _,fun _ _ _=>rfl⟩ (.inl rfl)
 ·obtain⟨ad,rfl⟩:=Option.ne_none_iff_exists'.1 hn
  refine wpList_append_own_at w hgd s x t ho B e i (.int .u8 0) 1 1 T.slice hi hz0 hz1 hz2 rfl (by decide) v l.length (l.map U8) hs hown ad m.length cap (m.map U8) hx (by simp) ?_ ?_ ?_ ?_ hbase ?_
  ·intro j u hu
   rcases hm.bytes with rfl|⟨b,off,e1,hb⟩
   ·simp at hu
   ·obtain rfl:=Option.some.inj e1
    rw[List.getElem?_map] at hu
    obtain⟨c,hc,rfl⟩:=Option.map_eq_some_iff.1 hu
    obtain⟨hj,hc'⟩:=List.getElem?_eq_some_iff.1 hc
    rw[Addr.add_lit,hb j hj,byteAt_lt hj,hc']
  ·intro u hu
   obtain⟨c,_,rfl⟩:=List.mem_map.1 hu
   rfl
  ·unfold maxLen;omega
  ·omega
  ·intro v' w' h1 h2 _ h3
   exact fin v' w' h1 h2 h3

def Chunk (F:Nat->Prop) (w:World) (v:Value) (l:List (BitVec 8)):Prop:=∃a cap,v=.slice a l.length cap/\Reads w a cap l/\∀ad,a=some ad->¬F ad.block/\ad.block < w.heap.size
theorem Chunk.touch {F:Nat->Prop} {w w':World} {v:Value} {l:List (BitVec 8)} (h:Chunk F w v l) (t:Touch F w w'):Chunk F w' v l:=by
 obtain⟨a,cap,e,r,f⟩:=h
 exact⟨a,cap,e,t.reads r fun ad e=>(f ad e).1,fun ad e=>⟨(f ad e).1,Nat.lt_of_lt_of_le (f ad e).2 t.size⟩⟩
structure OwnsRows (F:Nat->Prop) (w:World) (B:Nat) (E:TypeId) (v:Value) (vs:List Value) (ls:List (List (BitVec 8))):Prop where
 row:w.ownsRow B E 1 v ls.length vs
 len:vs.length=ls.length
 out:∀k,v.ownBlock=some k->¬F k
 chunk:∀i,i < ls.length->Chunk F w (vs.getD i undef) (ls.getD i [])
 apart:∀i ad n c,i < ls.length->vs.getD i undef=.slice (some ad) n c->v.ownBlock≠some ad.block
theorem ownsRows_nil (F:Nat->Prop) (w:World) (B:Nat) (E:TypeId):OwnsRows F w B E (.slice none 0 0) [] [] :=
 ⟨World.ownsRow_nil w B E 1,rfl,fun k h=>by simp[Value.ownBlock] at h,fun i hi=>by simp at hi,fun i _ _ _ hi=>by simp at hi⟩
section
variable {F:Nat->Prop} {w w':World} {B:Nat} {E:TypeId} {v:Value} {vs:List Value} {ls:List (List (BitVec 8))}
theorem OwnsRows.touch (h:OwnsRows F w B E v vs ls) (t:Touch F w w'):OwnsRows F w' B E v vs ls :=
 ⟨t.row h.row h.out,h.len,h.out,fun i hi=>(h.chunk i hi).touch t,h.apart⟩
theorem OwnsRows.form (h:OwnsRows F w B E v vs ls):∃a cap,v=.slice a ls.length cap/\(a=none->cap=0/\ls=[])/\ls.length<=cap/\cap<=9223372036854775807:=by
 rcases h.row.2 with⟨rfl,h0⟩|⟨g,cap,cur,rfl,_,_,hn,hc,_⟩
 ·exact⟨none,0,by rw[h0],fun _=>⟨rfl,List.eq_nil_of_length_eq_zero h0⟩,by omega,by omega⟩
 ·refine⟨_,cap,rfl,fun e=>(by cases e),hn,?_⟩
  unfold maxLen at hc;omega
theorem OwnsRows.at_ (h:OwnsRows F w B E v vs ls) {i:Nat} (hi:i < ls.length) :
  ∃g cap a c,v=.slice (some ⟨g,0,none⟩) ls.length cap/\w.cell? ⟨g,i,none⟩=some (.slice a (ls.getD i []).length c)/\Reads w a c (ls.getD i [])/\∀ad,a=some ad->¬F ad.block/\ad.block < w.heap.size:=by
 rcases h.row.2 with⟨_,h0⟩|⟨g,cap,cur,rfl,_,hg,hn,hc,hs,ht⟩
 ·omega
 ·obtain⟨a,c,e,r,f⟩:=h.chunk i hi
  refine⟨g,cap,a,c,rfl,?_,r,f⟩
  have:=h.row.cells (g:=g) rfl i (vs.getD i undef) (by rw[List.getElem?_eq_getElem (by rw[h.len];exact hi),List.getD_eq_getElem?_getD,List.getElem?_eq_getElem (by rw[h.len];exact hi)];rfl)
  rw[Addr.add_lit,Nat.zero_add] at this
  rw[this,e]
theorem OwnsRows.snoc {x v':Value} {l:List (BitVec 8)} (h:OwnsRows F w B E v vs ls) (hx:Chunk F w x l) (hF:∀k,F k->k < w.heap.size)
  (h1:w'.ownsRow B E 1 v' (ls.length+1) (vs++[x])) (hg:w.grownBy w' v.ownBlock) (hb:v'.ownBlock=v.ownBlock\/v'.ownBlock=some w.heap.size) (hnx:∀ad n c,x=.slice (some ad) n c->v.ownBlock≠some ad.block) :
  OwnsRows F w' B E v' (vs++[x]) (ls++[l]):=by
 have keep:∀(u:Value) (m:List (BitVec 8)),Chunk F w u m->(∀ad n c,u=.slice (some ad) n c->v.ownBlock≠some ad.block)->Chunk F w' u m:=by
  intro u m hc hn
  obtain⟨a,cap,e,r,f⟩:=hc
  refine⟨a,cap,e,?_,fun ad e=>⟨(f ad e).1,Nat.lt_of_lt_of_le (f ad e).2 hg.size⟩⟩
  have t:Touch (fun k=>v.ownBlock=some k) w w':=.of_grown hg fun k hk=>hk
  exact t.reads r fun ad e2=>by subst e2;exact hn ad _ _ e
 have e1:∀i,i < ls.length->(vs++[x]).getD i undef=vs.getD i undef:=fun i hlt=>by simp[List.getD_eq_getElem?_getD,List.getElem?_append_left (show i < vs.length by rw[h.len];exact hlt)]
 have e3:(vs++[x]).getD ls.length undef=x:=by rw[<- h.len];simp[List.getD_eq_getElem?_getD]
 refine⟨by rw[List.length_append,List.length_singleton];exact h1,by simp[h.len],?_,?_,?_⟩
 ·intro k hk hf
  rcases hb with e|e
  ·exact h.out k (by rw[<- e];exact hk) hf
  ·rw[e] at hk;injection hk with hk;subst hk;have:=hF _ hf;omega
 ·intro i hi
  rw[List.length_append,List.length_singleton] at hi
  by_cases hlt:i < ls.length
  ·have e2:(ls++[l]).getD i []=ls.getD i []:=by simp[List.getD_eq_getElem?_getD,List.getElem?_append_left hlt]
   rw[e1 i hlt,e2]
   exact keep _ _ (h.chunk i hlt) fun ad n c e=>h.apart i ad n c hlt e
  ·have e0:i=ls.length:=by omega
   subst e0
   have e2:(ls++[l]).getD ls.length []=l:=by simp[List.getD_eq_getElem?_getD]
   rw[e3,e2]
   exact keep _ _ hx hnx
 ·intro i ad n c hi he hv
  rw[List.length_append,List.length_singleton] at hi
  have hold:ad.block < w.heap.size:=by
   by_cases hlt:i < ls.length
   ·rw[e1 i hlt] at he
    obtain⟨a,cap,e,_,f⟩:=h.chunk i hlt
    rw[he] at e;injection e with e4;exact(f ad e4.symm).2
   ·have e0:i=ls.length:=by omega
    subst e0
    rw[e3] at he
    obtain⟨a,cap,e,_,f⟩:=hx
    rw[he] at e;injection e with e4;exact(f ad e4.symm).2
  rcases hb with e|e
  ·rw[e] at hv
   by_cases hlt:i < ls.length
   ·rw[e1 i hlt] at he;exact h.apart i ad n c hlt he hv
   ·have e0:i=ls.length:=by omega
    subst e0
    rw[e3] at he;exact hnx ad n c he hv
  ·rw[e] at hv;injection hv with hv;omega
end
end Go.Proofs.YtbicafgmfgdckaaDoor
namespace Go.Proofs.YtbicafgmfgdckaaDoor
open Go Go.RowKit

def bigOf (l:List (BitVec 8)):BitVec 64:=l.foldl (fun x c=>x <<< 8 ||| c.setWidth 64) 0#64
theorem bigOf_snoc (l:List (BitVec 8)) (k:Nat) (h:k < l.length):bigOf (l.take (k+1))=bigOf (l.take k) <<< 8 ||| (byteAt l k).setWidth 64:=by
 unfold bigOf
 rw[take_snoc l k h,List.foldl_append];rfl
def BigRel (l:List (BitVec 8)) (w:World) (x i:Value) (wr:World):Prop:=∃k:Nat,k<=l.length/\i=.int .i64 k/\x=U64 (bigOf (l.take k))/\wr=w
theorem getBig_any (b off cap:Nat) (l:List (BitVec 8)) (w:World) (h1:1<=l.length) (h8:l.length<=8) (hb:BytesAt w b off l) :
  Calls Tryd.prog 88 #[.slice (some ⟨b,off,none⟩) l.length cap] w fun e w'=>e=.returned (.tuple #[U64 (bigOf l),.bool true])/\w=w':=by
 have hl0:(1:Int)<=l.length:=by omega
 have hl8:(l.length:Int)<=8:=by omega
 go_enter Tryd.func88,Tryd.ntmps88
 go_wp2
 go_loopw [4,17] (fun x i wr=>BigRel l w x i wr) (fun _ i _=>l.length - (intOf i).toNat)
 case atStart=>exact⟨0,Nat.zero_le _,rfl,rfl,rfl⟩
 case round =>
  obtain⟨k,hk,rfl,rfl,hw⟩:=hrel
  by_cases hlt:k < l.length
  ·have hc:wr.cell? ⟨b,off+k,none⟩=some (U8 (byteAt l k)):=hw ▸ hb k hlt
   have HW:=Lib.hid hw
   have HS:=Lib.hid (bigOf_snoc l k hlt)
   clear hw hb
   generalize byteAt l k=c at *
   go_wp2
   go_roundw
   case rel=>exact⟨k+1,by omega,by go_num,by rw[HS.out],HW.out⟩
   case measure=>simp[intOf];omega
  ·obtain rfl:k=l.length:=by omega
   have HW:=Lib.hid hw
   clear hw hb
   go_wp2
   go_ret2
   exact⟨by rw[List.take_length];rfl,HW.out.symm⟩
end Go.Proofs.YtbicafgmfgdckaaDoor
namespace Go.Proofs.YtbicafgmfgdckaaDoor
open Go Go.RowKit

abbrev Words:=List (BitVec 32)
def arr (f:Words):Array Value:=(f.map U32).toArray
def wordAt (f:Words) (i:Nat):BitVec 32:=f.getD i 0#32
theorem arr_size (f:Words):(arr f).size=f.length:=by simp[arr]
theorem arr_get (f:Words) (i:Nat) (h:i < f.length):(arr f)[i]?=some (U32 (wordAt f i)):=by
 simp[arr,wordAt,List.getD_eq_getElem?_getD,List.getElem?_eq_getElem h]
theorem arr_set (f:Words) (i:Nat) (x:BitVec 32):(arr f).setIfInBounds i (U32 x)=arr (f.set i x):=by
 simp[arr,List.map_set]
theorem arr_one (f:Words):(arr f).all (·.oneCell')=true:=by
 rw[Array.all_eq_true_iff_forall_mem]
 intro v hv
 simp only[arr,List.mem_toArray,List.mem_map] at hv
 obtain⟨x,_,rfl⟩:=hv
 rfl
theorem words_ext {f g:Words} (hl:f.length=g.length) (h:∀i,i < f.length->wordAt f i=wordAt g i):f=g:=by
 apply List.ext_getElem hl
 intro i h1 h2
 have:=h i h1
 simpa [wordAt,List.getD_eq_getElem?_getD,List.getElem?_eq_getElem h1,List.getElem?_eq_getElem h2] using this
theorem wordAt_set (f:Words) (i j:Nat) (x:BitVec 32) (h:i < f.length):wordAt (f.set i x) j=if j=i then x else wordAt f j:=by
 unfold wordAt
 rw[List.getD_eq_getElem?_getD,List.getElem?_set,List.getD_eq_getElem?_getD]
 by_cases e:i=j
 ·subst e;simp[h]
 ·rw[if_neg e,if_neg (fun e2=>e e2.symm)]
def ArrAt (w:World) (g:Nat) (t:TypeId) (f:Words):Prop:=w.heap[g]?=some (.cells (arr f) t (0,0))
section
variable {w w':World} {g:Nat} {t:TypeId} {f:Words}
theorem ArrAt.cell (h:ArrAt w g t f) {i:Nat} (hi:i < f.length):w.cell? ⟨g,i,none⟩=some (U32 (wordAt f i)):=by
 have e:=arr_get f i hi
 unfold ArrAt at h
 unfold World.cell?
 rw[h];exact e
theorem ArrAt.thawed (h:ArrAt w g t f) (o:Nat):w.frozen? ⟨g,o,none⟩=false:=by
 unfold ArrAt at h
 simp[World.frozen?,h]
theorem ArrAt.lt (h:ArrAt w g t f):g < w.heap.size:=heap_lt h
theorem ArrAt.set (h:ArrAt w g t f) (i:Nat) (x:BitVec 32):ArrAt (w.setCell ⟨g,i,none⟩ (U32 x)) g t (f.set i x):=by
 have e:=setCell_eq_setRow w g i (arr f) t (0,0) (U32 x) h
 unfold ArrAt
 rw[e,arr_set]
 exact setRow_heap w g (arr f) _ t _ h
theorem ArrAt.drewN (h:ArrAt w g t f) (n:Nat):ArrAt (w.drewN n) g t f:=h
theorem ArrAt.touch {F:Nat->Prop} (h:ArrAt w g t f) (k:Touch F w w') (hn:¬F g):ArrAt w' g t f:=by
 have hl:=h.lt
 unfold ArrAt at h ⊢
 rw[k.block g hl hn];exact h
theorem ArrAt.below (h:ArrAt w g t f) (hb:Below w.heap.size w w'):ArrAt w' g t f:=(h.touch (F:=fun _=>False) (.of_below hb) fun e=>e)
theorem ArrAt.row (h:ArrAt w g t f) (f':Words):ArrAt (w.setRow g (arr f')) g t f':=setRow_heap w g (arr f) _ t _ h
theorem ArrAt.new (w:World) (t:TypeId) (f:Words):ArrAt (w.alloc (.cells (arr f) t)) w.heap.size t f:=heap_alloc_new w _
end
theorem Touch.setRow {F:Nat->Prop} (w:World) (g:Nat) (c:Array Value) (hg:F g):Touch F w (w.setRow g c) :=
 ⟨rfl,rfl,rfl,by simp[World.setRow],fun k _ hk=>by
  unfold World.setRow
  simp only
  rw[Array.getElem?_modify,if_neg]
  intro e;subst e;exact hk hg⟩
end Go.Proofs.YtbicafgmfgdckaaDoor
namespace Go.Proofs.YtbicafgmfgdckaaDoor
open Go Go.RowKit

theorem wide_shl (x:BitVec 64):(x <<< 8).setWidth 32=x.setWidth 32 <<< 8:=by
 apply BitVec.eq_of_getLsbD_eq
 intro i hi
 simp only[BitVec.getLsbD_setWidth,BitVec.getLsbD_shiftLeft,hi,decide_true,Bool.true_and,show i < 64 by omega]
 by_cases h:i < 8
 ·simp[h]
 ·simp[h,show i - 8 < 32 by omega]
theorem wide_byte (c:BitVec 8):(c.setWidth 64).setWidth 32=c.setWidth 32:=by
 apply BitVec.eq_of_getLsbD_eq
 intro i hi
 simp only[BitVec.getLsbD_setWidth,hi,decide_true,Bool.true_and,show i < 64 by omega]
theorem big4 (l:List (BitVec 8)) (h:l.length=4):(bigOf l).setWidth 32=Sha.be4 (byteAt l 0) (byteAt l 1) (byteAt l 2) (byteAt l 3):=by
 match l,h with
 | [a,b,c,d],_ =>
  simp only[bigOf,List.foldl_cons,List.foldl_nil,BitVec.setWidth_or,wide_shl,wide_byte,Sha.be4,byteAt,List.getD_eq_getElem?_getD]
  simp
theorem zero_words:∃z:Words,(∀w,Sem.run Tryd.prog (zeroValue 108) w=.ok (.agg (arr z)) w)/\z.length=64:=⟨List.replicate 64 0#32,fun w=>by kernel_rfl,by simp⟩
def SchedRel1 (z:Words) (w:World) (l:List (BitVec 8)) (i:Value) (wr:World):Prop :=
 ∃(k:Nat) (f:Words),k<=16/\i=.int .i64 k/\f.length=64/\(∀j,j < k->wordAt f j=Sha.word l j)/\ArrAt wr w.heap.size 108 z/\ArrAt wr (w.heap.size+1) 108 f/\Below w.heap.size w wr
def SchedRel2 (z:Words) (w:World) (S:Words) (i:Value) (wr:World):Prop :=
 ∃(k:Nat) (f:Words),16<=k/\k<=64/\i=.int .i64 k/\f.length=64/\(∀j,j < k->wordAt f j=wordAt S j)/\ArrAt wr w.heap.size 108 z/\ArrAt wr (w.heap.size+1) 108 f/\Below w.heap.size w wr
theorem SchedRel2.step {z S f:Words} {w wr W:World} {k j:Nat} {v:Value} {i:Value} (h0:16<=k) (hk:k < 64) (hf:f.length=64) (hw:∀j,j < k->wordAt f j=wordAt S j) (hr:ArrAt wr w.heap.size 108 z) (hv:ArrAt wr (w.heap.size+1) 108 f) (hb:Below w.heap.size w wr)
  (t:Touch (fun _=>False) wr W) (e:v=U32 (wordAt S k)) (hi:i=.int .i64 (k+1:Nat)):SchedRel2 z w S i ((W.setCell ⟨w.heap.size+1,k,none⟩ v).drewN j):=by
 subst e
 have hs:=hb.size
 have hv1:=hv.touch t fun e=>e
 have t2:Touch (fun q=>q=w.heap.size+1) wr ((W.setCell ⟨w.heap.size+1,k,none⟩ (U32 (wordAt S k))).drewN j):=((t.mono fun _ e=>e.elim).trans (Touch.set (F:=fun q=>q=w.heap.size+1) W (w.heap.size+1) k _ rfl)).drewN j
 refine⟨k+1,f.set k (wordAt S k),by omega,by omega,hi,by simp[hf],fun q hq=>?_,hr.touch t2 (by omega),(hv1.set k _).drewN j,hb.trans (t2.below (fun q e=>by omega) hs)⟩
 rw[wordAt_set _ _ _ _ (by omega)]
 split
 ·rename_i e;subst e;rfl
 ·exact hw q (by omega)
set_option maxHeartbeats 800000 in
theorem sched_any (b off cap:Nat) (l:List (BitVec 8)) (w:World) (hl:l.length=64) (hcap:64<=cap) (hcm:cap<=9223372036854775807) (hb:BytesAt w b off l) :
  Calls Tryd.prog 78 #[.slice (some ⟨b,off,none⟩) 64 cap] w fun e w'=>e=.returned (.agg (arr (Sha.sched l)))/\Below w.heap.size w w':=by
 obtain⟨z,hz,hzl⟩:=zero_words
 have hS:=Lib.hid (Sha.length_sched l)
 have hlow:=Lib.hid (Sha.sched_low l)
 have hhigh:=Lib.hid (Sha.sched_high l)
 generalize Sha.sched l=S at *
 go_enter Tryd.func78,Tryd.ntmps78
 go_wp2
 have r0:ArrAt ((w.alloc (.cells (arr z) 108)).alloc (.cells (arr z) 108)) w.heap.size 108 z:=(ArrAt.new w _ _).touch (F:=fun _=>False) ((Touch.refl _ _).alloc _) fun e=>e
 have v0:ArrAt ((w.alloc (.cells (arr z) 108)).alloc (.cells (arr z) 108)) (w.heap.size+1) 108 z:=by
  have:=ArrAt.new (w.alloc (.cells (arr z) 108)) 108 z
  simpa using this
 have hb0:Below w.heap.size w ((w.alloc (.cells (arr z) 108)).alloc (.cells (arr z) 108)):=((Below.refl _ _).alloc (Nat.le_refl _) _).alloc (by simp) _
 clear hz
 generalize (w.alloc (.cells (arr z) 108)).alloc (.cells (arr z) 108)=w1 at *
 go_loopw [4,5,6,12,15] (fun _ _ _ i _ wr=>SchedRel1 z w l i wr) (fun _ _ _ i _ _=>16 - (intOf i).toNat)
 case atStart=>exact⟨0,_,by omega,rfl,hzl,fun j h=>by omega,r0,v0,hb0⟩
 case round =>
  clear r0 v0 hb0
  obtain⟨k,f,hk,rfl,hf,hw,hr,hv,hbw⟩:=hrel
  by_cases hlt:k < 16
  ·have hs:=fun w=>run_slice_both (P:=Tryd.prog) byteSlice w (some ⟨b,off,none⟩) 64 cap .i64 .i64 (4 * k) (4 * k+4) (4 * (k:Int)) (4 * (k:Int)+4) (by omega) (by omega) (by omega) (by omega)
   have hda:dropAddr (some ⟨b,off,none⟩) cap (4 * k)=some ⟨b,off+4 * k,none⟩:=by
    unfold dropAddr
    rw[if_neg (by omega),Option.map_some,Addr.add_lit]
   rw[hda,show 4 * k+4 - 4 * k=4 by omega] at hs
   have hm4:((l.drop (4 * k)).take 4).length=4:=by rw[List.length_take,List.length_drop];omega
   have hbm:BytesAt wr b (off+4 * k) ((l.drop (4 * k)).take 4):=((hb.mono (Keeps.below hbw ⟨b,·,none⟩)).drop (4 * k)).take 4
   have GB:=getBig_any b (off+4 * k) (cap - 4 * k) _ wr (by omega) (by omega) hbm
   have hbig:=big4 _ hm4
   have hbyte:∀j,j < 4->byteAt ((l.drop (4 * k)).take 4) j=byteAt l (4 * k+j):=fun j hj=>by rw[byteAt_take hj,byteAt_drop]
   rw[hm4] at GB
   rw[hbyte 0 (by omega),hbyte 1 (by omega),hbyte 2 (by omega),hbyte 3 (by omega)] at hbig
   have hbig2:(bigOf ((l.drop (4 * k)).take 4)).setWidth 32=Sha.word l k:=hbig
   have HB:=Lib.hid hbig2
   have hcell:=hv.cell (i:=k) (by omega)
   have hth:=hv.thawed k
   clear hbig hbig2 hbyte hm4 hbm hda
   generalize bigOf ((l.drop (4 * k)).take 4)=x at *
   have HV:=Lib.hid hv
   have HR:=Lib.hid hr
   have HW:=Lib.hid hw
   have HBW:=Lib.hid hbw
   clear hv hr hw hbw hb
   go_wp2_with fail
   refine GB.mono ?_
   rintro e w2 ⟨rfl,rfl⟩
   clear GB hs
   go_wp2
   go_roundw
   case rel =>
    have t:Touch (fun q=>q=w.heap.size+1) wr (wr.setCell ⟨w.heap.size+1,k,none⟩ (U32 (x.setWidth 32))):=Touch.set wr (w.heap.size+1) k (U32 (x.setWidth 32)) rfl
    refine⟨k+1,f.set k (x.setWidth 32),by omega,by go_num,by simp[hf],fun j hj=>?_,HR.out.touch t (by omega),HV.out.set k _,HBW.out.trans (t.below (fun q e=>by omega) HBW.out.size)⟩
    rw[wordAt_set _ _ _ _ (by omega)]
    split
    ·rename_i e;subst e;exact HB.out
    ·exact HW.out j (by omega)
   case measure=>simp[intOf];omega
  ·obtain rfl:k=16:=by omega
   rw[show (((16:Nat):Int))=16 from rfl]
   have rel2:SchedRel2 z w S (.int .i64 16) wr:=⟨16,f,by omega,by omega,rfl,hf,fun j hj=>by rw[hw j hj];exact(hlow.out j hj).symm,hr,hv,hbw⟩
   clear hw hr hv hbw hb
   go_wp2
   go_loopw [7] (fun i wr=>SchedRel2 z w S i wr) (fun i _=>64 - (intOf i).toNat)
   case atStart=>exact rel2
   case round =>
    clear rel2
    obtain⟨k,f,hk0,hk,rfl,hf,hw,hr,hv,hbw⟩:=hrel
    by_cases hlt:k < 64
    ·obtain⟨n15,e15⟩:∃n:Nat,(k:Int) - 15=n:=⟨k - 15,by omega⟩
     obtain⟨n2,e2⟩:∃n:Nat,(k:Int) - 2=n:=⟨k - 2,by omega⟩
     obtain⟨n16,e16⟩:∃n:Nat,(k:Int) - 16=n:=⟨k - 16,by omega⟩
     obtain⟨n7,e7⟩:∃n:Nat,(k:Int) - 7=n:=⟨k - 7,by omega⟩
     have c15:=hv.cell (i:=n15) (by omega)
     have c2:=hv.cell (i:=n2) (by omega)
     have c16:=hv.cell (i:=n16) (by omega)
     have c7:=hv.cell (i:=n7) (by omega)
     have ck:=hv.cell (i:=k) (by omega)
     have hth:=hv.thawed k
     have l15:n15 < 64:=by omega
     have l2:n2 < 64:=by omega
     have l16:n16 < 64:=by omega
     have l7:n7 < 64:=by omega
     go_wp2
     go_quiet (fail)
     have hx15:=hw n15 (by omega)
     have hx2:=hw n2 (by omega)
     have hx16:=hw n16 (by omega)
     have hx7:=hw n7 (by omega)
     have hnext:=hhigh.out k hk0 hlt
     have hnext2:wordAt S k=wordAt S n16+Sha.small0 (wordAt S n15)+wordAt S n7+Sha.small1 (wordAt S n2):=by
      rw[show n16=k - 16 by omega,show n15=k - 15 by omega,show n7=k - 7 by omega,show n2=k - 2 by omega];exact hnext
     rw[<- hx15,<- hx2,<- hx16,<- hx7] at hnext2
     have HN:=Lib.hid hnext2
     have HV:=Lib.hid hv
     have HR:=Lib.hid hr
     have HW:=Lib.hid hw
     have HBW:=Lib.hid hbw
     clear hx15 hx2 hx16 hx7 hnext hnext2 hv hr hw hbw
     generalize wordAt f n15=x15 at *
     generalize wordAt f n2=x2 at *
     generalize wordAt f n16=x16 at *
     generalize wordAt f n7=x7 at *
     have R7:∀v,Calls Tryd.prog 79 #[U32 x15,.int .i64 7] v (Gives v (U32 (Sha.rotr x15 7))):=fun v=>right_any x15 7 (by decide) (by decide) v
     have R18:∀v,Calls Tryd.prog 79 #[U32 x15,.int .i64 18] v (Gives v (U32 (Sha.rotr x15 18))):=fun v=>right_any x15 18 (by decide) (by decide) v
     have R17:∀v,Calls Tryd.prog 79 #[U32 x2,.int .i64 17] v (Gives v (U32 (Sha.rotr x2 17))):=fun v=>right_any x2 17 (by decide) (by decide) v
     have R19:∀v,Calls Tryd.prog 79 #[U32 x2,.int .i64 19] v (Gives v (U32 (Sha.rotr x2 19))):=fun v=>right_any x2 19 (by decide) (by decide) v
     go_wp2_with fail
     refine(R7 _).mono ?_
     rintro e w' ⟨m1,rfl,rfl⟩
     go_wp2_with fail
     refine(R18 _).mono ?_
     rintro e w' ⟨m2,rfl,rfl⟩
     go_wp2_with fail
     refine(R17 _).mono ?_
     rintro e w' ⟨m3,rfl,rfl⟩
     go_wp2_with fail
     refine(R19 _).mono ?_
     rintro e w' ⟨m4,rfl,rfl⟩
     go_wp2_with fail
     refine wp_region_mid 15 (by kernel_rfl) (by kernel_rfl) rfl ?_
     simp only[List.take_succ_cons,List.take_zero,List.drop_zero]
     repeat (first|go_big_quiet_step (fail) | quiet_step (fail))
     refine wpQuiet_nil ?_
     intro j
     go_wp2
     refine midPost_normal (rest_quiet (by kernel_rfl) ?_)
     simp only[List.drop_succ_cons,List.drop_nil]
     refine wpQuiet_nil ?_
     intro j'
     clear R7 R18 R17 R19 c15 c2 c16 c7 ck hth e15 e2 e16 e7
     go_wp2
     go_roundw
     case rel =>
      refine SchedRel2.step hk0 hlt hf HW.out HR.out HV.out HBW.out ?_ (by rw[HN.out];rfl) (by go_num)
      repeat (first|exact Touch.refl _ _|refine Touch.drewN ?_ _)
     case measure=>simp[intOf];omega
    ·obtain rfl:k=64:=by omega
     have e0:f=S:=words_ext (by rw[hf,hS.out]) fun i hi=>hw i (by omega)
     subst e0
     have hi:(Tryd.prog.info? 108).map (·.size)=some (arr f).size:=by rw[arr_size,hf];kernel_rfl
     have hzf:(arr z).size=(arr f).size:=by rw[arr_size,arr_size,hzl,hf]
     have hone:=arr_one f
     have HB:=Lib.hid hbw
     have hr2:=hr.row f
     have tR:Touch (fun q=>q=w.heap.size) wr (wr.setRow w.heap.size (arr f)):=Touch.setRow wr _ _ rfl
     have hr1:wr.heap[w.heap.size]?=some (.cells (arr z) 108 (0,0)):=hr
     have hv1:wr.heap[w.heap.size+1]?=some (.cells (arr f) 108 (0,0)):=hv
     clear hr hv hbw hw
     go_wp2_with (first | (refine wpList_load_row rfl 108 _ rfl (w.heap.size+1) rfl _ (arr f) _ _ hv1 Tryd.underlying108 rfl hi ?_) | (refine wpList_store_row rfl 108 _ _ rfl w.heap.size (arr f) rfl rfl _ (arr z) hr1 hi hzf hone ?_))
     refine bodyPost_ret (results_cell_row rfl _ _ w.heap.size _ (arr f) _ _ rfl hr2 Tryd.underlying108 rfl hi) rfl ?_
     exact⟨rfl,HB.out.trans (tR.below (fun q e=>by omega) HB.out.size)⟩
end Go.Proofs.YtbicafgmfgdckaaDoor
namespace Go.Proofs.YtbicafgmfgdckaaDoor
open Go Go.RowKit

def KTab (w:World):Prop:=∀i,i < 64->w.cell? ⟨0,i,none⟩=some (U32 (wordAt Sha.K i))
theorem KTab.keeps {w w':World} (h:KTab w) (k:Keeps w w'):KTab w':=fun i hi=>k _ _ (h i hi)
theorem zero_state:∃z:Words,(∀w,Sem.run Tryd.prog (zeroValue 103) w=.ok (.agg (arr z)) w)/\z.length=8:=⟨List.replicate 8 0#32,fun w=>by kernel_rfl,by simp⟩
theorem right_quiet (x:BitVec 32) (N:Int) (h1:1<=N) (h2:N<=31) (w:World) (j:Nat):Calls Tryd.prog 79 #[U32 x,.int .i64 N] (w.drewN j) fun e w''=>e=.returned (U32 (Sha.rotr x N.toNat))/\∃m,w''=w.drewN m:=by
 obtain⟨n,rfl⟩:∃n:Nat,N=n:=⟨N.toNat,by omega⟩
 exact(right_any x n (by omega) (by omega) _).mono fun _ _ ⟨m,he,hw⟩=>⟨he,j+m,by rw[hw,World.drewN_drewN]⟩
theorem wpList_built {P:Program} {ops:Array Oper} {rest:List Oper} {o:Oper} {a:Act} {w:World} {Q:Exit->Act->World->Prop} (hg:o.guard=none) (t:TypeId) (parts:Array (Nat × Operand)) (ho:o.op=.build t parts)
  (cells:Array Value) (hf:P.built t (parts.map fun(i,x)=>(i,a.eval x)).toList=some cells)
  (h:wpList P ops Q rest (a.put o.dst (.agg cells)) w):wpList P ops Q (o::rest) a w:=by
 refine wpList_build hg t parts ho (by rw[hf];rfl) ?_
 rw[hf]
 exact h
theorem stop_build {P:Program} {ops:Array Oper} {Q:Exit->Act->World->Prop} {l:List Oper} {a:Act} {w:World} {d t q1 pos after g parts} (h:wpList P ops Q (⟨d,.build t parts,q1,pos,after,g⟩::l) a w):wpList P ops Q (⟨d,.build t parts,q1,pos,after,g⟩::l) a w:=h
theorem built8 (a b c d e f g i:BitVec 32):Program.built Tryd.prog 103 [(0,U32 a),(1,U32 b),(2,U32 c),(3,U32 d),(4,U32 e),(5,U32 f),(6,U32 g),(7,U32 i)]=some (arr [a,b,c,d,e,f,g,i]):=by
 kernel_rfl
def TakeRel (z8:Words) (s:Sha.St) (S:Words) (w:World) (g2 g3:Nat) (i:Value) (wr:World):Prop :=
 ∃(k:Nat) (v:Sha.St),k<=64/\i=.int .i64 k/\v=Sha.rounds s S k/\ArrAt wr w.heap.size 103 s.list/\ArrAt wr (w.heap.size+1) 103 z8/\ArrAt wr g2 108 S/\ArrAt wr g3 103 v.list/\Below w.heap.size w wr
theorem step_list (v:Sha.St) (xk xs T U:BitVec 32) (hT:v.h+(Sha.rotr v.e 6 ^^^ Sha.rotr v.e 11 ^^^ Sha.rotr v.e 25)+(v.e &&& v.f ^^^ ~~~v.e &&& v.g)+xk+xs=T)
  (hU:(Sha.rotr v.a 2 ^^^ Sha.rotr v.a 13 ^^^ Sha.rotr v.a 22)+(v.a &&& v.b ^^^ v.a &&& v.c ^^^ v.b &&& v.c)=U):(Sha.step v xk xs).list=[T+U,v.a,v.b,v.c,v.d+T,v.e,v.f,v.g]:=by
 subst hT hU;rfl
theorem plus_at (s v:Sha.St) (j:Nat) (h:j < 8):wordAt (s.plus v).list j=wordAt s.list j+wordAt v.list j:=by
 match j,h with
 | 0,_=>rfl
 | 1,_=>rfl
 | 2,_=>rfl
 | 3,_=>rfl
 | 4,_=>rfl
 | 5,_=>rfl
 | 6,_=>rfl
 | 7,_=>rfl
 | n+8,h=>omega
def AddRel (z8 A V:Words) (w:World) (g3:Nat) (i:Value) (wr:World):Prop :=
 ∃(k:Nat) (f:Words),k<=8/\i=.int .i64 k/\f.length=8/\(∀j,j < k->wordAt f j=wordAt A j+wordAt V j)/\(∀j,k<=j->j < 8->wordAt f j=wordAt A j)/\ArrAt wr w.heap.size 103 f/\ArrAt wr (w.heap.size+1) 103 z8/\ArrAt wr g3 103 V/\Below w.heap.size w wr
theorem AddRel.step {z8 A V f:Words} {w wr W:World} {g3 k j:Nat} {i v:Value} (hk:k < 8) (hg:w.heap.size+1 < g3) (hf:f.length=8) (h1:∀j,j < k->wordAt f j=wordAt A j+wordAt V j) (h2:∀j,k<=j->j < 8->wordAt f j=wordAt A j)
  (d0:ArrAt wr w.heap.size 103 f) (d1:ArrAt wr (w.heap.size+1) 103 z8) (d3:ArrAt wr g3 103 V) (hb:Below w.heap.size w wr)
  (t:Touch (fun _=>False) wr W) (e:v=U32 (wordAt f k+wordAt V k)) (hi:i=.int .i64 (k+1:Nat)):AddRel z8 A V w g3 i ((W.setCell ⟨w.heap.size,k,none⟩ v).drewN j):=by
 subst e
 have hs:=hb.size
 have hv1:=d0.touch t fun e=>e
 have t2:Touch (fun q=>q=w.heap.size) wr ((W.setCell ⟨w.heap.size,k,none⟩ (U32 (wordAt f k+wordAt V k))).drewN j):=((t.mono fun _ e=>e.elim).trans (Touch.set (F:=fun q=>q=w.heap.size) W w.heap.size k _ rfl)).drewN j
 refine⟨k+1,f.set k (wordAt f k+wordAt V k),by omega,hi,by simp[hf],fun q hq=>?_,fun q hq hq8=>?_,(hv1.set k _).drewN j,d1.touch t2 (by omega),d3.touch t2 (by omega),hb.trans (t2.below (fun q e=>by omega) hs)⟩
 ·rw[wordAt_set _ _ _ _ (by omega)]
  split
  ·rename_i e;subst e;rw[h2 q (by omega) (by omega)]
  ·exact h1 q (by omega)
 ·rw[wordAt_set _ _ _ _ (by omega),if_neg (by omega)]
  exact h2 q (by omega) hq8
set_option maxRecDepth 40000 in
set_option maxHeartbeats 1000000 in
theorem take_any (s:Sha.St) (b off cap:Nat) (l:List (BitVec 8)) (w:World) (hl:l.length=64) (hcap:64<=cap) (hcm:cap<=9223372036854775807) (hb:BytesAt w b off l) (hk:KTab w) :
  Calls Tryd.prog 63 #[.agg (arr s.list),.slice (some ⟨b,off,none⟩) 64 cap] w fun e w'=>e=.returned (.agg (arr (Sha.take s l).list))/\Below w.heap.size w w':=by
 obtain⟨z,hz,hzl⟩:=zero_words
 obtain⟨z8,hz8,hz8l⟩:=zero_state
 have SC:=fun v (h:Keeps w v)=>sched_any b off cap l v hl hcap hcm (hb.mono (h ⟨b,·,none⟩))
 have hsl:s.list.length=8:=rfl
 unfold Sha.take
 have HSl:=Lib.hid (Sha.length_sched l)
 generalize Sha.sched l=S at *
 generalize hss:s.list=sl at *
 have HSS:=Lib.hid hss
 clear hss
 go_enter Tryd.func63,Tryd.ntmps63
 go_wp2_with fail
 have a0:ArrAt ((w.alloc (.cells (arr sl) 103)).alloc (.cells (arr z8) 103)) w.heap.size 103 sl:=(ArrAt.new w _ _).touch (F:=fun _=>False) ((Touch.refl _ _).alloc _) fun e=>e
 have a1:ArrAt ((w.alloc (.cells (arr sl) 103)).alloc (.cells (arr z8) 103)) (w.heap.size+1) 103 z8:=by
  have:=ArrAt.new (w.alloc (.cells (arr sl) 103)) 103 z8
  simpa using this
 have hb0:Below w.heap.size w ((w.alloc (.cells (arr sl) 103)).alloc (.cells (arr z8) 103)):=((Below.refl _ _).alloc (Nat.le_refl _) _).alloc (by simp) _
 generalize (w.alloc (.cells (arr sl) 103)).alloc (.cells (arr z8) 103)=w1 at *
 refine(SC _ (Keeps.below hb0)).mono ?_
 rintro e w2 ⟨rfl,hb2⟩
 have a0:=a0.below hb2
 have a1:=a1.below hb2
 have hs2:=a1.lt
 have hb2:=hb0.trans (hb2.mono hb0.size)
 clear hb0 SC
 have b2:(w2.alloc (.cells (arr z) 108)).heap[w2.heap.size]?=some (.cells (arr z) 108 (0,0)):=ArrAt.new w2 108 z
 have hi:(Tryd.prog.info? 108).map (·.size)=some (arr S).size:=by rw[arr_size,HSl.out];kernel_rfl
 have hzf:(arr z).size=(arr S).size:=by rw[arr_size,arr_size,hzl,HSl.out]
 have hone:=arr_one S
 have t3:Touch (fun q=>q=w2.heap.size) w2 ((w2.alloc (.cells (arr z) 108)).setRow w2.heap.size (arr S)):=((Touch.refl _ _).alloc _).trans (Touch.setRow _ _ _ rfl)
 have b3:ArrAt ((w2.alloc (.cells (arr z) 108)).setRow w2.heap.size (arr S)) w2.heap.size 108 S:=(ArrAt.new w2 108 z).row S
 have a03:=a0.touch t3 (by omega)
 have a13:=a1.touch t3 (by omega)
 have hb3:=hb2.trans (t3.below (fun q e=>by omega) hb2.size)
 clear t3
 have hi8:(Tryd.prog.info? 103).map (·.size)=some (arr sl).size:=by rw[arr_size,hsl];kernel_rfl
 have hzf8:(arr z8).size=(arr sl).size:=by rw[arr_size,arr_size,hz8l,hsl]
 have hone8:=arr_one sl
 go_wp2_with (first
  |(refine wpList_store_row rfl 108 _ _ rfl w2.heap.size (arr S) rfl rfl _ (arr z) b2 hi hzf hone ?_
    generalize (w2.alloc (.cells (arr z) 108)).setRow w2.heap.size (arr S)=w3 at *
    have h03:w3.heap[w.heap.size]?=some (.cells (arr sl) 103 (0,0)):=a03
    have b4:(w3.alloc (.cells (arr z8) 103)).heap[w3.heap.size]?=some (.cells (arr z8) 103 (0,0)):=ArrAt.new w3 103 z8)
  |(refine wpList_load_row rfl 103 _ rfl w.heap.size rfl _ (arr sl) _ _ h03 Tryd.underlying103 rfl hi8 ?_)
  |(refine wpList_store_row rfl 103 _ _ rfl w3.heap.size (arr sl) rfl rfl _ (arr z8) b4 hi8 hzf8 hone8 ?_))
 have t5:Touch (fun q=>q=w3.heap.size) w3 ((w3.alloc (.cells (arr z8) 103)).setRow w3.heap.size (arr sl)):=((Touch.refl _ _).alloc _).trans (Touch.setRow _ _ _ rfl)
 have d3:ArrAt ((w3.alloc (.cells (arr z8) 103)).setRow w3.heap.size (arr sl)) w3.heap.size 103 sl:=(ArrAt.new w3 103 z8).row sl
 have h2:=b3.lt
 have d0:=a03.touch t5 (by omega)
 have d1:=a13.touch t5 (by omega)
 have d2:=b3.touch t5 (by omega)
 have hb5:=hb3.trans (t5.below (fun q e=>by omega) hb3.size)
 have hg2:w.heap.size+1 < w2.heap.size:=hs2
 clear t5 b2 b3 b4 h03 a03 a13 a0 a1 hb3 hb2
 generalize (w3.alloc (.cells (arr z8) 103)).setRow w3.heap.size (arr sl)=w5 at *
 generalize w2.heap.size=g2 at *
 generalize w3.heap.size=g3 at *
 rw[<- HSS.out] at d0 d3
 go_loopw [16] (fun i wr=>TakeRel z8 s S w g2 g3 i wr) (fun i _=>64 - (intOf i).toNat)
 case atStart=>exact⟨0,s,by omega,rfl,rfl,d0,d1,d2,d3,hb5⟩
 case round =>
  clear d0 d1 d2 d3 hb5
  obtain⟨k,v,hk64,rfl,hv,d0,d1,d2,d3,hbw⟩:=hrel
  by_cases hlt:k < 64
  ·have e0:wr.cell? ⟨g3,0,none⟩=some (U32 v.a):=d3.cell (i:=0) (show 0 < 8 by decide)
   have e1:wr.cell? ⟨g3,1,none⟩=some (U32 v.b):=d3.cell (i:=1) (show 1 < 8 by decide)
   have e2:wr.cell? ⟨g3,2,none⟩=some (U32 v.c):=d3.cell (i:=2) (show 2 < 8 by decide)
   have e3:wr.cell? ⟨g3,3,none⟩=some (U32 v.d):=d3.cell (i:=3) (show 3 < 8 by decide)
   have e4:wr.cell? ⟨g3,4,none⟩=some (U32 v.e):=d3.cell (i:=4) (show 4 < 8 by decide)
   have e5:wr.cell? ⟨g3,5,none⟩=some (U32 v.f):=d3.cell (i:=5) (show 5 < 8 by decide)
   have e6:wr.cell? ⟨g3,6,none⟩=some (U32 v.g):=d3.cell (i:=6) (show 6 < 8 by decide)
   have e7:wr.cell? ⟨g3,7,none⟩=some (U32 v.h):=d3.cell (i:=7) (show 7 < 8 by decide)
   have ek:=hk.keeps (Keeps.below hbw) k hlt
   have es:=d2.cell (i:=k) (by rw[HSl.out];exact hlt)
   have hn:Sha.rounds s S (k+1)=Sha.step v (wordAt Sha.K k) (wordAt S k):=by rw[hv];rfl
   have HN:=Lib.hid hn
   have H0:=Lib.hid d0
   have H1:=Lib.hid d1
   have H2:=Lib.hid d2
   have H3:=Lib.hid d3
   have HK:=Lib.hid hk
   clear hv hn d0 d1 d2 d3 hk
   generalize wordAt Sha.K k=xk at *
   generalize wordAt S k=xs at *
   go_wp2
   go_quiet (exact right_quiet _ _ (by decide) (by decide) _ _)
   have f0:(wr.drewN nq).cell? ⟨g3,0,none⟩=some (U32 v.a):=e0
   have f1:(wr.drewN nq).cell? ⟨g3,1,none⟩=some (U32 v.b):=e1
   have f2:(wr.drewN nq).cell? ⟨g3,2,none⟩=some (U32 v.c):=e2
   have f3:(wr.drewN nq).cell? ⟨g3,3,none⟩=some (U32 v.d):=e3
   have f4:(wr.drewN nq).cell? ⟨g3,4,none⟩=some (U32 v.e):=e4
   have f5:(wr.drewN nq).cell? ⟨g3,5,none⟩=some (U32 v.f):=e5
   have f6:(wr.drewN nq).cell? ⟨g3,6,none⟩=some (U32 v.g):=e6
   have f7:(wr.drewN nq).cell? ⟨g3,7,none⟩=some (U32 v.h):=e7
   have G0:Hid (ArrAt (wr.drewN nq) w.heap.size 103 s.list):=Lib.hid H0.out
   have G1:Hid (ArrAt (wr.drewN nq) (w.heap.size+1) 103 z8):=Lib.hid H1.out
   have G2:Hid (ArrAt (wr.drewN nq) g2 108 S):=Lib.hid H2.out
   have G3:Hid (ArrAt (wr.drewN nq) g3 103 v.list):=Lib.hid H3.out
   have GB:Below w.heap.size w (wr.drewN nq):=below_drewN hbw nq
   clear e0 e1 e2 e3 e4 e5 e6 e7 ek es H0 H1 H2 H3 hbw
   generalize wr.drewN nq=w6 at *
   go_wp2
   go_quiet (exact right_quiet _ _ (by decide) (by decide) _ _)
   have h3:w6.heap[g3]?=some (.cells (arr v.list) 103 (0,0)):=G3.out
   generalize hT:v.h+(Sha.rotr v.e 6 ^^^ Sha.rotr v.e 11 ^^^ Sha.rotr v.e 25)+(v.e &&& v.f ^^^ ~~~v.e &&& v.g)+xk+xs=T
   generalize hU:(Sha.rotr v.a 2 ^^^ Sha.rotr v.a 13 ^^^ Sha.rotr v.a 22)+(v.a &&& v.b ^^^ v.a &&& v.c ^^^ v.b &&& v.c)=U
   have HT:=Lib.hid hT
   have HU:=Lib.hid hU
   clear hT hU
   obtain⟨L,hL⟩:∃L:Words,L=[T+U,v.a,v.b,v.c,v.d+T,v.e,v.f,v.g]:=⟨_,rfl⟩
   have hbu:=built8 (T+U) v.a v.b v.c (v.d+T) v.e v.f v.g
   rw[<- hL] at hbu
   have hLl:L.length=8:=by rw[hL];rfl
   have HL:=Lib.hid hL
   clear hL
   have hsz:(arr v.list).size=(arr L).size:=by rw[arr_size,arr_size,hLl];rfl
   have hiv:(Tryd.prog.info? 103).map (·.size)=some (arr L).size:=by rw[arr_size,hLl];kernel_rfl
   have hov:=arr_one L
   go_wp2_with (with_reducible refine stop_build ?roundEnd)
   refine wpList_built rfl 103 _ rfl (arr L) ?hb0 ?nx1
   case hb0=>go_simp
   clear hbu f0 f1 f2 f3 f4 f5 f6 f7
   go_wp2_with (refine wpList_store_row rfl 103 _ _ rfl g3 (arr L) rfl rfl _ (arr v.list) h3 hiv hsz hov ?_)
   go_roundw
   case rel =>
    have t:Touch (fun q=>q=g3) w6 ((w6.drewN nq).setRow g3 (arr L)):=((Touch.refl _ _).drewN nq).trans (Touch.setRow _ _ _ rfl)
    have hs:=GB.size
    have e:=step_list v xk xs T U HT.out HU.out
    rw[<- HL.out] at e
    refine⟨k+1,Sha.step v xk xs,by omega,by go_num,HN.out.symm,G0.out.touch t (by omega),G1.out.touch t (by omega),G2.out.touch t (by omega),?_,GB.trans (t.below (fun q e=>by omega) hs)⟩
    rw[e]
    exact(G3.out.drewN nq).row L
   case measure=>simp[intOf];omega
  ·obtain rfl:k=64:=by omega
   rw[show (((64:Nat):Int))=64 from rfl]
   have hg2':w.heap.size+1 < g3:=Nat.lt_trans hg2 h2
   subst hv
   have hP:=Lib.hid (plus_at s (Sha.rounds s S 64))
   have hPl:(s.plus (Sha.rounds s S 64)).list.length=8:=rfl
   have hVl:(Sha.rounds s S 64).list.length=8:=rfl
   have hAl:s.list.length=8:=rfl
   clear HSS d2 hk hb hlt
   generalize hPP:(s.plus (Sha.rounds s S 64)).list=PP at *
   have HPP:=Lib.hid hPP
   clear hPP
   generalize (Sha.rounds s S 64).list=V at *
   generalize s.list=A at *
   have rel2:AddRel z8 A V w g3 (.int .i64 0) wr:=⟨0,A,by omega,rfl,hAl,fun j h=>by omega,fun j _ _=>rfl,d0,d1,d3,hbw⟩
   clear d0 d1 d3 hbw
   go_wp2
   go_loopw [96] (fun i wr=>AddRel z8 A V w g3 i wr) (fun i _=>8 - (intOf i).toNat)
   case atStart=>exact rel2
   case round =>
    clear rel2
    obtain⟨k,f,hk,rfl,hf,h1,h2,d0,d1,d3,hbw⟩:=hrel
    by_cases hlt:k < 8
    ·have c1:=d0.cell (i:=k) (by omega)
     have c2:=d3.cell (i:=k) (by omega)
     have hth:=d0.thawed k
     have H1:=Lib.hid h1
     have H2:=Lib.hid h2
     have D0:=Lib.hid d0
     have D1:=Lib.hid d1
     have D3:=Lib.hid d3
     have HBW:=Lib.hid hbw
     clear h1 h2 d0 d1 d3 hbw
     obtain⟨ya,hya⟩:∃y,wordAt f k=y:=⟨_,rfl⟩
     obtain⟨yv,hyv⟩:∃y,wordAt V k=y:=⟨_,rfl⟩
     rw[hya] at c1
     rw[hyv] at c2
     have HYA:=Lib.hid hya
     have HYV:=Lib.hid hyv
     clear hya hyv
     go_wp2_with fail
     refine wp_region_mid 8 (by kernel_rfl) (by kernel_rfl) rfl ?_
     simp only[List.take_succ_cons,List.take_zero,List.drop_zero]
     repeat (first|go_big_quiet_step (fail) | quiet_step (fail))
     refine wpQuiet_nil ?_
     intro j
     go_wp2
     refine midPost_normal (rest_quiet (by kernel_rfl) ?_)
     simp only[List.drop_succ_cons,List.drop_nil]
     refine wpQuiet_nil ?_
     intro j'
     clear c1 c2 hth
     go_wp2
     go_roundw
     case rel =>
      refine AddRel.step hlt hg2' hf H1.out H2.out D0.out D1.out D3.out HBW.out ?_ (by rw[HYA.out,HYV.out]) (by go_num)
      repeat (first|exact Touch.refl _ _|refine Touch.drewN ?_ _)
     case measure=>simp[intOf];omega
    ·obtain rfl:k=8:=by omega
     have e0:f=PP:=words_ext (by rw[hf,hPl]) fun i hi=>by rw[h1 i (by omega),hP.out i (by omega)]
     subst e0
     have hi9:(Tryd.prog.info? 103).map (·.size)=some (arr f).size:=by rw[arr_size,hf];kernel_rfl
     have hzf9:(arr z8).size=(arr f).size:=by rw[arr_size,arr_size,hz8l,hf]
     have hone9:=arr_one f
     have HB:=Lib.hid hbw
     have hr2:=d1.row f
     have tR:Touch (fun q=>q=w.heap.size+1) wr (wr.setRow (w.heap.size+1) (arr f)):=Touch.setRow wr _ _ rfl
     have hv1:wr.heap[w.heap.size]?=some (.cells (arr f) 103 (0,0)):=d0
     have hr1:wr.heap[w.heap.size+1]?=some (.cells (arr z8) 103 (0,0)):=d1
     clear d0 d1 d3 hbw h1 h2
     go_wp2_with (first | (refine wpList_load_row rfl 103 _ rfl w.heap.size rfl _ (arr f) _ _ hv1 Tryd.underlying103 rfl hi9 ?_) | (refine wpList_store_row rfl 103 _ _ rfl (w.heap.size+1) (arr f) rfl rfl _ (arr z8) hr1 hi9 hzf9 hone9 ?_))
     refine bodyPost_ret (results_cell_row rfl _ _ (w.heap.size+1) _ (arr f) _ _ rfl hr2 Tryd.underlying103 rfl hi9) rfl ?_
     exact⟨by rw[HPP.out],HB.out.trans (tR.below (fun q e=>by omega) HB.out.size)⟩
end Go.Proofs.YtbicafgmfgdckaaDoor
