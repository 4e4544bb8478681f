/- Numbers as bytes: the program's Put, Reverse, Big. Regions that draw their order, whose operations only read and whose callees may also add memory of their own (Below): walked once. For any program. A region that draws its order, walked by a plan: operations that yield one value in every world of a class are taken first; the others come up one at a time, each in a forced place, and leave a world of the class. For any program. A hasher in memory; New, ok, Len, Clone. The hasher's Write. -/
import Derived.Test.YtbicafgmfgdckaaDoorMgBa
import Derived.Test.YtbicafgmfgdckaaDoorMgAy
import Derived.Test.YtbicafgmfgdckaaDoorMgAz
import Derived.OwnWalk
import Derived.Deep.QuietTactic
import Derived.BigQuiet
import Derived.OrdersHeld
import Derived.Laws.CopyRow
import Derived.Lib.LazyBuf
namespace Go.Proofs.YtbicafgmfgdckaaDoor
open Go Go.RowKit

def leB (x:BitVec 64) (n:Nat):List (BitVec 8):=(List.range n).map fun i=>(x >>> (8 * i)).setWidth 8
theorem length_leB (x:BitVec 64) (n:Nat):(leB x n).length=n:=by simp[leB]
theorem leB_at (x:BitVec 64) (n i:Nat) (h:i < n):byteAt (leB x n) i=(x >>> (8 * i)).setWidth 8:=by
 simp[byteAt,leB,List.getD_eq_getElem?_getD,h]
theorem byteAt_set (l:List (BitVec 8)) (i j:Nat) (x:BitVec 8) (h:i < l.length):byteAt (l.set i x) j=if j=i then x else byteAt l j:=by
 unfold byteAt
 rw[List.getD_eq_getElem?_getD,List.getElem?_set,List.getD_eq_getElem?_getD]
 by_cases e:i=j
 ·subst e;simp[h]
 ·rw[if_neg e,if_neg (fun e2=>e e2.symm)]
theorem wpList_make_bytes {P:Program} (w:World) {ops:Array Oper} {rest:List Oper} {o:Oper} {a:Act} {Q:Exit->Act->World->Prop} {t e:TypeId} (T:ByteSlice P t e)
  (hg:o.guard=none) (l c:Operand) (hop:o.op=Op.makeSlice t l c) (n:Nat) (hl:a.eval l=.int .i64 n) (hc:a.eval c=.int .i64 n) (hn:n<=1048576)
  (hK:∀w',RowAt w' w.heap.size e w.heap.size n n (List.replicate n 0#8)->Below w.heap.size w w'->wpList P ops Q rest (a.put o.dst (.slice (some ⟨w.heap.size,0,none⟩) n n)) w') :
  wpList P ops Q (o::rest) a w:=by
 obtain⟨i,hi,hz0,hz1,hz2⟩:=info_parts T.info
 refine wpList_make_full w hg l c t hop w.heap.size e i (.int .u8 0) 1 T.slice hi hz0 hz1 .i64 .i64 n n n hl hc rfl rfl (by rw[hz2];omega) (by unfold maxLen;omega) (Nat.le_refl _) ?_
 intro w' h1 h2
 refine hK w' ⟨?_,by simp⟩ ⟨h2.os,h2.tape,h2.output,h2.size,fun k hk=>h2.block k hk (by simp)⟩
 rw[show (Value.int IntKind.u8 0).cells=#[.int .u8 0] from rfl,toList_madeCells_one,Nat.mul_one] at h1
 rw[List.map_replicate]
 exact h1
def PutRel (x:BitVec 64) (n B:Nat) (w:World) (i:Value) (wr:World):Prop :=
 ∃(k:Nat) (l:List (BitVec 8)),k<=n/\i=.int .i64 k/\RowAt wr B 5 B n n l/\(∀j,j < k->byteAt l j=(x >>> (8 * j)).setWidth 8)/\Below B w wr
theorem put_any (x:BitVec 64) (n:Nat) (h1:1<=n) (h8:n<=8) (w:World):Calls Tryd.prog 80 #[U64 x,.int .i64 n] w fun e w' =>
  e=.returned (.slice (some ⟨w.heap.size,0,none⟩) n n)/\RowAt w' w.heap.size 5 w.heap.size n n (leB x n)/\Below w.heap.size w w':=by
 have hb1:(1:Int)<=n:=by omega
 have hb2:(n:Int)<=8:=by omega
 go_enter Tryd.func80,Tryd.ntmps80
 go_wp2_with (at_make;refine wpList_make_bytes w byteSlice rfl _ _ rfl n rfl rfl (by omega) ?_;intro w1 hr hbl)
 have hB:w.heap.size<=w.heap.size:=Nat.le_refl _
 generalize hbe:w.heap.size=B at *
 have HBE:=Lib.hid hbe
 clear hbe
 go_loopw [17] (fun i wr=>PutRel x n B w i wr) (fun i _=>n - (intOf i).toNat)
 case atStart=>exact⟨0,_,by omega,rfl,hr,fun j h=>by omega,hbl⟩
 case round =>
  clear hr hbl
  obtain⟨k,l,hk,rfl,hr,hj,hbw⟩:=hrel
  by_cases hlt:k < n
  ·have hth:=hr.thawed k
   have hc:=hr.cell k hlt
   have HR:=Lib.hid hr
   have HJ:=Lib.hid hj
   have HB:=Lib.hid hbw
   clear hr hj hbw
   have h0:(0:Int)<=8 * (k:Int):=by omega
   have ht:(8 * (k:Int)).toNat=8 * k:=by omega
   go_wp2
   go_roundw
   case rel =>
    have t:Touch (fun q=>q=B) wr (wr.setCell ⟨B,k,none⟩ (U8 ((x >>> (8 * k)).setWidth 8))):=Touch.set wr B k _ rfl
    refine⟨k+1,l.set k ((x >>> (8 * k)).setWidth 8),by omega,by go_num,HR.out.set k _,fun j hj=>?_,HB.out.trans (t.below (fun q e=>by omega) (HBE.out ▸ HB.out.size))⟩
    rw[byteAt_set _ _ _ _ (by rw[HR.out.2];exact hlt)]
    split
    ·rename_i e;subst e;rfl
    ·exact HJ.out j (by omega)
   case measure=>simp[intOf];omega
  ·obtain rfl:k=n:=by omega
   have e:l=leB x k:=list_ext (by rw[hr.2,length_leB]) fun j h=>by rw[hr.2] at h;rw[hj j h,leB_at _ _ _ h]
   subst e
   have HR:=Lib.hid hr
   have HB:=Lib.hid hbw
   clear hr hj hbw
   go_wp2
   go_ret
   rw[HBE.out]
   exact⟨rfl,HR.out,HB.out⟩
def RevRel (l:List (BitVec 8)) (B g cap:Nat) (w:World) (i j:Value) (wr:World):Prop :=
 ∃(k:Nat) (f:List (BitVec 8)),2 * k<=l.length/\i=.int .i64 k/\j=.int .i64 ((l.length:Int) - 1 - k)/\RowAt wr B 5 g cap l.length f /\
  (∀q,q < l.length->byteAt f q=if q < k\/l.length - k<=q then byteAt l (l.length - 1 - q) else byteAt l q)/\Touch (fun q=>q=g) w wr
theorem reverse_any (l:List (BitVec 8)) (B g cap:Nat) (w:World) (h0:1<=l.length) (hl:l.length<=1048576) (hr:RowAt w B 5 g cap l.length l) :
  Calls Tryd.prog 81 #[.slice (some ⟨g,0,none⟩) l.length cap] w fun e w'=>e=.returned (.tuple #[])/\RowAt w' B 5 g cap l.length l.reverse/\Touch (fun q=>q=g) w w':=by
 have hl0:(1:Int)<=l.length:=by omega
 have hl8:(l.length:Int)<=1048576:=by omega
 go_enter Tryd.func81,Tryd.ntmps81
 go_wp2
 go_loopw [2,3] (fun i j wr=>RevRel l B g cap w i j wr) (fun i _ _=>l.length - (intOf i).toNat)
 case atStart=>exact⟨0,l,by omega,rfl,by simp,hr,fun q h=>by rw[if_neg (by omega)],Touch.refl _ _⟩
 case round =>
  clear hr
  obtain⟨k,f,hk,rfl,rfl,hr,hq,ht⟩:=hrel
  by_cases hlt:2 * k+1 < l.length
  ·obtain⟨m,hm⟩:∃m:Nat,(l.length:Int) - 1 - k=m:=⟨l.length - 1 - k,by omega⟩
   have hm2:m=l.length - 1 - k:=by omega
   rw[hm]
   have c1:=hr.cell k (by omega)
   have c2:=hr.cell m (by omega)
   have f1:=hr.thawed k
   have f2:=hr.thawed m
   have hkm:k≠m:=by omega
   have hq1:=hq k (by omega)
   have hq2:=hq m (by omega)
   rw[if_neg (by omega)] at hq1 hq2
   rw[hq1] at c1
   rw[hq2] at c2
   have HR:=Lib.hid hr
   have HQ:=Lib.hid hq
   have HT:=Lib.hid ht
   have H1:=Lib.hid hq1
   have H2:=Lib.hid hq2
   clear hr hq ht hq1 hq2
   have hlen:m < l.length:=by omega
   have hlen1:k < l.length:=by omega
   have hkm2:(k:Int) < m:=by omega
   have HM:=Lib.hid hm2
   clear hm hm2
   generalize e1:byteAt l k=xk at *
   generalize e2:byteAt l m=xm at *
   have E1:=Lib.hid e1
   have E2:=Lib.hid e2
   clear e1 e2
   go_wp2_with fail
   go_region
   clear c1 c2 f1 f2
   go_wp2
   go_roundw
   case rel =>
    have hml:=HM.out
    have hfl:f.length=l.length:=HR.out.2
    have t:Touch (fun q=>q=g) wr ((wr.setCell ⟨g,k,none⟩ (U8 xm)).setCell ⟨g,m,none⟩ (U8 xk)).drew:=by
     have t1:Touch (fun q=>q=g) wr (wr.setCell ⟨g,k,none⟩ (U8 xm)):=Touch.set wr g k _ rfl
     have t2:Touch (fun q=>q=g) (wr.setCell ⟨g,k,none⟩ (U8 xm)) ((wr.setCell ⟨g,k,none⟩ (U8 xm)).setCell ⟨g,m,none⟩ (U8 xk)):=Touch.set _ g m _ rfl
     exact(t1.trans t2).drewN 1
    have hr2:RowAt ((wr.setCell ⟨g,k,none⟩ (U8 xm)).setCell ⟨g,m,none⟩ (U8 xk)).drew B 5 g cap l.length ((f.set k xm).set m xk):=((HR.out.set k xm).set m xk).drewN 1
    refine⟨k+1,(f.set k xm).set m xk,by omega,by go_num,by simp only[Value.int.injEq,true_and];omega,hr2,fun q hq=>?_,HT.out.trans t⟩
    rw[byteAt_set _ _ _ _ (by simp;omega),byteAt_set _ _ _ _ (by omega)]
    by_cases hqm:q=m
    ·rw[if_pos hqm,if_pos (by omega),<- E1.out];congr 1;omega
    ·rw[if_neg hqm]
     by_cases hqk:q=k
     ·rw[if_pos hqk,if_pos (by omega),<- E2.out];congr 1;omega
     ·rw[if_neg hqk,HQ.out q hq]
      by_cases hq3:q < k\/l.length - k<=q
      ·rw[if_pos hq3,if_pos (by omega)]
      ·rw[if_neg hq3,if_neg (by omega)]
   case measure=>simp[intOf];omega
  ·have e:f=l.reverse:=list_ext (by rw[hr.2,List.length_reverse]) fun j h=>by
    have h2:j < l.length:=by rw[hr.2] at h;exact h
    have h3:byteAt l.reverse j=byteAt l (l.length - 1 - j):=by
     rw[byteAt_lt (by simpa using h2),List.getElem_reverse,byteAt_lt (by omega)]
    rw[hq j h2,h3]
    by_cases hq3:j < k\/l.length - k<=j
    ·rw[if_pos hq3]
    ·rw[if_neg hq3];congr 1;omega
   subst e
   have HR:=Lib.hid hr
   have HT:=Lib.hid ht
   clear hr hq ht
   go_wp2
   exact bodyPost_end (results_none rfl _ _ _) rfl ⟨rfl,HR.out,HT.out⟩
def beB (x:BitVec 64) (n:Nat):List (BitVec 8):=(leB x n).reverse
theorem big_any (x:BitVec 64) (n:Nat) (h1:1<=n) (h8:n<=8) (w:World):Calls Tryd.prog 65 #[U64 x,.int .i64 n] w fun e w' =>
  e=.returned (.slice (some ⟨w.heap.size,0,none⟩) n n)/\RowAt w' w.heap.size 5 w.heap.size n n (beB x n)/\Below w.heap.size w w':=by
 have PU:=put_any x n h1 h8 w
 have hl:=length_leB x n
 have RV:∀w',RowAt w' w.heap.size 5 w.heap.size n n (leB x n)->Calls Tryd.prog 81 #[.slice (some ⟨w.heap.size,0,none⟩) n n] w' fun e w''=>e=.returned (.tuple #[])/\RowAt w'' w.heap.size 5 w.heap.size n n (beB x n)/\Touch (fun q=>q=w.heap.size) w' w'':=by
  intro w' hr
  have:=reverse_any (leB x n) w.heap.size w.heap.size n w' (by omega) (by omega) (by rw[hl];exact hr)
  rw[hl] at this
  exact this
 go_enter Tryd.func65,Tryd.ntmps65
 go_wp2_with fail
 refine PU.mono ?_
 rintro e w1 ⟨rfl,hr,hb⟩
 go_wp2_with fail
 refine(RV _ hr).mono ?_
 rintro e w2 ⟨rfl,hr2,ht⟩
 go_wp2
 go_ret
 exact⟨rfl,hr2,hb.trans (ht.below (fun q e=>by omega) hb.size)⟩
end Go.Proofs.YtbicafgmfgdckaaDoor
namespace Go.Proofs.YtbicafgmfgdckaaDoor
open Go Go.RowKit

structure Later (w:World) where
 to:World
 below:Below w.heap.size w to
theorem Later.cell {w:World} (x:Later w) {p:Addr} {v:Value} (h:w.cell? p=some v):x.to.cell? p=some v:=Keeps.below x.below p v h
/- At a region,written out (a macro of one's own is refused in a claim):
 refine wp_region_later (by kernel_rfl) (by kernel_rfl) ?_
 repeat (first|go_big_quiet_step (tac) | quiet_step (tac))
 refine wpQuiet_nil ?_
 rintro _ ⟨x,rfl⟩
-/
end Go.Proofs.YtbicafgmfgdckaaDoor
namespace Go.Proofs.YtbicafgmfgdckaaDoor
open Go

section
variable {P:Program} {ops:Array Oper} {Q:Exit->Act->World->Prop}

def valueOp:Op->Bool
 | .move _ | .assign _ | .load .. | .binOp .. | .unOp .. | .fieldAddr .. | .field .. | .indexAddr .. | .index .. | .slice .. | .extract .. | .pick .. | .nilCheck _ | .convert .. | .build ..=>true
 | .call { callee:=.builtin b,.. }=>match b with | .len | .cap | .min | .max=>true|_=>false
 | _=>false
theorem run_value {s:Sem Value} {w w':World} {n:Next} (h:(do pure (.value (<- s)):Sem Next).run P w=.ok n w'):∃v,n=.value v:=by
 rw[Sem.run_bind] at h
 cases hs:s.run P w with
 | ok v w1=>rw[hs] at h;simp only[Result.andThen_ok,Sem.run_pure] at h;injection h with h1 _;exact⟨v,h1.symm⟩
 | halt x w1=>rw[hs] at h;cases h
def Yields' (m:Sem Next):Prop:=∀(P:Program) (w w':World) (n:Next),m.run P w=.ok n w'->∃v,n=.value v
theorem yields_v (s:Sem Value):Yields' (do pure (.value (<- s)):Sem Next):=fun _ _ _ _ h=>run_value h
theorem yields_pure (v:Value):Yields' (pure (.value v):Sem Next):=fun P w w' n h=>by
 rw[Sem.run_pure] at h;injection h with h1 _;exact⟨v,h1.symm⟩
theorem yields_bind {α:Type} (s:Sem α) (f:α->Sem Next) (h:∀x,Yields' (f x)):Yields' (s >>= f):=fun P w w' n hr=>by
 rw[Sem.run_bind] at hr
 cases hs:s.run P w with
 | ok x w1=>rw[hs] at hr;simp only[Result.andThen_ok] at hr;exact h x P w1 w' n hr
 | halt x w1=>rw[hs] at hr;cases hr
theorem yields_halt (h:Halt):Yields' (Sem.halt h:Sem Next):=fun P w w' n hr=>by simp[Sem.run] at hr
theorem yields_rt:Yields' (runtimePanic .nilDeref:Sem Next):=by
 unfold runtimePanic
 refine yields_bind _ _ fun p=>?_
 exact yields_halt _
theorem yields_nilCheck (ρ:Operand->Value) (o:Oper) (x:Operand) (h:o.op=.nilCheck x):Yields' (execOp ρ o):=by
 unfold execOp
 simp only[h]
 split
 ·exact yields_rt
 ·exact yields_rt
 ·exact yields_rt
 ·split
  ·exact yields_rt
  ·refine yields_bind _ _ fun p=>yields_bind _ _ fun q=>?_
   split
   ·exact yields_bind _ _ fun _=>yields_pure _
   ·exact yields_pure _
  ·exact yields_pure _
 ·exact yields_pure _
theorem yields_op (ρ:Operand->Value) (o:Oper) (hv:valueOp o.op=true):Yields' (execOp ρ o):=by
 by_cases hc:∃x,o.op=.nilCheck x
 ·obtain⟨x,hx⟩:=hc;exact yields_nilCheck ρ o x hx
 have hn:∀x,o.op≠.nilCheck x:=fun x e=>hc ⟨x,e⟩
 clear hc
 obtain⟨dst,op,ty,pos,after,guard⟩:=o
 cases op<;>simp only[valueOp,Bool.false_eq_true] at hv
 case nilCheck x=>exact(hn x rfl).elim
 case call c =>
  obtain⟨callee,args,ats⟩:=c
  cases callee with
  | builtin b=>cases b<;>first|exact yields_v _ | (simp at hv)
  | value f=>simp at hv
  | invoke r m=>simp at hv
 case move x=>exact yields_pure _
 case assign x=>exact yields_pure _
 case pick c a b=>exact yields_bind _ _ fun _=>yields_pure _
 all_goals exact yields_v _

def flatB (ops:Array Oper):List (Bool × Nat)->Array Bool->Bool
 | [],listed=>(Region.ready .any ops listed).isEmpty
 |(true,i)::l,listed=>((ops[i]?).map fun o=>valueOp o.op).getD false&&Region.free .any ops listed i&&(Region.ready .any ops listed).contains i&&flatB ops l (listed.setIfInBounds i true)
 |(false,i)::l,listed=>(Region.ready .any ops listed==[i])&&flatB ops l (listed.setIfInBounds i true)
def wpFlat (P:Program) (ops:Array Oper) (Q:Exit->Act->World->Prop):List (Bool × Nat)->(World->Prop)->Act->World->Prop
 | [],_,a,w=>Q .normal a w
 |(true,i)::l,S,a,w=>∃o v,ops[i]?=some o/\YieldsIf P ops S o v a/\wpFlat P ops Q l S (a.put o.dst v) w
 |(false,i)::l,S,a,w=>wpOp P ops Q i (fun a' w'=>∃S':World->Prop,(∀x,S' x->S x)/\S' w'/\wpFlat P ops Q l S' a' w') a w
theorem wpAnyH_sub {md:Region.Mode} {S S':World->Prop} (h:∀x,S' x->S x):∀(fuel:Nat) (listed:Array Bool) (a:Act) (w:World),wpAnyH P md ops Q S' fuel listed a w->wpAnyH P md ops Q S fuel listed a w
 | 0,_,_,_,k=>k
 | f+1,_,_,_,k=>⟨k.1,fun i hi=>wpOp_mono (fun a' w' k'=>⟨h _ k'.1,wpAnyH_sub h f _ a' w' k'.2⟩) (k.2 i hi)⟩
theorem flat_sound (hs:Region.noSelect ops=true) (hQ:∀(c:List PanicEntry) (a:Act) (d:Option Tmp) (v:Value) (w:World),Q (.panic c) (a.put d v) w->Q (.panic c) a w) :
  ∀(l:List (Bool × Nat)) (fuel:Nat) (listed:Array Bool) (S:World->Prop) (a:Act) (w:World),l.length<=fuel->flatB ops l listed=true->S w->wpFlat P ops Q l S a w->wpAnyH P .any ops Q S fuel listed a w
 | [],fuel,listed,S,a,w,_,hB,_,h=>wpAnyH_done (by simpa [flatB] using hB) h fuel
 |(true,i)::l,0,_,_,_,_,hf,_,_,_=>by simp at hf
 |(false,i)::l,0,_,_,_,_,hf,_,_,_=>by simp at hf
 |(true,i)::l,fuel+1,listed,S,a,w,hf,hB,hS,h=>by
  simp only[flatB,Bool.and_eq_true] at hB
  obtain⟨o,v,ho,hy,hk⟩:=h
  exact wpAnyH_take ho hs hB.1.1.2 hB.1.2 (fun c a w=>hQ c a o.dst v w) hy hS (flat_sound hs hQ l fuel _ S _ w (by simpa using hf) hB.2 hS hk)
 |(false,i)::l,fuel+1,listed,S,a,w,hf,hB,hS,h=>by
  simp only[flatB,Bool.and_eq_true,beq_iff_eq] at hB
  refine wpAnyH_all hB.1 (by simp) fun j hj=>?_
  simp only[List.mem_singleton] at hj
  subst hj
  refine wpOp_mono (fun a' w' k=>?_) h
  obtain⟨S',h1,h2,h3⟩:=k
  exact⟨h1 _ h2,wpAnyH_sub h1 fuel _ a' w' (flat_sound hs hQ l fuel _ S' a' w' (by simpa using hf) hB.2 h2 h3)⟩

def opsOf (L:List Oper) (is:List Nat):List Oper:=is.filterMap fun i=>L[i]?
def LatePost (Q:Exit->Act->World->Prop) (S:World->Prop) (K:(World->Prop)->Act->World->Prop):Exit->Act->World->Prop
 | .normal,a,w=>∃S':World->Prop,(∀x,S' x->S x)/\S' w/\K S' a w
 | e,a,w=>Q e a w
def wpPlan (P:Program) (L:List Oper) (Q:Exit->Act->World->Prop):List (List Nat × Option Nat)->(World->Prop)->Act->World->Prop
 | [],_,a,w=>Q .normal a w
 |(is,none)::l,S,a,w=>wpQuiet P L.toArray S (fun a'=>wpPlan P L Q l S a' w) (opsOf L is) a
 |(is,some j)::l,S,a,w=>wpQuiet P L.toArray S (fun a'=>wpList P L.toArray (LatePost Q S fun S' a' w'=>wpPlan P L Q l S' a' w') (opsOf L [j]) a' w) (opsOf L is) a
def flatOf:List (List Nat × Option Nat)->List (Bool × Nat)
 | []=>[]
 |(is,none)::l=>is.map (fun i=>(true,i))++flatOf l
 |(is,some j)::l=>is.map (fun i=>(true,i))++(false,j)::flatOf l
def placesB (n:Nat) (p:List (List Nat × Option Nat)):Bool:=(flatOf p).all fun x=>decide (x.2 < n)
def planB (L:List Oper) (p:List (List Nat × Option Nat)):Bool :=
 Region.noSelect L.toArray&&decide ((flatOf p).length<=L.length)&&placesB L.length p&&flatB L.toArray (flatOf p) (Array.replicate L.toArray.size false)
theorem yieldsIf_of_quiet {S:World->Prop} {o:Oper} {a:Act} {K:Act->Prop} (hv:valueOp o.op=true)
  (h:if Region.wanted o (yielded ops a.tmps) then o.quiet P a S K else K (a.put o.dst undef)):∃v,YieldsIf P ops S o v a/\K (a.put o.dst v):=by
 by_cases hw:Region.wanted o (yielded ops a.tmps)=true
 ·rw[if_pos hw] at h
  obtain⟨v,h1,h2⟩:=h
  refine⟨v,.inl ⟨hw,fun w hS=>?_⟩,h2⟩
  have h3:=h1 w hS
  unfold Oper.quietAt at h3
  have h4:=yields_op a.eval o hv P w
  generalize (execOp a.eval o).run P w=r at h3 h4
  cases r with
  | ok n w' =>
   obtain⟨u,rfl⟩:=h4 w' n rfl
   simp only[Oper.quietUpon] at h3
   obtain⟨e1,e2⟩:=h3
   rw[e1,e2]
  | halt x w'=>simp only[Oper.quietUpon] at h3
 ·rw[if_neg hw] at h
  exact⟨undef,.inr ⟨by simpa using hw,rfl⟩,h⟩
theorem flat_of_quiet {L:List Oper} {S:World->Prop} {l:List (Bool × Nat)} {w:World}:∀(is:List Nat) (a:Act),(∀i∈is,i < L.length)->(∀i∈is,∀o,L[i]?=some o->valueOp o.op=true) ->
  wpQuiet P L.toArray S (fun a'=>wpFlat P L.toArray Q l S a' w) (opsOf L is) a->wpFlat P L.toArray Q (is.map (fun i=>(true,i))++l) S a w
 | [],a,_,_,h=>h
 | i::is,a,hl,hv,h=>by
  have hi:i < L.length:=hl i (by simp)
  have ho:L[i]?=some L[i]:=List.getElem?_eq_getElem hi
  have e:opsOf L (i::is)=L[i]::opsOf L is:=by simp[opsOf,ho]
  rw[e] at h
  obtain⟨v,h1,h2⟩:=yieldsIf_of_quiet (hv i (by simp) _ ho) (by unfold wpQuiet at h;exact h)
  exact⟨L[i],v,by simp,h1,flat_of_quiet is _ (fun j hj=>hl j (by simp[hj])) (fun j hj=>hv j (by simp[hj])) h2⟩
theorem flat_vals {L:List Oper}:∀(l:List (Bool × Nat)) (listed:Array Bool),flatB L.toArray l listed=true->∀i,(true,i)∈l->∀o,L[i]?=some o->valueOp o.op=true
 | [],_,_,i,hi,_,_=>by simp at hi
 |(true,j)::l,listed,hB,i,hi,o,ho=>by
  simp only[flatB,Bool.and_eq_true] at hB
  rcases List.mem_cons.1 hi with e|hi
  ·injection e with _ e;subst e
   have:=hB.1.1.1
   simpa [ho] using this
  ·exact flat_vals l _ hB.2 i hi o ho
 |(false,j)::l,listed,hB,i,hi,o,ho=>by
  simp only[flatB,Bool.and_eq_true] at hB
  rcases List.mem_cons.1 hi with e|hi
  ·injection e with e _;cases e
  ·exact flat_vals l _ hB.2 i hi o ho
theorem flat_of_plan {L:List Oper}:∀(p:List (List Nat × Option Nat)) (S:World->Prop) (a:Act) (w:World),(∀x∈flatOf p,x.2 < L.length)->(∀i,(true,i)∈flatOf p->∀o,L[i]?=some o->valueOp o.op=true) ->
  wpPlan P L Q p S a w->wpFlat P L.toArray Q (flatOf p) S a w
 | [],_,_,_,_,_,h=>h
 |(is,none)::l,S,a,w,hl,hv,h=>by
  refine flat_of_quiet is a (fun i hi=>hl (true,i) (by simp[flatOf,hi])) (fun i hi=>hv i (by simp[flatOf,hi])) (wpQuiet_mono (fun a' h'=>?_) _ _ h)
  exact flat_of_plan l S a' w (fun x hx=>hl x (by simp[flatOf,hx])) (fun i hi=>hv i (by simp[flatOf,hi])) h'
 |(is,some j)::l,S,a,w,hl,hv,h=>by
  refine flat_of_quiet is a (fun i hi=>hl (true,i) (by simp[flatOf,hi])) (fun i hi=>hv i (by simp[flatOf,hi])) (wpQuiet_mono (fun a' h'=>?_) _ _ h)
  have hj:j < L.length:=hl (false,j) (by simp[flatOf])
  have ho:L[j]?=some L[j]:=List.getElem?_eq_getElem hj
  have e:opsOf L [j]=[L[j]]:=by simp[opsOf,ho]
  rw[e] at h'
  have hop:=wpOp_of_list (Q':=Q) (n:=j) (by simp) (fun e a w he hx=>by cases e<;>first|exact(he rfl).elim|exact hx) h'
  refine wpOp_mono (fun a2 w2 k=>?_) hop
  obtain⟨S',h1,h2,h3⟩:=k
  exact⟨S',h1,h2,flat_of_plan l S' a2 w2 (fun x hx=>hl x (by simp[flatOf,hx])) (fun i hi=>hv i (by simp[flatOf,hi])) h3⟩
theorem wp_region_plan {id:Nat} {L:List Oper} {a:Act} {w:World} (p:List (List Nat × Option Nat)) (S:World->Prop) (hm:P.follows .mixedOrders=true) (hB:planB L p=true)
  (hQ:∀(c:List PanicEntry) (a:Act) (d:Option Tmp) (v:Value) (w:World),Q (.panic c) (a.put d v) w->Q (.panic c) a w) (hS:S w.drew) (h:wpPlan P L Q p S a w.drew):(Code.region id L.toArray true).wp P Q a w:=by
 simp only[planB,Bool.and_eq_true,decide_eq_true_eq] at hB
 obtain⟨⟨⟨b1,b2⟩,b3⟩,b4⟩:=hB
 refine wp_region_held (S:=S) hm ?_
 have hpl:∀x∈flatOf p,x.2 < L.length:=fun x hx=>by
  have:=List.all_eq_true.1 b3 x hx
  simpa using this
 exact flat_sound b1 hQ (flatOf p) _ _ S a _ (by simpa using b2) b4 hS (flat_of_plan p S a _ hpl (flat_vals _ _ b4) h)
theorem plan_some {L:List Oper} {is:List Nat} {j:Nat} {l:List (List Nat × Option Nat)} {S:World->Prop} {a:Act} {w:World}
  (h:wpQuiet P L.toArray S (fun a'=>wpList P L.toArray (LatePost Q S fun S' a' w'=>wpPlan P L Q l S' a' w') (opsOf L [j]) a' w) (opsOf L is) a):wpPlan P L Q ((is,some j)::l) S a w:=h
theorem plan_none {L:List Oper} {is:List Nat} {l:List (List Nat × Option Nat)} {S:World->Prop} {a:Act} {w:World}
  (h:wpQuiet P L.toArray S (fun a'=>wpPlan P L Q l S a' w) (opsOf L is) a):wpPlan P L Q ((is,none)::l) S a w:=h
theorem plan_nil {L:List Oper} {S:World->Prop} {a:Act} {w:World} (h:Q .normal a w):wpPlan P L Q [] S a w:=h
theorem late_normal {S S':World->Prop} {K:(World->Prop)->Act->World->Prop} {a:Act} {w:World} (h1:∀x,S' x->S x) (h2:S' w) (h3:K S' a w):LatePost Q S K .normal a w:=⟨S',h1,h2,h3⟩
end
instance later_ne (w:World):Nonempty (Later w):=⟨⟨w,RowKit.Below.refl _ _⟩⟩
theorem later_drew (w:World):∃x:Later w,w.drew=x.to:=⟨⟨w.drew,(RowKit.Below.refl _ _).drew⟩,rfl⟩
theorem later_of {w w':World} (h:RowKit.Below w.heap.size w w'):∃x:Later w,w'=x.to:=⟨⟨w',h⟩,rfl⟩
structure Of (S:World->Prop) where
 to:World
 ok:S to
theorem of_mk {S:World->Prop} {w:World} (h:S w):∃x:Of S,w=x.to:=⟨⟨w,h⟩,rfl⟩
theorem of_ne {S:World->Prop} {w:World} (h:S w):Nonempty (Of S):=⟨⟨w,h⟩⟩
end Go.Proofs.YtbicafgmfgdckaaDoor
namespace Go.Proofs.YtbicafgmfgdckaaDoor
open Go Go.RowKit

theorem run_loadVar_part {P:Program} (w:World) (g o:Nat) (t ty:TypeId) (cs:Array Value) (fr:Nat × Nat) (d:TypeDesc) (part:List Value) (hg:w.heap[g]?=some (.cells cs t fr)) (hp:∀j v,part[j]?=some v->cs[o+j]?=some v)
  (hu:P.underlying ty=some d) (hd:(match d with | .struct _ | .array _ _=>true|_=>false)=true) (hi:(P.info? ty).map (·.size)=some part.length) :
  (loadVar ty ⟨g,o,none⟩).run P w=.ok (.agg part.toArray) w:=by
 have hl:(loadCells ⟨g,o,none⟩ part.length).run P w=.ok part.toArray w :=
  run_loadCells_list (P:=P) w ⟨g,o,none⟩ part (fun j v hv=>by
   rw[Addr.add_lit,cell_of_row w g (o+j) cs t fr hg]
   exact hp j v hv)
 cases hq:P.info? ty with
 | none=>simp[hq] at hi
 | some i =>
  have hs:i.size=part.length:=by simpa [hq] using hi
  have hagg:(isAgg ty).run P w=.ok true w:=by
   unfold isAgg
   rw[Sem.run_bind,run_underlying hu w]
   cases d<;>simp_all
  simp[loadVar,Sem.run_bind,hagg,sizeOf,typeInfo,hq,hs,hl]
theorem wpList_load_part {P:Program} {ops:Array Oper} {rest:List Oper} {o:Oper} {a:Act} {w:World} {Q:Exit->Act->World->Prop} (hgd:o.guard=none) (ty:TypeId) (x:Operand) (ho:o.op=.load ty x)
  (g off:Nat) (hx:a.eval x=.pointer (some ⟨g,off,none⟩)) (t:TypeId) (cs:Array Value) (fr:Nat × Nat) (d:TypeDesc) (part:List Value) (hg:w.heap[g]?=some (.cells cs t fr)) (hp:∀j v,part[j]?=some v->cs[off+j]?=some v)
  (hu:P.underlying ty=some d) (hd:(match d with | .struct _ | .array _ _=>true|_=>false)=true) (hi:(P.info? ty).map (·.size)=some part.length)
  (h:wpList P ops Q rest (a.put o.dst (.agg part.toArray)) w):wpList P ops Q (o::rest) a w :=
 wpList_plain hgd fun _ hK=>by
  unfold Oper.wp execOp
  simp only[ho,hx,Instr.loadAt,Instr.sureAddr,Sem.run_bind,Sem.run_pure,Result.andThen_ok,run_loadVar_part w g off t ty cs fr d part hg hp hu hd hi]
  exact hK _ _ h
theorem wpList_store_part {P:Program} {ops:Array Oper} {rest:List Oper} {o:Oper} {a:Act} {w:World} {Q:Exit->Act->World->Prop} (hgd:o.guard=none) (ty:TypeId) (x y:Operand) (ho:o.op=.store ty x y)
  (g off:Nat) (part:List Value) (hx:a.eval x=.pointer (some ⟨g,off,none⟩)) (hy:a.eval y=.agg part.toArray)
  (t:TypeId) (old:Array Value) (hg:w.heap[g]?=some (.cells old t (0,0))) (hi:(P.info? ty).map (·.size)=some part.length)
  (hfit:off+part.length<=old.size) (h1:∀v∈part,v.oneCell'=true)
  (h:wpList P ops Q rest (a.put o.dst undef) (w.setRow g (old.toList.take off++part++old.toList.drop (off+part.length)).toArray)):wpList P ops Q (o::rest) a w :=
 wpList_plain hgd fun _ hK=>by
  have hst:=run_storeCells_at P g off t part 0 old w hg (by omega) h1
  simp only[Nat.add_zero] at hst
  have hsv:(storeVar ty ⟨g,off,none⟩ (.agg part.toArray)).run P w=.ok () (w.setRow g (old.toList.take off++part++old.toList.drop (off+part.length)).toArray):=by
   cases hq:P.info? ty with
   | none=>simp[hq] at hi
   | some i =>
    have hs:part.length=i.size:=by simp[hq] at hi;omega
    simp[storeVar,sizeOf,typeInfo,hq,Value.cells,hs]
    rw[<- hs,<- List.append_assoc]
    exact hst
  unfold Oper.wp execOp
  simp only[ho,hx,hy,Instr.storeAt,Instr.sureAddr,Sem.run_bind,Sem.run_pure,Result.andThen_ok,hsv]
  exact hK _ _ h

def hashCells (m:Bool) (f:Words) (v:Value) (n:Int):List Value:=.bool m::(f.map U32++[v,.int .i64 n])
structure HAt (w:World) (b:Nat) (m:Bool) (f:Words) (v:Value) (n:Int):Prop where
 row:w.heap[b]?=some (.cells (hashCells m f v n).toArray 106 (0,0))
 len:f.length=8
section
variable {w w':World} {b:Nat} {m:Bool} {f:Words} {v:Value} {n:Int}
theorem HAt.lt (h:HAt w b m f v n):b < w.heap.size:=heap_lt h.row
theorem HAt.made (h:HAt w b m f v n):w.cell? ⟨b,0,none⟩=some (.bool m):=by
 rw[cell_of_row w b 0 _ _ _ h.row];rfl
theorem HAt.rest (h:HAt w b m f v n):w.cell? ⟨b,9,none⟩=some v:=by
 rw[cell_of_row w b 9 _ _ _ h.row]
 have:=h.len
 match f,this with
 | [_,_,_,_,_,_,_,_],_=>rfl
theorem HAt.n_ (h:HAt w b m f v n):w.cell? ⟨b,10,none⟩=some (.int .i64 n):=by
 rw[cell_of_row w b 10 _ _ _ h.row]
 have:=h.len
 match f,this with
 | [_,_,_,_,_,_,_,_],_=>rfl
theorem HAt.thawed (h:HAt w b m f v n) (o:Nat):w.frozen? ⟨b,o,none⟩=false:=by simp[World.frozen?,h.row]
theorem HAt.part (h:HAt w b m f v n) (j:Nat) (x:Value) (hx:(f.map U32)[j]?=some x):(hashCells m f v n).toArray[1+j]?=some x:=by
 have hj:j < f.length:=by
  have:=(List.getElem?_eq_some_iff.1 hx).1
  simpa using this
 rw[List.getElem?_toArray,hashCells,Nat.add_comm,List.getElem?_cons_succ,List.getElem?_append_left (by simpa using hj)]
 exact hx
theorem HAt.touch {F:Nat->Prop} (h:HAt w b m f v n) (t:Touch F w w') (hn:¬F b):HAt w' b m f v n:=⟨by rw[t.block b h.lt hn];exact h.row,h.len⟩
theorem HAt.below (h:HAt w b m f v n) (hb:Below w.heap.size w w'):HAt w' b m f v n:=h.touch (F:=fun _=>False) (.of_below hb) fun e=>e
theorem HAt.drewN (h:HAt w b m f v n) (j:Nat):HAt (w.drewN j) b m f v n:=⟨h.row,h.len⟩
theorem HAt.setRest (h:HAt w b m f v n) (u:Value):HAt (w.setCell ⟨b,9,none⟩ u) b m f u n:=by
 refine⟨?_,h.len⟩
 rw[setCell_eq_setRow w b 9 _ _ _ u h.row,setRow_heap w b _ _ _ _ h.row]
 have:=h.len
 match f,this with
 | [_,_,_,_,_,_,_,_],_=>rfl
theorem HAt.setN (h:HAt w b m f v n) (k:Int):HAt (w.setCell ⟨b,10,none⟩ (.int .i64 k)) b m f v k:=by
 refine⟨?_,h.len⟩
 rw[setCell_eq_setRow w b 10 _ _ _ (.int .i64 k) h.row,setRow_heap w b _ _ _ _ h.row]
 have:=h.len
 match f,this with
 | [_,_,_,_,_,_,_,_],_=>rfl
theorem HAt.setState (h:HAt w b m f v n) (g:Words) (hg:g.length=8) :
  HAt (w.setRow b ((hashCells m f v n).toArray.toList.take 1++g.map U32++(hashCells m f v n).toArray.toList.drop (1+(g.map U32).length)).toArray) b m g v n:=by
 refine⟨?_,hg⟩
 rw[setRow_heap w b _ _ _ _ h.row]
 have:=h.len
 match f,this,g,hg with
 | [_,_,_,_,_,_,_,_],_,[_,_,_,_,_,_,_,_],_=>rfl
end
theorem words_one (f:Words):∀x∈f.map U32,x.oneCell'=true:=fun x hx=>by obtain⟨y,_,rfl⟩:=List.mem_map.1 hx;rfl
section
variable {ops:Array Oper} {rest:List Oper} {o:Oper} {a:Act} {w:World} {Q:Exit->Act->World->Prop} {b:Nat} {m:Bool} {f:Words} {v:Value} {n:Int}
theorem wpList_load_state (h:HAt w b m f v n) (hgd:o.guard=none) (x:Operand) (ho:o.op=.load 103 x) (hx:a.eval x=.pointer (some ⟨b,1,none⟩))
  (hK:wpList Tryd.prog ops Q rest (a.put o.dst (.agg (arr f))) w):wpList Tryd.prog ops Q (o::rest) a w:=by
 have hag:(Tryd.prog.info? 103).map (·.size)=some (f.map U32).length:=by rw[List.length_map,h.len];kernel_rfl
 exact wpList_load_part hgd 103 x ho b 1 hx _ _ _ _ (f.map U32) h.row (fun j v hv=>h.part j v hv) Tryd.underlying103 rfl hag hK
theorem wpList_store_state (h:HAt w b m f v n) (g:Words) (hg:g.length=8) (hgd:o.guard=none) (x y:Operand) (ho:o.op=.store 103 x y) (hx:a.eval x=.pointer (some ⟨b,1,none⟩)) (hy:a.eval y=.agg (arr g))
  (hK:∀w',HAt w' b m g v n->Touch (fun q=>q=b) w w'->wpList Tryd.prog ops Q rest (a.put o.dst undef) w'):wpList Tryd.prog ops Q (o::rest) a w:=by
 have hag:(Tryd.prog.info? 103).map (·.size)=some (g.map U32).length:=by rw[List.length_map,hg];kernel_rfl
 have hfit:1+(g.map U32).length<=(hashCells m f v n).toArray.size:=by rw[List.length_map,hg];simp[hashCells,h.len]
 exact wpList_store_part hgd 103 x y ho b 1 (g.map U32) hx hy _ _ h.row hag hfit (words_one g) (hK _ (h.setState g hg) (Touch.setRow _ _ _ rfl))
end
theorem hok_any {w:World} {b:Nat} {m:Bool} {f:Words} {v:Value} {n:Int} (h:HAt w b m f v n) :
  Calls Tryd.prog 62 #[.pointer (some ⟨b,0,none⟩)] w fun e w'=>e=.returned (.bool m)/\w=w':=by
 have c0:=h.made
 go_enter Tryd.func62,Tryd.ntmps62
 go_wp2
 go_ret
 exact⟨rfl,rfl⟩
theorem begin_any (w:World):Calls Tryd.prog 61 #[] w fun e w'=>e=.returned (.agg (arr Sha.begin.list))/\Below w.heap.size w w':=by
 obtain⟨z8,hz8,hz8l⟩:=zero_state
 obtain⟨L,hL⟩:∃L:Words,L=Sha.begin.list:=⟨_,rfl⟩
 have hLl:L.length=8:=by rw[hL];rfl
 have hbu:Program.built Tryd.prog 103 [(0,.int .u32 1779033703),(1,.int .u32 3144134277),(2,.int .u32 1013904242),(3,.int .u32 2773480762),(4,.int .u32 1359893119),(5,.int .u32 2600822924),(6,.int .u32 528734635),(7,.int .u32 1541459225)]=some (arr L):=by rw[hL];kernel_rfl
 rw[<- hL]
 clear hL
 have hiv:(Tryd.prog.info? 103).map (·.size)=some (arr L).size:=by rw[arr_size,hLl];kernel_rfl
 have hsz:(arr z8).size=(arr L).size:=by rw[arr_size,arr_size,hLl,hz8l]
 have hov:=arr_one L
 go_enter Tryd.func61,Tryd.ntmps61
 go_wp2_with (with_reducible refine stop_build ?roundEnd)
 refine wpList_built rfl 103 _ rfl (arr L) ?hb0 ?nx1
 case hb0=>go_simp
 clear hbu
 have h3:(w.alloc (.cells (arr z8) 103)).heap[w.heap.size]?=some (.cells (arr z8) 103 (0,0)):=ArrAt.new w 103 z8
 have h4:ArrAt ((w.alloc (.cells (arr z8) 103)).setRow w.heap.size (arr L)) w.heap.size 103 L:=(ArrAt.new w 103 z8).row L
 have t:Touch (fun q=>q=w.heap.size) w ((w.alloc (.cells (arr z8) 103)).setRow w.heap.size (arr L)):=((Touch.refl _ _).alloc _).trans (Touch.setRow _ _ _ rfl)
 go_wp2_with (refine wpList_store_row rfl 103 _ _ rfl w.heap.size (arr L) rfl rfl _ (arr z8) h3 hiv hsz hov ?_)
 refine bodyPost_ret (results_cell_row rfl _ _ w.heap.size _ (arr L) _ _ rfl h4 Tryd.underlying103 rfl hiv) rfl ?_
 exact⟨rfl,t.below (fun q e=>by omega) (Nat.le_refl _)⟩
structure Hasher (w:World) (B b:Nat) (v:Value) (l:List (BitVec 8)):Prop where
 at_:HAt w b true (Sha.held l).list v l.length
 own:Owns w B 5 v (Sha.left l)
 vb:v.ownBlock≠some b
 low:B<=b
theorem new_any (w:World):Calls Tryd.prog 32 #[] w fun e w'=>∃b,e=.returned (.pointer (some ⟨b,0,none⟩))/\w.heap.size<=b/\Hasher w' w.heap.size b (.slice none 0 0) []/\Below w.heap.size w w':=by
 have BG:=begin_any w
 obtain⟨L,hL⟩:∃L:Words,L=Sha.begin.list:=⟨_,rfl⟩
 have hbu:Program.built Tryd.prog 106 [(0,.bool true),(1,.agg (arr L))]=some (hashCells true L (.slice none 0 0) 0).toArray:=by rw[hL];kernel_rfl
 rw[<- hL] at BG
 obtain⟨C,hC⟩:∃C,C=(hashCells true L (.slice none 0 0) 0).toArray:=⟨_,rfl⟩
 rw[<- hC] at hbu
 have HC:=Lib.hid hC
 clear hC
 have hLl:L.length=8:=by rw[hL];rfl
 have HL:=Lib.hid hL
 clear hL
 go_enter Tryd.func32,Tryd.ntmps32
 go_wp2_with fail
 refine BG.mono ?_
 rintro e w2 ⟨rfl,hb2⟩
 clear BG
 go_wp2_with (with_reducible refine stop_build ?roundEnd)
 refine wpList_built rfl 106 _ rfl C ?hb0 ?nx1
 case hb0=>go_simp
 clear hbu
 go_wp2
 go_ret
 have t:Touch (fun _=>False) w2 (w2.alloc (.cells C 106)):=(Touch.refl _ _).alloc _
 have hb:=hb2.size
 have h0:(Sha.held []).list=Sha.begin.list:=rfl
 refine⟨_,rfl,hb,⟨⟨?_,by rw[h0,<- HL.out];exact hLl⟩,owns_nil _ _ _,by simp[Value.ownBlock],hb⟩,hb2.trans (t.below (fun _ e=>e.elim) hb)⟩
 rw[h0,<- HL.out,show (([]:List (BitVec 8)).length:Int)=0 from rfl,<- HC.out]
 exact heap_alloc_new w2 _
theorem clone_none (w:World):Calls Tryd.prog 64 #[.slice none 0 0] w fun e w'=>e=.returned (.slice none 0 0)/\w=w':=by
 have hn:=run_eql_slice_nil (P:=Tryd.prog) w 44 5 none 0 0 byteSlice.slice
 go_enter Tryd.func64,Tryd.ntmps64
 go_wp2
 go_ret
 exact⟨rfl,rfl⟩
theorem clone_some (ad:Addr) (cap:Nat) (l:List (BitVec 8)) (w:World) (hr:Reads w (some ad) cap l) (hl:l.length<=1048576) :
  Calls Tryd.prog 64 #[.slice (some ad) l.length cap] w fun e w'=>∃v,e=.returned v/\Owns w' w.heap.size 5 v l/\Below w.heap.size w w':=by
 have hn:=run_eql_slice_nil (P:=Tryd.prog) w 44 5 (some ad) l.length cap byteSlice.slice
 rw[show (some ad).isNone=false from rfl] at hn
 have ho:Owns (w.alloc (.cells #[] 5)) w.heap.size 5 (.slice (some ⟨w.heap.size,0,none⟩) 0 0) [] :=
  World.ownsRow_lit w (e:=5) (size:=1) #[] 0 (Nat.le_refl _) (by unfold maxLen;omega) rfl
 have hr2:=hr.keeps (Keeps.alloc w (.cells #[] 5))
 have hsz:w.heap.size<=(w.alloc (.cells #[] 5)).heap.size:=by simp
 have hlen:([]:List (BitVec 8)).length+l.length<=140737488355328:=by simp;omega
 have t1:Touch (fun q=>w.heap.size<=q) w (w.alloc (.cells #[] 5)):=(Touch.refl _ _).alloc _
 go_enter Tryd.func64,Tryd.ntmps64
 go_wp2_with (at_builtin;refine wpList_append_bytes_at byteSlice rfl _ _ rfl w.heap.size _ [] rfl ho (some ad) cap l rfl hr2 hlen hsz ?_;intro v w5 ho5 hg5 _)
 go_ret
 refine⟨v,rfl,ho5,?_⟩
 have t2:Touch (fun q=>w.heap.size<=q) (w.alloc (.cells #[] 5)) w5:=.of_grown hg5 fun k hk=>by
  injection hk with hk;rw[<- hk];exact Nat.le_refl _
 exact(t1.trans t2).below (fun q e=>e) (Nat.le_refl _)
theorem clone_any (a:Option Addr) (cap:Nat) (l:List (BitVec 8)) (w:World) (hr:Reads w a cap l) (hl:l.length<=1048576) :
  Calls Tryd.prog 64 #[.slice a l.length cap] w fun e w'=>∃v,e=.returned v/\Owns w' w.heap.size 5 v l/\Below w.heap.size w w':=by
 cases a with
 | some ad=>exact clone_some ad cap l w hr hl
 | none =>
  obtain rfl:=hr.null rfl
  obtain rfl:l=[]:=List.eq_nil_of_length_eq_zero (by have:=hr.fits;omega)
  exact(clone_none w).mono fun e w' h=>⟨_,h.1,h.2 ▸ owns_nil _ _ _,h.2 ▸ Below.refl _ _⟩
end Go.Proofs.YtbicafgmfgdckaaDoor
namespace Go.Proofs.YtbicafgmfgdckaaDoor
open Go Go.RowKit

theorem Sha.blocks_succ:∀(k:Nat) (s:Sha.St) (l:List (BitVec 8)),Sha.blocks (k+1) s l=Sha.take (Sha.blocks k s l) ((l.drop (64 * k)).take 64)
 | 0,s,l=>rfl
 | k+1,s,l=>by
  rw[Sha.blocks,Sha.blocks_succ k,List.drop_drop,show 64+64 * k=64 * (k+1) by omega]
  rfl
theorem KTab.touch {F:Nat->Prop} {w w':World} (h:KTab w) (t:Touch F w w') (hn:¬F 0):KTab w':=fun i hi=>t.cell (h i hi) hn
theorem Reads.touch' {F:Nat->Prop} {w w':World} {a:Option Addr} {cap:Nat} {l:List (BitVec 8)} (h:Reads w a cap l) (t:Touch F w w') (hn:l≠[]->∀ad,a=some ad->¬F ad.block):Reads w' a cap l:=by
 by_cases e:l=[]
 ·exact⟨h.fits,h.room,h.null,.inl e⟩
 ·exact t.reads h (hn e)
theorem drop_block {g off cap n:Nat} {ad:Addr} (e:dropAddr (some ⟨g,off,none⟩) cap n=some ad):ad.block=g:=by
 unfold dropAddr at e
 split at e
 ·injection e with e;rw[<- e]
 ·rw[Option.map_some,Addr.add_lit] at e;injection e with e;rw[<- e]
def BlockRel (b:Nat) (s0:Sha.St) (vv:Value) (N:Int) (m:List (BitVec 8)) (w:World) (x:Value) (wr:World):Prop :=
 ∃(k:Nat) (a:Option Addr) (cap:Nat),64 * k<=m.length/\x=.slice a (m.length - 64 * k) cap/\Reads wr a cap (m.drop (64 * k))/\(m≠[]->∀ad,a=some ad->ad.block≠b) /\
  HAt wr b true (Sha.blocks k s0 m).list vv N/\Touch (fun q=>q=b) w wr
def Wrote (B b:Nat) (v:Value) (l m:List (BitVec 8)) (w:World) (e:Ending) (w':World):Prop :=
 ∃v',e=.returned (.tuple #[])/\Hasher w' B b v' (l++m)/\Touch (fun q=>q=b\/v.ownBlock=some q) w w'/\∀q,v'.ownBlock=some q->v.ownBlock=some q\/w.heap.size<=q
set_option maxHeartbeats 1000000 in
theorem hwrite_none {w:World} {B b:Nat} {v:Value} {l:List (BitVec 8)} (h:Hasher w B b v l) (hB:B<=w.heap.size) (h0:0 < B) (hk:KTab w) (hl:Sha.left l=[])
  (a:Option Addr) (cap:Nat) (m:List (BitVec 8)) (hr:Reads w a cap m) (hlm:l.length+m.length<=1048576) (hoff:m≠[]->∀ad,a=some ad->ad.block≠b) :
  Calls Tryd.prog 33 #[.pointer (some ⟨b,0,none⟩),.slice a m.length cap] w (Wrote B b v l m w):=by
 have hlow:=h.low
 have OK:=hok_any h.at_
 have cN:=h.at_.n_
 have fN:=h.at_.thawed 10
 have h1:=h.at_.setN ((l.length:Int)+m.length)
 have c9:=h1.rest
 have t1:Touch (fun q=>q=b) w (w.setCell ⟨b,10,none⟩ (.int .i64 ((l.length:Int)+m.length))):=Touch.set w b 10 _ rfl
 have hv:∃a' cap',v=.slice a' 0 cap':=by obtain⟨a',cap',e,_⟩:=h.own.reads;rw[hl] at e;exact⟨a',cap',e⟩
 obtain⟨a',cap',rfl⟩:=hv
 have hr1:=hr.touch' t1 hoff
 have HH:=Lib.hid h
 have HK:=Lib.hid hk
 have HHL:=Lib.hid (Sha.held_append l m)
 have HLL:=Lib.hid (Sha.left_append l m)
 clear h hk
 generalize Sha.held l=s0 at *
 go_enter Tryd.func33,Tryd.ntmps33
 go_wp2_with fail
 refine OK.mono ?_
 rintro e w' ⟨rfl,rfl⟩
 clear OK
 go_wp2_with fail
 have T1:=Lib.hid t1
 clear cN fN c9 hr t1
 generalize w.setCell ⟨b,10,none⟩ (.int .i64 ((l.length:Int)+m.length))=w1 at *
 go_loopw [1] (fun x wr=>BlockRel b s0 (.slice a' 0 cap') ((l.length:Int)+m.length) m w1 x wr) (fun x _=>match x with | .slice _ n _=>n|_=>0)
 case atStart=>exact⟨0,a,cap,by omega,rfl,hr1,hoff,h1,Touch.refl _ _⟩
 case round =>
  clear h1 hr1
  obtain⟨k,a1,c1,hk64,rfl,hr2,hof,hat,ht⟩:=hrel
  have hpl:(m.drop (64 * k)).length=m.length - 64 * k:=List.length_drop
  by_cases hlt:64 * k+64<=m.length
  ·have hne:m.drop (64 * k)≠[]:=fun e=>by rw[e] at hpl;simp at hpl;omega
   obtain⟨g,off,rfl,hbm⟩:∃g off,a1=some ⟨g,off,none⟩/\BytesAt wr g off (m.drop (64 * k)):=hr2.bytes.resolve_left hne
   have hm0:m≠[]:=fun e=>by rw[e] at hne;simp at hne
   have hgb:g≠b:=hof hm0 _ rfl
   have hfit:=hr2.fits
   have hroom:=hr2.room
   have hp64:((m.drop (64 * k)).take 64).length=64:=by rw[List.length_take,hpl];omega
   have hbs:=Sha.blocks_succ k s0 m
   have hr3:=hr2.drop 64 (by rw[hpl];omega)
   rw[List.drop_drop,show 64 * k+64=64 * (k+1) by omega] at hr3
   rw[hpl] at hfit
   have hs1:=fun w=>run_slice_to (P:=Tryd.prog) byteSlice w (some ⟨g,off,none⟩) (m.length - 64 * k) c1 .i64 64 64 rfl (by omega)
   have hs2:=fun w=>run_slice_from (P:=Tryd.prog) byteSlice w (some ⟨g,off,none⟩) (m.length - 64 * k) c1 .i64 64 64 rfl (by omega)
   have hbt:=hbm.take 64
   generalize hp:(m.drop (64 * k)).take 64=p at *
   generalize hs:Sha.blocks k s0 m=s at *
   have hkr:KTab wr:=(HK.out.touch T1.out (show ¬(0=b) by omega)).touch ht (show ¬(0=b) by omega)
   have TK:=fun w' (hx:BytesAt w' g off p) (hy:KTab w')=>take_any s g off c1 p w' hp64 (by omega) (by omega) hx hy
   have hat1:HAt wr.drew b true s.list (.slice a' 0 cap') ((l.length:Int)+m.length):=hat.drewN 1
   have hbt1:BytesAt wr.drew g off p:=hbt
   have hk1:KTab wr.drew:=hkr
   have HP:=Lib.hid hp
   have HS:=Lib.hid hs
   have HBS:=Lib.hid hbs
   have HT:=Lib.hid ht
   have HR3:=Lib.hid hr3
   have HOF:=Lib.hid hof
   have hq64:(64:Int)<=((m.length - 64 * k:Nat):Int):=by omega
   clear hp hs hbs ht hr2 hr3 hof hat hbm hbt hkr hne hpl
   generalize hqq:m.length - 64 * k=q at *
   have HQ:=Lib.hid hqq
   clear hqq
   go_wp2_with fail
   refine wp_region_plan [([0,1,2,3,5,6],some 4),([],some 7),([8,9],some 10),([],none)] (fun _=>True) (by kernel_rfl) (by kernel_rfl) (fun _ _ d _ _ h=>by cases d<;>exact h) trivial ?_
   refine plan_some (show wpQuiet _ _ _ _ (_::_::_::_::_::_::[]) _ from ?_)
   repeat (go_big_quiet_step (fail))
   refine wpQuiet_nil (show wpList _ _ _ (_::[]) _ _ from ?_)
   have hid:Touch (fun q=>q=b) wr wr.drew:=(Touch.refl _ _).drewN 1
   generalize wr.drew=w6 at *
   have HID:=Lib.hid hid
   clear hid
   go_wp2_with (refine wpList_load_state hat1 rfl _ rfl rfl ?_)
   refine late_normal (fun _ h=>h) trivial ?_
   refine plan_some (show wpQuiet _ _ _ _ [] _ from ?_)
   refine wpQuiet_nil (show wpList _ _ _ (_::[]) _ _ from ?_)
   go_wp2_with fail
   refine(TK w6 hbt1 hk1).mono ?_
   rintro e w7 ⟨rfl,hb7⟩
   have hat7:=hat1.below hb7
   have hs8:(Sha.take s p).list.length=8:=rfl
   generalize Sha.take s p=s' at *
   have HB7:=Lib.hid hb7
   clear TK hbt1 hk1 hat1 hb7
   go_wp2_with fail
   refine late_normal (fun _ h=>h) trivial ?_
   refine plan_some (show wpQuiet _ _ _ _ (_::_::[]) _ from ?_)
   repeat (go_big_quiet_step (fail))
   refine wpQuiet_nil (show wpList _ _ _ (_::[]) _ _ from ?_)
   go_wp2_with (refine wpList_store_state hat7 s'.list hs8 rfl _ _ rfl rfl rfl ?_;intro w8 hat8 t8)
   refine late_normal (fun _ h=>h) trivial ?_
   refine plan_none (show wpQuiet _ _ _ _ [] _ from ?_)
   refine wpQuiet_nil ?_
   refine plan_nil ?_
   have HTT:=Lib.hid ((HID.out.trans (.of_below HB7.out)).trans t8)
   have HA:=Lib.hid hat8
   clear hat7 hat8 t8
   go_wp2
   go_roundw
   case rel =>
    have hq:=HQ.out
    refine⟨k+1,_,_,by omega,?_,(HR3.out.touch' HTT.out fun hne ad e=>?_),fun hne ad e=>?_,?_,HT.out.trans HTT.out⟩
    ·rw[show m.length - 64 * (k+1)=q - 64 by omega]
    ·rw[drop_block e];exact hgb
    ·rw[drop_block e];exact hgb
    ·rw[HBS.out];exact HA.out
   case measure=>simp;omega
  ·have hkq:m.length / 64=k:=by omega
   have CL:=clone_any a1 c1 (m.drop (64 * k)) wr hr2 (by rw[hpl];omega)
   rw[hpl] at CL
   have hlt2:((m.length - 64 * k:Nat):Int) < 64:=by omega
   generalize hd:m.drop (64 * k)=d at *
   generalize hs:Sha.blocks k s0 m=s at *
   have HD:=Lib.hid hd
   have HS:=Lib.hid hs
   have HA:=Lib.hid hat
   have HT:=Lib.hid ht
   have HKQ:=Lib.hid hkq
   clear hd hs hat ht hkq hr2 hof hpl hlt
   generalize hqq:m.length - 64 * k=q at *
   clear hqq
   go_wp2_with fail
   refine CL.mono ?_
   rintro e w5 ⟨vv,rfl,ho5,hb5⟩
   have hat5:=HA.out.below hb5
   have f9:=hat5.thawed 9
   have c9:=hat5.rest
   obtain⟨a5,c5,rfl,_⟩:=ho5.reads
   have HO:=Lib.hid ho5
   have HB5:=Lib.hid hb5
   have HA5:=Lib.hid hat5
   have HA6:=Lib.hid (hat5.setRest (.slice a5 d.length c5))
   clear ho5 hb5 hat5 CL
   go_wp2
   refine bodyPost_end (results_none rfl _ _ _) rfl ?_
   have hown:∀q,(Value.slice a5 d.length c5).ownBlock=some q->wr.heap.size<=q:=fun q hq=>(row_lt HO.out hq).1
   have hbl:=HA.out.lt
   have hs1:=T1.out.size
   have hs2:=HT.out.size
   have t6:Touch (fun q=>q=b) w5 (w5.setCell ⟨b,9,none⟩ (.slice a5 d.length c5)):=Touch.set w5 b 9 _ rfl
   have hh:=HHL.out
   have hl2:=HLL.out
   rw[hl,List.nil_append,List.length_nil,Nat.zero_add,HKQ.out] at hh hl2
   rw[HS.out] at hh
   rw[HD.out] at hl2
   refine⟨_,rfl,⟨?_,?_,?_,hlow⟩,?_,fun q hq=>.inr (by have:=hown q hq;omega)⟩
   ·rw[hh,List.length_append,Int.natCast_add];exact HA6.out
   ·rw[hl2]
    exact(t6.owns HO.out fun q hq e=>by have:=hown q hq;omega).mono (by omega)
   ·intro e;have:=hown b e;omega
   ·have:=((T1.out.trans HT.out).trans (.of_below HB5.out)).trans t6
    exact this.mono fun q e=>.inl e
end Go.Proofs.YtbicafgmfgdckaaDoor
