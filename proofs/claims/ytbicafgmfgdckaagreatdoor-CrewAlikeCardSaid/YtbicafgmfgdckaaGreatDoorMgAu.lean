/- A piece. -/
import Derived.Test.YtbicafgmfgdckaaGreatDoorMgAt
set_option maxRecDepth 100000
set_option maxHeartbeats 16000000
set_option linter.all false
namespace Go.Proofs.YtbicafgmfgdckaaGreatDoor
open Go.Proofs.Tryz
open Go Go.RowKit Go.Conc Go.Conc.Lib Go.ConcR.Gen
open Go.ConcR (KK wgBlock WgAt stA smA rd wr mk DC0)
open Go.ConcN (sumTo upd upd_same upd_ne RelBy PermW WgLive)
section
variable {top:Nat} {I I' I2:Ab} {p:Ph} {w w' w2:World} {i j k n W0:Nat} {Post:Value->World->Prop} {es:Array Event} {g g':Goroutine}
theorem B3.over (hI:Ae Gp.tWg top I w) (hp:I.ph=some p) (hf:p.f=0) (hd:I.deaf 0=0):B3 I.over w:=by
 have nocol:I.col=none:=by
  cases hc:I.col with
  | none=>rfl
  | some c=>have:=(hI.mate p c hp hc).1;have:=(hI.coll c hc).f.1;omega
 refine⟨rfl,nocol,by show upd I.tag 0 B6.solo 0=_;exact upd_same _ _ _,hd,hI.hs,fun b hb=>?_⟩;cases q:I.bk b with
 | shd s=>exact .inr (.inl ⟨s,Ik.2 q⟩)
 | lock=>exact .inr (.inr (Gs.2 q))
 | _=>exact .inl (P1 (by rw[q];simp) (by rw[q];simp))
theorem Ajs (hf:p.f=0):I.past p=I.over:=by unfold Ab.past;rw[if_pos hf]
theorem Ao1 {kind:Ap0} {out:Nat} {IE:Ab} (hk:p.kind=kind) (ho:p.out=out) (hf:p.f=0) {b:Nat} (hb:b < IE.hs) (h:IE.bk b=.priv 0\/(∃s,IE.bk b=.shd s)\/IE.bk b=.lock) (hout:kind=.fill->IE.bk out=.priv 0) :
  (∃s,IE.bk b=.shd s/\(IE.enter p (E6 0 kind out IE)).bk b=.shd s)\/(IE.bk b=.lock/\(IE.enter p (E6 0 kind out IE)).bk b=.lock)\/(IE.bk b=.priv 0/\(((IE.enter p (E6 0 kind out IE)).bk b=.fix 0/\¬(kind=.fill/\b=out))\/((IE.enter p (E6 0 kind out IE)).bk b=.mix/\kind=.fill/\b=out))):=by
 subst hk ho;have no:∀y,IE.bk b=y->y≠.priv 0->(IE.enter p (E6 0 p.kind p.out IE)).bk b=y:=fun y e hy=>by
  simp only[Ab.enter];rw[if_neg (fun r=>by have r2:=r.2.1;rw[e] at r2;exact hy r2),if_neg (fun r=>by have r2:=hout r.1;rw[<- r.2,e] at r2;exact hy r2)];exact e
 rcases h with e|⟨s,e⟩|e
 ·right;right;refine⟨e,?_⟩;by_cases q:p.kind=.fill/\b=p.out
  ·right;refine⟨?_,q⟩;simp only[Ab.enter];rw[if_neg (fun r=>r.2.2 q),if_pos q]
  ·left;refine⟨?_,q⟩;simp only[Ab.enter];rw[if_pos ⟨hb,e,q⟩,hf]
 ·exact .inl ⟨s,e,no _ e (by simp)⟩
 ·exact .inr (.inl ⟨e,no _ e (by simp)⟩)
theorem To {f:FuncId} {fn:Func} {cd:Code} {caps:Array Value} {c:Frame} {cs:List Frame} {kind:Ap0} {out:Nat} {oty:TypeId} {val:Nat->Nat->Value} {hit:Nat->Prop} (s0:B3 I w) (fg:prog.funcs[f]?=some fn) (gq:fn.body=some cd) (hfn:(fn.name == "runtime.NumGoroutine")=false)
  (hn:n<=1000) (hW:1<=W0) (hW2:W0<=1000) (ak:I.cnt+W0<=top) (hkh:kind≠.hand) (hsk:kind=.seek->W0<=16/\(out < I.hs/\I.bk out=.lock)/\w.heap[out]?=some (.cells #[.int .i32 0,.int .u32 0,.int .i64 (-1)] oty (0,0))) (ho:kind=.fill->(out < I.hs/\I.bk out=.priv 0)/\∃cells,w.heap[out]?=some (.cells cells oty (0,0))/\cells.size=32 * n)
  (ju:∀p I' w' i,p.b<=i->i≠0->p.n=n->p.out=out->p.oty=oty->p.val=val->p.kind=kind->p.hit=hit->(∀b,b < I.hs->I.bk b=.priv 0->¬(kind=.fill/\b=out)->I'.F i b/\p.H b=w.heap[b]?)->I.hs<=I'.hs->Job p top Post i I' w' f caps)
  (hK:∀p I6 w6 I' w',B3 I' w'->I.hs<=I'.hs->I'.cnt=I.cnt+W0->(∀b,b < I.hs->I'.bk b=I.bk b)->(∀b,b < I.hs->I.bk b=.priv 0->¬(kind=.fill/\b=out)->w'.heap[b]?=w.heap[b]?)->w'.tape=w.tape ->
   p.n=n->p.out=out->p.oty=oty->p.val=val->p.kind=kind->p.hit=hit->w'.heap=w6.heap->Avj p I6 w6->LT top Post 0 I' w' (G (c.finish (.tuple #[])) cs)) :
  LT top Post 0 I w (G ((base 22).at ⟨#[.int .i64 n,.int .i64 W0,.func (.func f) #[] caps]++Array.replicate 20 undef,[]⟩ [.code (Tryz.f22.body.getD .skip)]) (c::cs)):=by
 refine Mx (kind:=kind) (hit:=hit) s0.lon fg gq hfn hn hW hW2 ak (.inl ⟨s0.col,hkh⟩) (fun e=>⟨(hsk e).1,rfl,(hsk e).2⟩) ho (fun p I' w' j h1 h2 h3 h4 h5 h6 h7 h8 h8b h9 h10 _=>ju p I' w' j h2 h3 h4 h5 h6 h7 h8 h8b (fun b hb q hne=>h9 b hb (.inl ⟨q,hne⟩)) h10) fun p IE wE I6 w6 I7 w7 sE L hf hb hW' hn' ho' iy hval ie hhit hH qu ol ul yo wy fp=>?_;rw[Ajs hf] at fp;have so:=B3.over wy ol hf yo;obtain⟨s7,g1,g2,g3,g5,g4⟩:=so.rel fp;obtain⟨hDone,_⟩:=Se wy ol (by rw[hf];exact ul);have h6hs:IE.hs<=I6.hs:=qu.hs;have hLs:=L.hs;have bkE:∀b,b < I.hs->IE.bk b=I.bk b:=fun b hb=>L.bk b hb fun j hj q=>by
  rcases s0.bk b hb with e|⟨s,e⟩|e<;>(rw[e] at q;cases q);exact hj rfl
 have shape:∀b,b < I.hs->IE.bk b=.priv 0\/(∃s,IE.bk b=.shd s)\/IE.bk b=.lock:=fun b hb=>by rw[bkE b hb];exact s0.bk b hb
 have kinds:=fun b (hb:b < I.hs)=>Ao1 (p:=p) ie ho' hf (Nat.lt_of_lt_of_le hb hLs) (shape b hb) fun e=>(bkE _ (ho e).1.1).trans (ho e).1.2;have keepbk:∀b,b < I.hs->I6.bk b=(IE.enter p (E6 0 kind out IE)).bk b:=fun b hb=>qu.bk b (Nat.lt_of_lt_of_le hb hLs) fun j hj q=>by
  rcases kinds b hb with⟨s,_,e⟩|⟨_,e⟩|⟨_,⟨e,_⟩|⟨e,_⟩⟩<;>(rw[e] at q;cases q)
 refine hK p I6 w6 I7 w7 s7 (by have q:I7.hs=I6.hs:=g3;omega) ?_ (fun b hb=>?_) (fun b hb hpv hne=>?_) (by rw[g2,qu.tape,L.tape]) hn' ho' iy hval ie hhit g1 hDone
 ·have h1:=(wy.core _ ol).cnt;unfold Ab.started at h1;rw[show I6.tag p.f=.thru by rw[hf];exact ul] at h1;rw[g5];show I6.cnt=_;rw[h1,hb,L.cnt,hW']
 ·rw[g4 b (by show b < I6.hs;omega)];rcases kinds b hb with⟨s,e1,e⟩|⟨e1,e⟩|⟨e1,e⟩
  ·rw[Ik.2 ((keepbk b hb).trans e),<- bkE b hb,e1]
  ·rw[Gs.2 ((keepbk b hb).trans e),<- bkE b hb,e1]
  ·have no:∀y,I6.bk b=y->y=.fix 0\/y=.mix:=fun y q=>by
    rw[keepbk b hb] at q;rcases e with⟨e,_⟩|⟨e,_⟩
    ·exact .inl (q.symm.trans e)
    ·exact .inr (q.symm.trans e)
   rw[P1 (fun s q=>by rcases no _ q with r|r<;>cases r) (fun q=>by rcases no _ q with r|r<;>cases r),<- bkE b hb,e1]
 ·have e0:IE.bk b=.priv 0:=(bkE b hb).trans hpv;have e2:(IE.enter p (E6 0 kind out IE)).bk b=.fix 0:=by
   rcases kinds b hb with⟨s,e1,_⟩|⟨e1,_⟩|⟨_,⟨e,_⟩|⟨_,q⟩⟩
   ·rw[e0] at e1;cases e1
   ·rw[e0] at e1;cases e1
   ·exact e
   ·exact absurd q hne
  rw[g1,hDone.fix b 0 (by omega) ((keepbk b hb).trans e2),hH b];exact L.heap b hb (Nat.not_le.2 hb) (.inl hpv)
theorem Age {f:FuncId} {fn:Func} {cd:Code} {caps:Array Value} {c:Frame} {cs:List Frame} {out:Nat} {oty:TypeId} {val:Nat->Nat->Value} (s0:B3 I w) (fg:prog.funcs[f]?=some fn) (gq:fn.body=some cd) (hfn:(fn.name == "runtime.NumGoroutine")=false)
  (hn:n<=1000) (hW:1<=W0) (hW2:W0<=1000) (ak:I.cnt+W0<=top) (ho:out < I.hs/\I.bk out=.priv 0) (hoc:∃cells,w.heap[out]?=some (.cells cells oty (0,0))/\cells.size=32 * n)
  (ju:∀p I' w' i,p.b<=i->i≠0->p.n=n->p.out=out->p.oty=oty->p.val=val->p.kind=.fill->(∀b,b < I.hs->I.bk b=.priv 0->b≠out->I'.F i b/\p.H b=w.heap[b]?)->I.hs<=I'.hs->Job p top Post i I' w' f caps)
  (hK:∀I' w',B3 I' w'->I.hs<=I'.hs->I'.cnt=I.cnt+W0->(∀b,b < I.hs->I'.bk b=I.bk b)->(∀b,b < I.hs->I.bk b=.priv 0->b≠out->w'.heap[b]?=w.heap[b]?)->w'.tape=w.tape ->
   (∃cells,w'.heap[out]?=some (.cells cells oty (0,0))/\cells.size=32 * n/\∀x,x < n->∀o,o < 32->cells[32 * x+o]?=some (val x o))->LT top Post 0 I' w' (G (c.finish (.tuple #[])) cs)) :
  LT top Post 0 I w (G ((base 22).at ⟨#[.int .i64 n,.int .i64 W0,.func (.func f) #[] caps]++Array.replicate 20 undef,[]⟩ [.code (Tryz.f22.body.getD .skip)]) (c::cs)):=by
 refine To (kind:=.fill) (hit:=fun _=>False) s0 fg gq hfn hn hW hW2 ak (by simp) (fun e=>by cases e) (fun _=>⟨ho,hoc⟩) (fun p I' w' j h2 h3 h4 h5 h6 h7 h8 _ h9 h10=>ju p I' w' j h2 h3 h4 h5 h6 h7 h8 (fun b hb q hne=>h9 b hb q fun r=>hne r.2) h10) fun p I6 w6 I' w' h1 h2 h3 h4 h5 h6 hn' ho' iy hval ie _ e hD=>?_;refine hK I' w' h1 h2 h3 h4 (fun b hb q hne=>h5 b hb q fun r=>hne r.2) h6 ?_;rw[e];have:=hD.out ie;rw[ho',iy,hn',hval] at this;exact this
theorem Ve {f:FuncId} {fn:Func} {cd:Code} {caps:Array Value} {c:Frame} {cs:List Frame} {out:Nat} {oty:TypeId} {hit:Nat->Prop} (s0:B3 I w) (fg:prog.funcs[f]?=some fn) (gq:fn.body=some cd) (hfn:(fn.name == "runtime.NumGoroutine")=false)
  (hn:n<=1000) (hW:1<=W0) (hW2:W0<=16) (ak:I.cnt+W0<=top) (ho:out < I.hs/\I.bk out=.lock) (hoc:w.heap[out]?=some (.cells #[.int .i32 0,.int .u32 0,.int .i64 (-1)] oty (0,0)))
  (ju:∀p I' w' i,p.b<=i->i≠0->p.n=n->p.out=out->p.oty=oty->p.kind=.seek->p.hit=hit->(∀b,b < I.hs->I.bk b=.priv 0->I'.F i b/\p.H b=w.heap[b]?)->I.hs<=I'.hs->Job p top Post i I' w' f caps)
  (hK:∀I' w',B3 I' w'->I.hs<=I'.hs->I'.cnt=I.cnt+W0->(∀b,b < I.hs->I'.bk b=I.bk b)->(∀b,b < I.hs->I.bk b=.priv 0->w'.heap[b]?=w.heap[b]?)->w'.tape=w.tape ->
   (∃(m:Nat) (v:Int) (a b:Value),w'.heap[out]?=some (.cells #[a,b,.int .i64 v] oty (0,0))/\Ld (fun x=>hit x/\x < m) v/\(m=n\/∃x,hit x/\x < m))->LT top Post 0 I' w' (G (c.finish (.tuple #[])) cs)) :
  LT top Post 0 I w (G ((base 22).at ⟨#[.int .i64 n,.int .i64 W0,.func (.func f) #[] caps]++Array.replicate 20 undef,[]⟩ [.code (Tryz.f22.body.getD .skip)]) (c::cs)):=by
 refine To (kind:=.seek) (out:=out) (oty:=oty) (val:=fun _ _=>undef) (hit:=hit) s0 fg gq hfn hn hW (by omega) ak (by simp) (fun _=>⟨hW2,ho,hoc⟩) (fun e=>by cases e) (fun p I' w' j h2 h3 h4 h5 h6 _ h8 h8b h9 h10=>ju p I' w' j h2 h3 h4 h5 h6 h8 h8b (fun b hb q=>h9 b hb q fun r=>by cases r.1) h10) fun p I6 w6 I' w' h1 h2 h3 h4 h5 h6 hn' ho' iy hval ie hhit e hD=>?_;refine hK I' w' h1 h2 h3 h4 (fun b hb q=>h5 b hb q fun r=>by cases r.1) h6 ?_;rw[e];obtain⟨_,q2,v,a,b,q3,q4,q5⟩:=hD.seek ie;rw[ho',iy] at q3;rw[hhit] at q4 q5;rw[hn'] at q2;refine⟨I6.next,v,a,b,q3,q4,?_⟩;cases hs:I6.stp with
 | true=>exact .inr (q5 hs)
 | false=>exact .inl (q2 hs)
end
end Go.Proofs.YtbicafgmfgdckaaGreatDoor
