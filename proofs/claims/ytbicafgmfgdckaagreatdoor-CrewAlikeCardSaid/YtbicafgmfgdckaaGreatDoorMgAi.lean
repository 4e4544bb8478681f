/- A piece. -/
import Derived.Test.YtbicafgmfgdckaaGreatDoorMgAh
import Derived.Conc.CrowdBase
set_option maxRecDepth 100000
set_option maxHeartbeats 16000000
set_option linter.all false
namespace Go.Proofs.YtbicafgmfgdckaaGreatDoor
open Go Go.Conc
def Az:Frame:={ fn:=0,tmps:=#[],todo:=[],defers:=[{ target:=.nil,args:=#[] }],mode:=.run,kind:=.normal }
structure Vt where
 r:Bt
 l:List Bt
 w:World
def Vt.out (x:Vt):Prop:=x.r.ret=true/\x.l=[]
def Nxt (P:Program) (y x:Vt):Prop:=¬x.out/\∃T d,Nd P x.r x.l (re x.w T d) y.r y.l y.w
abbrev Tape:=Nat->Question->Nat
def Reach (P:Program) (base:List Frame) (R:Frame->World->Prop) (x:Vt):Prop:=∀(T:Tape) (d:Nat),∃(T2:Tape) (d2:Nat),(∀i,T2 (d2+i)=T (d+i))/\∃n fr w1,runN P n (lone x.r.fr (x.l.map Bt.fr++base) (re x.w T2 d2))=.next (lone fr base w1)/\fr.mode=.returning/\R fr w1
section
variable {P:Program} {R:Frame->World->Prop} {x y:Vt}
theorem Ja {fr fr':Frame} {cs cs':List Frame} {w w':World} {es:Array Event} (h:stepG P true (Conc.G fr cs) w=.go (Conc.G fr' cs') w' es):step P (lone fr cs w)=.next (lone fr' cs' w') :=
 step_lone_go (by
  show (stepG P true (Conc.G fr cs) w).bare=_;rw[h];rfl)
theorem Lu {r r1:Bt} {l l1:List Bt} {w w1:World} (h:Nd P r l w r1 l1 w1) {T:Nat->Question->Nat} {d:Nat} (hT:Aeq w w1 T d) (base:List Frame) :
  step P (lone r.fr (l.map Bt.fr++base) (re w T d))=.next (lone r1.fr (l1.map Bt.fr++base) (re w1 T (d+(w1.drawn - w.drawn)))):=by
 obtain⟨_,_,e0,h⟩:=h;exact Ja (h T d hT true base)
theorem Dx {n:Nat} {m m1:Machine} (h:step P m=.next m1):runN P (n+1) m=runN P n m1:=by simp[runN,h]
theorem runN_ended {n:Nat} {m m2:Machine} {o:Outcome} {w:World} (h:step P m=.ended o w) (e:runN P n m=.next m2):m2=m:=by
 cases n with
 | zero=>simp[runN] at e;exact e.symm
 | succ n=>simp[runN,h] at e
def Bt.bad (r:Bt) (chain:List PanicEntry):Frame:={ r.fr with mode:=.panicking chain }
theorem Fz (r:Bt) (chain:List PanicEntry):r.fr.raise chain=r.bad chain:=by
 obtain⟨fn,tmps,todo,ret⟩:=r;cases ret<;>rfl
theorem Asp:∀(l:List Bt) (r:Bt) (chain:List PanicEntry) (w:World),Df P r.fn=true->(∀q∈l,Df P q.fn=true)->∀n fr w1,runN P n (lone (r.bad chain) (l.map Bt.fr++[Az]) w)=.next (lone fr [Az] w1)->fr.mode≠.returning:=by
 intro l
 induction l with
 | nil =>
  intro r chain w hr hl n fr w1 e;have hs:step P (lone (r.bad chain) ([].map Bt.fr++[Az]) w)=.next (lone (Az.raise chain) [] w):=by
   obtain⟨fn,hf,_⟩:=Ks (r:=r) hr;refine Ja (es:=#[]) ?_;simp[stepG,Conc.G,Bt.bad,Bt.fr,unwind,Frame.catches,hf]
  have hs2:∃o w2,step P (lone (Az.raise chain) [] w)=.ended o w2:=by
   exact⟨_,_,step_lone_ended rfl⟩
  obtain⟨o,w2,hs2⟩:=hs2;cases n with
  | zero =>
   simp only[runN,Stepped.next.injEq,lone,Machine.mk.injEq] at e;intro hm;have:=e.2.1;simp only[Array.mk.injEq,List.cons.injEq,Goroutine.mk.injEq] at this;rw[<- this.1.1] at hm;cases hm
  | succ n =>
   rw[Dx hs] at e;have:=runN_ended hs2 e;simp[lone] at this
 | cons q l ih =>
  intro r chain w hr hl n fr w1 e;have hs:step P (lone (r.bad chain) ((q::l).map Bt.fr++[Az]) w)=.next (lone (q.bad chain) (l.map Bt.fr++[Az]) w):=by
   obtain⟨fn,hf,_⟩:=Ks (r:=r) hr;refine Ja (es:=#[]) ?_;rw[<- Fz q chain];simp[stepG,Conc.G,Bt.bad,Bt.fr,unwind,Frame.catches,hf]
  cases n with
  | zero =>
   simp only[runN,Stepped.next.injEq,lone,Machine.mk.injEq] at e;intro hm;have:=e.2.1;simp only[Array.mk.injEq,List.cons.injEq,Goroutine.mk.injEq] at this;rw[<- this.1.1] at hm;cases hm
  | succ n =>
   rw[Dx hs] at e;exact ih q chain w (hl q (by simp)) (fun y hy=>hl y (by simp[hy])) n fr w1 e
theorem Afu {r:Bt} {l:List Bt} {w:World} (hr:Df P r.fn=true) (hl:∀q∈l,Df P q.fn=true) (ho:¬(r.ret=true/\l=[])) {n:Nat} {fr:Frame} {w1:World}
  (e:runN P n (lone r.fr (l.map Bt.fr++[Az]) w)=.next (lone fr [Az] w1)) (hm:fr.mode=.returning):¬Te P r l w:=by
 intro hd;cases n with
 | zero =>
  simp only[runN,Stepped.next.injEq,lone,Machine.mk.injEq] at e;have:=e.2.1;simp only[Array.mk.injEq,List.cons.injEq,Goroutine.mk.injEq] at this;refine ho ⟨?_,?_⟩
  ·rw[<- this.1.1] at hm;cases hr':r.ret with
   | true=>rfl
   | false=>rw[show r.fr.mode=.run by simp[Bt.fr,hr']] at hm;cases hm
  ·have h2:=this.1.2.1;have:=congrArg List.length h2;simp at this;exact this
 | succ n =>
  rcases hd [Az] with⟨v,w2,es,h⟩|⟨o,w2,es,h⟩
  ·rw[Dx (Ja h),Fz] at e;exact Asp l r _ w2 hr hl n fr w1 e hm
  ·have hs:step P (lone r.fr (l.map Bt.fr++[Az]) w)=.ended o w2:=step_lone_ended (by
    show (stepG P true (Conc.G r.fr (l.map Bt.fr++[Az])) w).bare=_;rw[h];rfl)
   simp[runN,hs] at e
end
section
variable {P:Program} {R:Frame->World->Prop} {x y:Vt} {base:List Frame}
theorem Mq {r:Bt} {l:List Bt} {w w1:World} {fr:Frame} (e:runN P 0 (lone r.fr (l.map Bt.fr++base) w)=.next (lone fr base w1)) (hm:fr.mode=.returning):(r.ret=true/\l=[])/\r.fr=fr/\w=w1:=by
 simp only[runN,Stepped.next.injEq,lone,Machine.mk.injEq] at e;have:=e.2.1;simp only[Array.mk.injEq,List.cons.injEq,Goroutine.mk.injEq] at this;refine⟨⟨?_,?_⟩,this.1.1,e.1⟩
 ·rw[<- this.1.1] at hm;cases hr':r.ret with
  | true=>rfl
  | false=>rw[show r.fr.mode=.run by simp[Bt.fr,hr']] at hm;cases hm
 ·have h2:=congrArg List.length this.1.2.1;simp at h2;exact h2
theorem Wd (hx:Reach P base R x) (hout:¬x.out) {T0:Tape} {d0:Nat} (h:Nd P x.r x.l (re x.w T0 d0) y.r y.l y.w):Reach P base R y:=by
 intro T d;obtain⟨T2,d2,hT,n,fr,w1,e,hm,hR⟩:=hx (fun p q=>if p < y.w.drawn - d0 then T0 (d0+p) q else T (d+(p - (y.w.drawn - d0))) q) 0;have hle:d0<=y.w.drawn:=h.1;have hs:Aeq (re x.w T0 d0) y.w T2 d2:=fun i hi=>by
  have hi':d0+i < y.w.drawn:=hi;rw[hT i]
  funext q
  show (if 0+i < y.w.drawn - d0 then T0 (d0+(0+i)) q else _)=T0 (d0+i) q;rw[if_pos (by omega),Nat.zero_add]
 have hst:=Lu h hs base;cases n with
 | zero=>exact absurd (Mq e hm).1 hout
 | succ n =>
  rw[Dx (show step P (lone x.r.fr (x.l.map Bt.fr++base) (re x.w T2 d2))=_ from hst)] at e;refine⟨T2,d2+(y.w.drawn - d0),fun i=>?_,n,fr,w1,e,hm,hR⟩;rw[Nat.add_assoc,hT]
  funext q
  show (if 0+(y.w.drawn - d0+i) < y.w.drawn - d0 then _ else T (d+(0+(y.w.drawn - d0+i) - (y.w.drawn - d0))) q)=T (d+i) q;rw[if_neg (by omega)]
  congr 2
  omega
theorem Aek {α:Type} {S:α->α->Prop} {a:α} (h:¬Acc S a):∃f:Nat->α,f 0=a/\∀k,S (f (k+1)) (f k):=by
 have next:∀p:{ b:α // ¬Acc S b },∃q:{ b:α // ¬Acc S b },S q.1 p.1:=fun p=>Classical.byContradiction fun hn=>p.2 (.intro _ fun y hy=>Classical.byContradiction fun hy'=>hn ⟨⟨y,hy'⟩,hy⟩)
 let g:Nat->{ b:α // ¬Acc S b }:=fun n=>Nat.rec ⟨a,h⟩ (fun _ p=>(next p).choose) n
 exact⟨fun n=>(g n).1,rfl,fun k=>(next (g k)).choose_spec⟩
theorem Aho {c:Nat->Nat} (h:∀k,c k<=c (k+1)):∀ {i j:Nat},i<=j->c i<=c j:=by
 intro i j hij
 induction hij with
 | refl=>exact Nat.le_refl _
 | step _ ih=>exact Nat.le_trans ih (h _)
noncomputable def Vg (T:Nat->Tape) (d c:Nat->Nat):Tape:=fun p=>open Classical in if h:∃k,c k<=p/\p < c (k+1) then T h.choose (d h.choose+(p - c h.choose)) else T 0 p
theorem Ahx {T:Nat->Tape} {d c:Nat->Nat} (hc:∀k,c k<=c (k+1)) {k i:Nat} (h:c k+i < c (k+1)):Vg T d c (c k+i)=T k (d k+i):=by
 have hex:∃k',c k'<=c k+i/\c k+i < c (k'+1):=⟨k,by omega,h⟩;unfold Vg;rw[dif_pos hex];have e:hex.choose=k:=by
  obtain⟨h1,h2⟩:=hex.choose_spec;rcases Nat.lt_trichotomy hex.choose k with hl|hl|hl
  ·have:=Aho hc (show hex.choose+1<=k from hl);omega
  ·exact hl
  ·have:=Aho hc (show k+1<=hex.choose from hl);omega
 rw[e]
 congr 1
 omega
theorem Auh (hx:∀(T:Tape) (d:Nat),∃n fr w1,runN P n (lone x.r.fr (x.l.map Bt.fr++base) (re x.w T d))=.next (lone fr base w1)/\fr.mode=.returning):Acc (Nxt P) x:=by
 refine Classical.byContradiction fun hn=>?_;obtain⟨f,h0,hf⟩:=Aek hn;have hT:∀k,∃p:Tape × Nat,¬(f k).out/\Nd P (f k).r (f k).l (re (f k).w p.1 p.2) (f (k+1)).r (f (k+1)).l (f (k+1)).w:=fun k=>by
  obtain⟨h1,T,d,h2⟩:=hf k;exact⟨(T,d),h1,h2⟩
 let T:Nat->Tape:=fun k=>(hT k).choose.1
 let d:Nat->Nat:=fun k=>(hT k).choose.2
 have hm:∀k,¬(f k).out/\Nd P (f k).r (f k).l (re (f k).w (T k) (d k)) (f (k+1)).r (f (k+1)).l (f (k+1)).w:=fun k=>(hT k).choose_spec
 let c:Nat->Nat:=fun k=>Nat.rec 0 (fun k p=>p+((f (k+1)).w.drawn - d k)) k
 have hc1:∀k,c (k+1)=c k+((f (k+1)).w.drawn - d k):=fun k=>rfl;have hc:∀k,c k<=c (k+1):=fun k=>by rw[hc1];omega
 have hst:∀k,step P (lone (f k).r.fr ((f k).l.map Bt.fr++base) (re (f k).w (Vg T d c) (c k)))=.next (lone (f (k+1)).r.fr ((f (k+1)).l.map Bt.fr++base) (re (f (k+1)).w (Vg T d c) (c (k+1)))):=fun k=>by
  refine Lu (hm k).2 (fun i hi=>?_) base;have hi':d k+i < (f (k+1)).w.drawn:=hi;exact Ahx hc (by rw[hc1];omega)
 have hrun:∀k n,runN P (k+n) (lone (f 0).r.fr ((f 0).l.map Bt.fr++base) (re (f 0).w (Vg T d c) (c 0)))=runN P n (lone (f k).r.fr ((f k).l.map Bt.fr++base) (re (f k).w (Vg T d c) (c k))):=fun k=>by
  induction k with
  | zero=>intro n;rw[Nat.zero_add]
  | succ k ih =>
   intro n;rw[Nat.add_assoc,Nat.add_comm 1 n,ih (n+1),Dx (hst k)]
 obtain⟨n,fr,w1,e,hmode⟩:=hx (Vg T d c) (c 0);rw[<- h0] at e;have:=hrun n 0;rw[Nat.add_zero,e] at this;exact(hm n).1 (Mq this.symm hmode).1
theorem Kv {r:Bt} (hb:Df P r.fn=true) (hr:r.ret=true) (w:World):∃o w2,step P (lone r.fr [] w)=.ended o w2:=by
 obtain⟨fn,hf,_⟩:=Ks hb;have hi:=Am4 hb;have hs:=Mm (P:=P) hr hf true [] w;have key:∃o w2 es,stepG P true (Conc.G r.fr []) w=.ended o w2 es:=by
  rw[hs];cases hrun:(results fn r.tmps).runT P w #[] with
  | mk res es1 =>
   cases res with
   | halt hh w1=>cases hh<;>exact⟨_,_,_,rfl⟩
   | ok v w1 =>
    have:doReturn P true r.fr [] none v w1=.ended (.done v) w1 #[]:=by
     obtain⟨f,tmps,todo,ret⟩:=r;simp only[doReturn,Bt.fr,Bool.not_true,Bool.false_eq_true,if_false];dsimp only at hi;rw[hi]
    dsimp only;rw[this];exact⟨_,_,_,rfl⟩
 obtain⟨o,w2,es,h⟩:=key;exact⟨o,w2,step_lone_ended (by
  show (stepG P true (Conc.G r.fr []) w).bare=_;rw[h];rfl)⟩
theorem Ajp (hb:Df P x.r.fn=true) (hx:Reach P [] R x) (ho:x.out):∃T d,R x.r.fr (re x.w T d):=by
 obtain⟨T2,d2,_,n,fr,w1,e,hm,hR⟩:=hx (fun _ _=>0) 0;obtain⟨h1,h2⟩:=ho;cases n with
 | zero =>
  obtain⟨_,e1,e2⟩:=Mq e hm;exact⟨T2,d2,by rw[e1,e2];exact hR⟩
 | succ n =>
  rw[h2] at e;obtain⟨o,w2,hs⟩:=Kv hb h1 (re x.w T2 d2);have:runN P (n+1) (lone x.r.fr (List.map Bt.fr []++[]) (re x.w T2 d2))=.ended o w2:=by
   simp only[List.map_nil,List.append_nil,runN,hs]
  rw[this] at e;cases e
end
structure Aer (S F:Nat->Prop) (w w2:World):Prop where
 size:w.heap.size<=w2.heap.size
 tape:w2.tape=w.tape
 keep:∀b,S b\/F b->w2.heap[b]?=w.heap[b]?
def EvS (S F:Nat->Prop) (e:Event):Prop:=(∃ad,e.loc=.cell ad/\e.sync=false/\(S ad.block\/(F ad.block/\e.write=false)))\/(∃m,e.loc=.mark m/\m.mute'=true)\/(∃r,e.loc=.obj r/\(S r\/F r)/\e.write=false/\e.sync=false)
def Fr (S:Nat->Prop) (w w1:World):Nat->Prop:=fun b=>S b\/(w.heap.size<=b/\b < w1.heap.size)
structure Own (S F:Nat->Prop) (w w1:World) (es:Array Event):Prop where
 size:w.heap.size<=w1.heap.size
 tape:w1.tape=w.tape
 os:w1.os=w.os
 output:w1.output=w.output
 old:∀b,b < w.heap.size->¬S b->w1.heap[b]?=w.heap[b]?
 ev:∀e∈es,EvS (Fr S w w1) F e
inductive Way (P:Program) (main:Bool) (F:Nat->Prop) (K:(Nat->Prop)->Goroutine->World->Prop):(Nat->Prop)->Goroutine->World->Prop
 | stop {S:Nat->Prop} {g:Goroutine} {w:World} (h:K S g w):Way P main F K S g w
 | step {S:Nat->Prop} {g:Goroutine} {w:World} (hg:g.status=.running) (h:∀w2,Aer S F w w2->∃g1 w3 es,stepG P main g w2=.go g1 w3 es/\Own S F w2 w3 es)
   (k:∀w2 g1 w3 es,Aer S F w w2->stepG P main g w2=.go g1 w3 es->Way P main F K (Fr S w2 w3) g1 w3):Way P main F K S g w
section
variable {P:Program} {main:Bool} {F S S1 S2:Nat->Prop} {K K2:(Nat->Prop)->Goroutine->World->Prop} {w w1 w2 w3:World} {g g1:Goroutine} {es es2:Array Event}
theorem Way.bind (h:Way P main F K S g w) (hk:∀S g w,K S g w->Way P main F K2 S g w):Way P main F K2 S g w:=by
 induction h with
 | stop h=>exact hk _ _ _ h
 | step hg h _ ih=>exact .step hg h ih
end
section
variable {P:Program} {G:Nat->Bool} {fs:List Nat} {ρ ρ0:Bn} {main:Bool} {F S:Nat->Prop} {base:List Frame}
def Ends (P:Program) (G:Nat->Bool) (fs:List Nat) (F:Nat->Prop) (base:List Frame) (R:Frame->World->Prop) (ρ0:Bn) (S:Nat->Prop) (g:Goroutine) (W:World):Prop :=
 ∃(x:Vt) (ρ:Bn) (r':Bt),x.out/\RR P G fs [] ρ x.r r'/\g=Conc.G r'.fr base/\WR P.globals.size F ρ (re x.w W.tape W.drawn) W/\(∀a b,ρ a b->S b\/F b)/\ρ0.le ρ/\∃T d,R x.r.fr (re x.w T d)
theorem Vj {gs:Nat} {w W W2:World} (h:WR gs F ρ (re w W.tape W.drawn) W) (hS:∀a b,ρ a b->S b\/F b) (hr:Aer S F W W2):WR gs F ρ (re w W2.tape W2.drawn) W2:=by
 refine⟨rfl,rfl,h.fn,h.inj,fun b hb=>Nat.lt_of_lt_of_le (h.low b hb) hr.size,h.glob,h.gsize,h.plain,fun a b q=>?_⟩;rw[hr.keep b (hS a b q)];exact h.block a b q
theorem Vn {K:List Item} {l l':List Bt} (h:LR P G fs K ρ l l'):∀q∈l,Df P q.fn=true:=by
 induction h with
 | nil=>intro q h;simp at h
 | cons h hr _ _ ih =>
  intro q hq;rcases List.mem_cons.1 hq with e|hq
  ·subst e;exact h.body
  ·exact ih q hq
theorem Gu {ρ1:Bn} {w w1 W2 W3:World} (hS:∀a b,ρ a b->S b\/F b) (h:Left F ρ ρ1 w W2 w1 W3) (hlt:∀a b,ρ1 a b->b < W3.heap.size):∀a b,ρ1 a b->Fr S W2 W3 b\/F b:=fun a b q=>by
 rcases h.new a b q with q2|⟨_,q2⟩
 ·exact(hS a b q2).imp .inl id
 ·exact .inl (.inr ⟨q2,hlt a b q⟩)
theorem F0 {ρ1:Bn} {w w1 W2 W3:World} {es:Array Event} (hS:∀a b,ρ a b->S b\/F b) (h:Left F ρ ρ1 w W2 w1 W3) (hlt:∀a b,ρ1 a b->b < W3.heap.size) (he:∀e∈es,EvR F ρ1 e):Own S F W2 W3 es:=by
 refine⟨h.size',h.tape,h.os,h.output,fun b hb hnS=>h.old b hb fun a q=>(hS a b q).resolve_left hnS,fun e hin=>?_⟩;have hS1:=Gu hS h hlt;rcases he e hin with⟨ad,a,e1,e2,e3,e4⟩|hm|⟨q,a,e1,e2,e3⟩
 ·refine .inl ⟨ad,e1,e3,?_⟩;rcases hS1 a ad.block e2 with q|q
  ·exact .inl q
  ·cases hwr:e.write with
   | false=>exact .inr ⟨q,rfl⟩
   | true=>exact absurd q (e4 hwr)
 ·exact .inr (.inl hm)
 ·exact .inr (.inr ⟨q,e1,hS1 a q e2,e3⟩)
theorem Aqa (bh:∀f,fs.contains f=true->Cj P G fs f=true) {R:Frame->World->Prop} {x:Vt} (hacc:Acc (Nxt P) x) :
  ∀ {ρ:Bn} {r':Bt} {l':List Bt} {W:World} {S:Nat->Prop},RR P G fs [] ρ x.r r'->LR P G fs [] ρ x.l l'->WR P.globals.size F ρ (re x.w W.tape W.drawn) W->(∀g,G g=true->ρ g g)->(∀a b,ρ a b->S b\/F b)->ρ0.le ρ ->
   Reach P [Az] (fun _ _=>True) x->Reach P [] R x ->
   Way P main F (Ends P G fs F base R ρ0) S (Conc.G r'.fr (l'.map Bt.fr++base)) W:=by
 induction hacc with
 | intro x _ ih=>?_
 intro ρ r' l' W S h hl hw hG hS hle qj mb;by_cases hout:x.out
 ·refine .stop ?_;have e:l'=[]:=by
   have:=hout.2;rw[this] at hl;cases hl;rfl
  subst e;exact⟨x,ρ,r',hout,h,rfl,hw,hS,hle,Ajp h.body mb hout⟩
 have h':RR P G fs (L6 [] x.l) ρ x.r r':=by rw[Hg];exact h
 have both:∀W2,Aer S F W W2->Aeu P G fs [] F ρ x.r r' x.l l' (re x.w W2.tape W2.drawn) W2:=by
  intro W2 hr;have hw2:=Vj hw hS hr;have hne:x.r.ret=true->x.l≠[]:=fun e1 e2=>hout ⟨e1,e2⟩;rcases G8 bh h' hl hw2 hG hne (.inr (Hg _)) with hb|hd
  ·exact hb
  ·exfalso;obtain⟨T2,d2,hT,n,fr,w1,e,hm,_⟩:=qj W2.tape W2.drawn;have hnd:=Afu h.body (Vn hl) hout e hm;have hw3:WR P.globals.size F ρ (re x.w T2 d2) (re W2 T2 d2):=hw2.re T2 d2;rcases G8 bh h' hl hw3 hG hne (.inr (Hg _)) with hb|hd3
   ·obtain⟨r1,l1,w1,_,_,_,_,_,⟨_,_,e0,hmv⟩,_⟩:=hb;have hst:=hmv W2.tape W2.drawn (fun i _=>(hT i).symm) true [Az];rcases hd [Az] with⟨v,w4,es,hx⟩|⟨o,w4,es,hx⟩
    ·have e1:=hst.symm.trans hx;simp only[GStep.go.injEq,Conc.G,Goroutine.mk.injEq] at e1;have e2:=congrArg Frame.mode e1.1.1;rw[Fz] at e2;simp only[Bt.bad,Bt.fr] at e2;split at e2<;>cases e2
    ·have e1:=hst.symm.trans hx;cases e1
   ·exact hnd hd3
 refine .step rfl (fun W2 hr=>?_) fun W2 g1 W3 es hr hst=>?_
 ·obtain⟨r1,l1,w1,r1',l1',w1',ρ1,es,b1,b2,b3,b4,b5,b6,b7⟩:=both W2 hr;exact⟨_,w1',es,b2 main base,F0 hS b6 (fun a b q=>(b5.lt a b q).2) b7⟩
 ·obtain⟨r1,l1,w1,r1',l1',w1',ρ1,es',b1,b2,b3,b4,b5,b6,b7⟩:=both W2 hr;have e1:=(b2 main base).symm.trans hst;simp only[GStep.go.injEq] at e1;obtain⟨rfl,rfl,rfl⟩:=e1;have e2:re w1 w1'.tape w1'.drawn=w1:=by rw[<- b5.tape,<- b5.drawn];rfl
  refine ih ⟨r1,l1,w1⟩ ⟨hout,_,_,b1⟩ (by rw[Hg] at b3;exact b3) b4 (by rw[e2];exact b5) (fun g hg=>b6.le _ _ (hG g hg)) (Gu hS b6 fun a b q=>(b5.lt a b q).2) (Bn.le_trans hle b6.le) (Wd qj hout b1) (Wd mb hout b1)
end
section
variable {P:Program} {G:Nat->Bool} {fs:List Nat} {ρ:Bn} {main:Bool} {F S:Nat->Prop}
def Avs (P:Program) (F:Nat->Prop) (c:Frame) (rest:List Frame) (R:Value->World->Prop) (ρ:Bn) (S:Nat->Prop) (g:Goroutine) (W:World):Prop :=
 ∃v v' ρ1 w1,g=Conc.G (c.finish v') rest/\VR ρ1 v v'/\(∃T d,R v (re w1 T d))/\WR P.globals.size F ρ1 (re w1 W.tape W.drawn) W/\(∀a b,ρ1 a b->S b\/F b)/\ρ.le ρ1
theorem Aj3 (S F:Nat->Prop) (w:World):Own S F w w #[]:=⟨Nat.le_refl _,rfl,rfl,rfl,fun _ _ _=>rfl,fun e he=>by simp at he⟩
theorem Z0 (S:Nat->Prop) (w:World):Fr S w w=S:=by
 funext b
 unfold Fr;apply propext;constructor
 ·rintro(h|⟨h1,h2⟩)
  ·exact h
  ·omega
 ·exact .inl
theorem Alp (bh:∀f,fs.contains f=true->Cj P G fs f=true) {f:Nat} (hf:fs.contains f=true) {args args':Array Value} {w0 W:World} {c:Frame} {rest:List Frame} {R:Value->World->Prop}
  (hw:WR P.globals.size F ρ (re w0 W.tape W.drawn) W) (ha:Cx ρ args args') (hG:∀g,G g=true->ρ g g) (hS:∀a b,ρ a b->S b\/F b)
  (hc:∀(T:Tape) (d:Nat),Calls P f args (re w0 T d) (fun e w'=>∃v,e=.returned v/\R v w')) :
  Way P main F (Avs P F c rest R ρ) S (Conc.G (Frame.enter P f args' .normal) (c::rest)) W:=by
 let x:Vt:=⟨⟨f,(Frame.enter P f args .normal).tmps,(Frame.enter P f args .normal).todo,false⟩,[],w0⟩
 have ah:∀base:List Frame,∀(T:Tape) (d:Nat),∃n fr w1,runN P n (lone x.r.fr (x.l.map Bt.fr++base) (re x.w T d))=.next (lone fr base w1)/\fr.mode=.returning/\(∃v,R v w1/\∃fn,P.funcs[fr.fn]?=some fn/\(results fn fr.tmps).run P w1=.ok v w1):=by
  intro base T d;obtain⟨e,w',fr,⟨v,rfl,hR⟩,hst,hfn,hm,hd,hk,fn,yl,hres⟩:=hc T d base;obtain⟨n,hn⟩:=hst;exact⟨n,fr,w',hn,hm,v,hR,fn,yl,hres⟩
 have hacc:Acc (Nxt P) x:=Auh (base:=[]) fun T d=>by
  obtain⟨n,fr,w1,e,hm,_⟩:=ah [] T d;exact⟨n,fr,w1,e,hm⟩
 have zg:RR P G fs [] ρ x.r ⟨f,(Frame.enter P f args' .normal).tmps,(Frame.enter P f args' .normal).todo,false⟩:=V8 (bh f hf) ha;have h1:=Aqa (main:=main) (base:=c::rest) (S:=S) (W:=W) (ρ0:=ρ) (R:=fun fr w1=>∃v,R v w1/\∃fn,P.funcs[fr.fn]?=some fn/\(results fn fr.tmps).run P w1=.ok v w1) bh hacc zg .nil hw hG hS (Bn.le_refl _)
  (fun T d=>⟨T,d,fun _=>rfl,by obtain⟨n,fr,w1,e,hm,_⟩:=ah [Az] T d;exact⟨n,fr,w1,e,hm,trivial⟩⟩)
  (fun T d=>⟨T,d,fun _=>rfl,ah [] T d⟩)
 refine Way.bind h1 fun S2 g W2 hE=>?_;obtain⟨y,ρ1,r',⟨hret,_⟩,hr,rfl,hw1,hS1,hle,T,d,v,hR,fn,hfn,hres⟩:=hE;have jb:∀W3,Aer S2 F W2 W3->∃ρ2 v' W4 es,stepG P main (Conc.G r'.fr (c::rest)) W3=.go (Conc.G (c.finish v') rest) W4 es/\VR ρ2 v v'/\WR P.globals.size F ρ2 (re y.w W3.tape W3.drawn) W4/\Left F ρ1 ρ2 (re y.w W3.tape W3.drawn) W3 (re y.w W3.tape W3.drawn) W4/\∀e∈es,EvR F ρ2 e:=fun W3 hr3=>by
  have hw3:=Vj hw1 hS1 hr3;have mn:=Om (P:=P) (fn:=fn) hr.tmps;have hrt:(results fn y.r.tmps).runT P (re y.w T d) #[]=(.ok v (re y.w T d),((results fn y.r.tmps).runT P (re y.w T d) #[]).2):=by
   refine Prod.ext ?_ rfl;rw[Sem.runT_fst];exact hres
  have h2:=(Iy P mn (re y.w T d) (re W3 T d) #[] (hw3.re T d) v _ _ hrt).2.2 W3.tape W3.drawn fun i hi=>by
   simp only[Pz] at hi;omega
  simp only[As2,Pz,Nat.sub_self,Nat.add_zero] at h2;obtain⟨ρ2,v',W4,new,r1,r2,r3,r4,r5⟩:=Aay P mn (re y.w W3.tape W3.drawn) W3 #[] #[] hw3 v _ _ h2;rw[Array.empty_append] at r1;refine⟨ρ2,v',W4,seen P r'.fn new,?_,r2,r3,r4,fun e he=>r5 e (Pu he)⟩;rw[Mm (hr.ret ▸ hret) (show P.funcs[r'.fn]?=some fn from hr.fn ▸ (show P.funcs[y.r.fn]?=some fn from hfn)),r1];simp[doReturn,Bt.fr,GStep.after,Conc.G]
 refine .step rfl (fun W3 hr3=>?_) fun W3 g1 W4 es hr3 hst=>?_
 ·obtain⟨ρ2,v',W4,es,h1,h2,h3,h4,h5⟩:=jb W3 hr3;exact⟨_,W4,es,h1,F0 hS1 h4 (fun a b q=>(h3.lt a b q).2) h5⟩
 ·obtain⟨ρ2,v',W5,es',h1,h2,h3,h4,h5⟩:=jb W3 hr3;rw[h1] at hst;simp only[GStep.go.injEq] at hst;obtain⟨rfl,rfl,rfl⟩:=hst;have e2:re y.w W5.tape W5.drawn=re y.w W3.tape W3.drawn:=by rw[<- h3.tape,<- h3.drawn];rfl
  exact .stop ⟨v,v',ρ2,y.w,rfl,h2,⟨T,d,hR⟩,by rw[e2];exact h3,Gu hS1 h4 (fun a b q=>(h3.lt a b q).2),Bn.le_trans hle h4.le⟩
end
open Go.ConcN (sumTo upd upd_same upd_ne sumTo_upd sumTo_congr le_sumTo)
inductive ML where
 | off|fresh|spun|que|tok|hand|own (k:Nat) | rel|post|phand
 deriving DecidableEq
structure MW where
 L:Bool
 K:Bool
 S:Bool
 w:Nat
 q:Nat
def MW.code (x:MW):Nat:=x.L.toNat+2 * x.K.toNat+4 * x.S.toNat+8 * x.w
theorem MW.code_inj {x y:MW} (h:x.code=y.code):x.L=y.L/\x.K=y.K/\x.S=y.S/\x.w=y.w:=by
 obtain⟨a,b,c,d,_⟩:=x;obtain⟨a',b',c',d',_⟩:=y;simp only[MW.code] at h;cases a<;>cases b<;>cases c<;>cases a'<;>cases b'<;>cases c'<;>simp at h ⊢<;>omega
def ML.nOwn:ML->Nat
 | .own _=>1
 | _=>0
def ML.nTkn:ML->Nat
 | .spun | .tok | .post=>1
 | _=>0
def ML.nHnd:ML->Nat
 | .hand | .phand=>1
 | _=>0
def ML.nPost:ML->Nat
 | .post=>1
 | _=>0
def ML.nQue:ML->Nat
 | .que=>1
 | _=>0
def ML.nHand:ML->Nat
 | .hand=>1
 | _=>0
def ML.nRel:ML->Nat
 | .rel=>1
 | _=>0
def ML.wt:ML->Nat
 | .off=>0
 | .fresh=>6
 | .spun=>5
 | .que=>4
 | .tok=>5
 | .hand=>4
 | .own _=>3
 | .rel=>2
 | .post=>1
 | .phand=>2
def mN (f:ML->Nat) (b W:Nat) (ml:Nat->ML):Nat:=sumTo W fun j=>f (ml (b+j))
section
variable {b W i j:Nat} {ml ml':Nat->ML} {x x':MW} {y:ML} {f g:ML->Nat}
theorem Il (f:ML->Nat) (y:ML) (h1:b<=i) (h2:i < b+W):mN f b W (upd ml i y)+f (ml i)=mN f b W ml+f y:=by
 have:=sumTo_upd (fun j=>ml (b+j)) y f (i:=i - b) (j:=W) (by omega);rw[show b+(i - b)=i by omega] at this;unfold mN;rw[<- this]
 congr 1
 refine sumTo_congr fun a _=>?_
 congr 1
 by_cases e:b+a=i
 ·have:a=i - b:=by omega
  subst this;rw[e,upd_same,upd_same]
 ·rw[upd_ne _ _ e,upd_ne _ _ (by omega)]
theorem V0 {f g:Nat->Nat} (h:∀j,f j<=g j):∀W,sumTo W f<=sumTo W g
 | 0=>Nat.le_refl _
 | W+1=>Nat.add_le_add (V0 h W) (h W)
theorem Ri (h:∀m,f m<=g m):mN f b W ml<=mN g b W ml:=V0 (fun _=>h _) W
theorem Hb (h1:b<=i) (h2:i < b+W):f (ml i)<=mN f b W ml:=by
 have:=le_sumTo (f:=fun j=>f (ml (b+j))) (i:=i - b) (j:=W) (by omega);simp only[show b+(i - b)=i by omega] at this;exact this
theorem Aty (h:1<=mN f b W ml):∃i,b<=i/\i < b+W/\1<=f (ml i):=by
 have key:∀W,1<=mN f b W ml->∃i,b<=i/\i < b+W/\1<=f (ml i):=by
  intro W
  induction W with
  | zero=>intro h;exact absurd h (by simp[mN,sumTo])
  | succ W ih =>
   intro h;by_cases h1:1<=mN f b W ml
   ·obtain⟨i,a,c,d⟩:=ih h1;exact⟨i,a,by omega,d⟩
   ·have e:mN f b (W+1) ml=mN f b W ml+f (ml (b+W)):=rfl;exact⟨b+W,by omega,by omega,by omega⟩
 exact key W h
theorem An9 (h1:b<=i) (h2:i < b+W) (h3:b<=j) (h4:j < b+W) (hij:i≠j) (ha:1<=f (ml i)) (hb:1<=f (ml j)) (h0:f .off=0):2<=mN f b W ml:=by
 have e:=Il (ml:=ml) f .off h1 h2;have:=Hb (f:=f) (ml:=upd ml i .off) h3 h4;rw[upd_ne _ _ (Ne.symm hij)] at this;omega
structure Fe (b W:Nat) (ml:Nat->ML) (x:MW):Prop where
 out:∀i,i < b\/b+W<=i->ml i=.off
 own:mN ML.nOwn b W ml=x.L.toNat
 q1:x.q<=1
 norm:x.S=false->mN ML.nHnd b W ml=0/\x.K.toNat=mN ML.nTkn b W ml+x.q/\x.w+x.q+mN ML.nPost b W ml=mN ML.nQue b W ml
 starv:x.S=true->x.K=false/\mN ML.nTkn b W ml=0/\x.L.toNat+mN ML.nHnd b W ml+x.q=1/\x.w=mN ML.nQue b W ml+mN ML.nHand b W ml/\1<=x.w
 duty:x.S=false->x.L=false->x.K=false->0 < x.w->1<=mN ML.nRel b W ml
inductive B1:ML->MW->ML->MW->Prop
 | spin {x:MW}:x.L=true->x.K=false->x.S=false->0 < x.w->B1 .fresh x .spun { x with K:=true }
 | lock0 {x:MW}:x.L=false->x.S=false->B1 .fresh x (.own 0) { x with L:=true }
 | lock {a:ML} {x:MW}:a=.spun\/a=.tok->x.L=false->x.S=false->B1 a x (.own 0) { x with L:=true,K:=false }
 | queue0 {x:MW}:x.L=true\/x.S=true->B1 .fresh x .que { x with w:=x.w+1 }
 | queue {a:ML} {x:MW} (s:Bool):a=.spun\/a=.tok->x.L=true->x.S=false->B1 a x .que { x with w:=x.w+1,K:=false,S:=s }
 | sem {x:MW}:0 < x.q->B1 .que x (if x.S then .hand else .tok) { x with q:=x.q - 1 }
 | take {x:MW} (s:Bool):(s=true->2<=x.w)->B1 .hand x (.own 0) { x with L:=true,w:=x.w - 1,S:=s }
 | keep {x:MW} (k k':Nat):B1 (.own k) x (.own k') x
 | unlock {x:MW} (k:Nat):B1 (.own k) x (if x.S then .phand else if x.K||x.w==0 then .off else .rel) { x with L:=false }
 | leave {x:MW}:x.w=0\/x.L=true\/x.K=true\/x.S=true->B1 .rel x .off x
 | wake {x:MW}:0 < x.w->x.L=false->x.K=false->x.S=false->B1 .rel x .post { x with K:=true,w:=x.w - 1 }
 | up {a:ML} {x:MW}:a=.post\/a=.phand->B1 a x .off { x with q:=x.q+1 }
 | fin {x:MW}:B1 .fresh x .off x
theorem Fe.step (h:Fe b W ml x) (h1:b<=i) (h2:i < b+W) (s:B1 (ml i) x y x') :
  Fe b W (upd ml i y) x'/\mN ML.wt b W (upd ml i y)+x'.q<=mN ML.wt b W ml+x.q/\(x'.code=x.code\/mN ML.wt b W (upd ml i y)+x'.q < mN ML.wt b W ml+x.q):=by
 obtain⟨ho,h3,h4,h5,h6,h7⟩:=h;have hout:∀k,k < b\/b+W<=k->upd ml i y k=.off:=fun k hk=>by rw[upd_ne _ _ (by omega)];exact ho k hk
 have e1:=Il (ml:=ml) ML.nOwn y h1 h2;have e2:=Il (ml:=ml) ML.nTkn y h1 h2;have e3:=Il (ml:=ml) ML.nHnd y h1 h2;have e4:=Il (ml:=ml) ML.nPost y h1 h2;have e5:=Il (ml:=ml) ML.nQue y h1 h2;have e6:=Il (ml:=ml) ML.nHand y h1 h2;have e7:=Il (ml:=ml) ML.nRel y h1 h2;have e8:=Il (ml:=ml) ML.wt y h1 h2;have m1:mN ML.nPost b W ml<=mN ML.nTkn b W ml:=Ri fun m=>by cases m<;>simp[ML.nPost,ML.nTkn]
 have m2:mN ML.nHand b W ml<=mN ML.nHnd b W ml:=Ri fun m=>by cases m<;>simp[ML.nHand,ML.nHnd]
 have a1:=Hb (f:=ML.nOwn) (ml:=ml) h1 h2;have a2:=Hb (f:=ML.nTkn) (ml:=ml) h1 h2;have a3:=Hb (f:=ML.nHnd) (ml:=ml) h1 h2;have a4:=Hb (f:=ML.nPost) (ml:=ml) h1 h2;have a5:=Hb (f:=ML.nQue) (ml:=ml) h1 h2;have a6:=Hb (f:=ML.nHand) (ml:=ml) h1 h2;have a7:=Hb (f:=ML.nRel) (ml:=ml) h1 h2;have m3:mN ML.nPost b W (upd ml i y)<=mN ML.nTkn b W (upd ml i y):=Ri fun m=>by cases m<;>simp[ML.nPost,ML.nTkn]
 have m4:mN ML.nHand b W (upd ml i y)<=mN ML.nHnd b W (upd ml i y):=Ri fun m=>by cases m<;>simp[ML.nHand,ML.nHnd]
 generalize hz:upd ml i y=ml' at *;generalize mN ML.nOwn b W ml=o1,mN ML.nTkn b W ml=o2,mN ML.nHnd b W ml=o3,mN ML.nPost b W ml=o4,mN ML.nQue b W ml=o5,mN ML.nHand b W ml=o6,mN ML.nRel b W ml=o7,mN ML.wt b W ml=o8 at *;generalize g1:mN ML.nOwn b W ml'=p1 at *;generalize g2:mN ML.nTkn b W ml'=p2 at *;generalize g3:mN ML.nHnd b W ml'=p3 at *;generalize g4:mN ML.nPost b W ml'=p4 at *;generalize g5:mN ML.nQue b W ml'=p5 at *;generalize g6:mN ML.nHand b W ml'=p6 at *;generalize g7:mN ML.nRel b W ml'=p7 at *;generalize g8:mN ML.wt b W ml'=p8 at *
 suffices H:p1=x'.L.toNat/\x'.q<=1/\(x'.S=false->p3=0/\x'.K.toNat=p2+x'.q/\x'.w+x'.q+p4=p5)/\(x'.S=true->x'.K=false/\p2=0/\x'.L.toNat+p3+x'.q=1/\x'.w=p5+p6/\1<=x'.w)/\(x'.S=false->x'.L=false->x'.K=false->0 < x'.w->1<=p7)/\p8+x'.q<=o8+x.q/\(x'.code=x.code\/p8+x'.q < o8+x.q) by
  obtain⟨q1,q2,q3,q4,q5,q6,q7⟩:=H;exact⟨⟨hout,g1.trans q1,q2,fun e=>by rw[g2,g3,g4,g5];exact q3 e,fun e=>by rw[g2,g3,g5,g6];exact q4 e,fun a1 a2 a3 a4=>by rw[g7];exact q5 a1 a2 a3 a4⟩,q6,q7⟩
 clear g1 g2 g3 g4 g5 g6 g7 g8 hout ho hz;generalize ml i=a at *;obtain⟨xL,xK,xS,xw,xq⟩:=x;dsimp only at *;cases s with
 | sem hq =>
  dsimp only at hq;cases xL<;>cases xK<;>cases xS<;>simp[ML.nOwn,ML.nTkn,ML.nHnd,ML.nPost,ML.nQue,ML.nHand,ML.nRel,ML.wt,MW.code] at *<;>omega
 | unlock k =>
  rcases xw with _|xw
  ·cases xL<;>cases xK<;>cases xS<;>simp[ML.nOwn,ML.nTkn,ML.nHnd,ML.nPost,ML.nQue,ML.nHand,ML.nRel,ML.wt,MW.code] at *<;>omega
  ·cases xL<;>cases xK<;>cases xS<;>simp[ML.nOwn,ML.nTkn,ML.nHnd,ML.nPost,ML.nQue,ML.nHand,ML.nRel,ML.wt,MW.code] at *<;>omega
 | lock ha=>rcases ha with rfl|rfl<;>cases xL<;>cases xK<;>cases xS<;>simp[ML.nOwn,ML.nTkn,ML.nHnd,ML.nPost,ML.nQue,ML.nHand,ML.nRel,ML.wt,MW.code] at *<;>omega
 | queue s ha=>rcases ha with rfl|rfl<;>cases s<;>cases xL<;>cases xK<;>cases xS<;>simp[ML.nOwn,ML.nTkn,ML.nHnd,ML.nPost,ML.nQue,ML.nHand,ML.nRel,ML.wt,MW.code] at *<;>omega
 | up ha=>rcases ha with rfl|rfl<;>cases xL<;>cases xK<;>cases xS<;>simp[ML.nOwn,ML.nTkn,ML.nHnd,ML.nPost,ML.nQue,ML.nHand,ML.nRel,ML.wt,MW.code] at *<;>omega
 | take s hs=>cases s<;>cases xL<;>cases xK<;>cases xS<;>simp[ML.nOwn,ML.nTkn,ML.nHnd,ML.nPost,ML.nQue,ML.nHand,ML.nRel,ML.wt,MW.code] at *<;>omega
 | _=>cases xL<;>cases xK<;>cases xS<;>simp[ML.nOwn,ML.nTkn,ML.nHnd,ML.nPost,ML.nQue,ML.nHand,ML.nRel,ML.wt,MW.code] at *<;>omega
theorem Fe.hand_keep (h:Fe b W ml x) (h1:b<=i) (h2:i < b+W) (s:B1 (ml i) x y x') (lh:b<=j) (dc:j < b+W) (dx:j≠i) (hj:ml j=.hand):x.w<=x'.w/\x'.S=true:=by
 have a3:=Hb (f:=ML.nHnd) (ml:=ml) lh dc;rw[hj] at a3;have hS:x.S=true:=by
  cases e:x.S with
  | true=>rfl
  | false=>have:=(h.norm e).1;simp[ML.nHnd] at a3;omega
 have h5:=h.starv hS;have tw:ML.nHnd (ml i)=0:=by
  refine Classical.byContradiction fun q=>?_;have:=An9 (f:=ML.nHnd) (ml:=ml) h1 h2 lh dc (Ne.symm dx) (by omega) (by rw[hj];simp[ML.nHnd]) rfl;omega
 generalize hm:ml i=m at *;cases s with
 | take s hs=>simp[ML.nHnd] at tw
 | lock0 _ q=>rw[hS] at q;cases q
 | lock _ _ q=>rw[hS] at q;cases q
 | spin _ _ q=>rw[hS] at q;cases q
 | queue s _ _ q=>rw[hS] at q;cases q
 | wake _ _ _ q=>rw[hS] at q;cases q
 | queue0=>exact⟨Nat.le_succ _,hS⟩
 | _=>exact⟨Nat.le_refl _,hS⟩
theorem Fe.one (h:Fe b W ml x) {k k':Nat} (hi:ml i=.own k) (hj:ml j=.own k'):i=j:=by
 have r:∀ {i k},ml i=.own k->b<=i/\i < b+W:=fun {i k} e=>by
  refine Classical.byContradiction fun q=>?_;rw[h.out i (by omega)] at e;cases e
 refine Classical.byContradiction fun q=>?_;have:=An9 (f:=ML.nOwn) (ml:=ml) (r hi).1 (r hi).2 (r hj).1 (r hj).2 q (by rw[hi];simp[ML.nOwn]) (by rw[hj];simp[ML.nOwn]) rfl;have h2:=h.own;cases e:x.L<;>rw[e] at h2<;>simp at h2<;>omega
theorem Fe.range (h:Fe b W ml x) (hi:ml i≠.off):b<=i/\i < b+W:=Classical.byContradiction fun q=>hi (h.out i (by omega))
theorem Fe.live (h:Fe b W ml x) (hj:ml j=.que) (hq:x.q=0):∃i,b<=i/\i < b+W/\ml i≠.off/\ml i≠.fresh/\ml i≠.que:=by
 obtain⟨j1,j2⟩:=h.range (by rw[hj];simp);have a5:=Hb (f:=ML.nQue) (ml:=ml) j1 j2;rw[hj] at a5;simp only[ML.nQue] at a5;have fin:∀f:ML->Nat,1<=mN f b W ml->f .off=0->f .fresh=0->f .que=0->∃i,b<=i/\i < b+W/\ml i≠.off/\ml i≠.fresh/\ml i≠.que:=fun f h0 q1 q2 q3=>by
  obtain⟨i,a,c,d⟩:=Aty h0;refine⟨i,a,c,?_,?_,?_⟩<;>(intro e;rw[e] at d;omega)
 by_cases h1:1<=mN ML.nOwn b W ml
 ·exact fin _ h1 rfl rfl rfl
 by_cases h2:1<=mN ML.nTkn b W ml
 ·exact fin _ h2 rfl rfl rfl
 by_cases h3:1<=mN ML.nHnd b W ml
 ·exact fin _ h3 rfl rfl rfl
 have hL:x.L=false:=by
  have:=h.own;cases e:x.L with
  | false=>rfl
  | true=>rw[e] at this;simp at this;omega
 cases hS:x.S with
 | true=>have:=(h.starv hS).2.2.1;rw[hL] at this;simp at this;omega
 | false =>
  obtain⟨_,b2,b3⟩:=h.norm hS;have hK:x.K=false:=by
   cases e:x.K with
   | false=>rfl
   | true=>rw[e] at b2;simp at b2;omega
  have m1:mN ML.nPost b W ml<=mN ML.nTkn b W ml:=Ri fun m=>by cases m<;>simp[ML.nPost,ML.nTkn]
  exact fin _ (h.duty hS hL hK (by omega)) rfl rfl rfl
theorem Fe.few (h:Fe b W ml x):x.w<=2 * W:=by
 have c1:mN ML.nQue b W ml<=W:=by
  have:=Go.ConcN.sumTo_le (f:=fun j=>ML.nQue (ml (b+j))) (c:=1) (j:=W) fun k _=>by cases (ml (b+k))<;>simp[ML.nQue]
  simpa [mN] using this
 have c2:mN ML.nHand b W ml<=W:=by
  have:=Go.ConcN.sumTo_le (f:=fun j=>ML.nHand (ml (b+j))) (c:=1) (j:=W) fun k _=>by cases (ml (b+k))<;>simp[ML.nHand]
  simpa [mN] using this
 cases hS:x.S with
 | true=>have:=(h.starv hS).2.2.2.1;omega
 | false=>have:=(h.norm hS).2.2;omega
theorem Fe.tkn (h:Fe b W ml x) (hi:ml i=.spun\/ml i=.tok):x.K=true/\x.S=false:=by
 have a2:=h.range (i:=i) (by rcases hi with e|e<;>rw[e]<;>simp);have a3:=Hb (f:=ML.nTkn) (ml:=ml) a2.1 a2.2;have a4:ML.nTkn (ml i)=1:=by rcases hi with e|e<;>rw[e]<;>rfl
 have hS:x.S=false:=by
  cases e:x.S with
  | false=>rfl
  | true=>have:=(h.starv e).2.1;omega
 refine⟨?_,hS⟩;have:=(h.norm hS).2.1;cases e:x.K with
 | true=>rfl
 | false=>rw[e] at this;simp at this;omega
theorem Fe.handed (h:Fe b W ml x) (hi:ml i=.hand):x.S=true/\x.L=false/\x.K=false/\1<=x.w:=by
 have a2:=h.range (i:=i) (by rw[hi];simp);have a3:=Hb (f:=ML.nHnd) (ml:=ml) a2.1 a2.2;rw[hi] at a3;simp only[ML.nHnd] at a3;have hS:x.S=true:=by
  cases e:x.S with
  | true=>rfl
  | false=>have:=(h.norm e).1;omega
 obtain⟨q1,_,q3,_,q5⟩:=h.starv hS;refine⟨hS,?_,q1,q5⟩;cases e:x.L with
 | false=>rfl
 | true=>rw[e] at q3;simp at q3;omega
theorem Fe.owned (h:Fe b W ml x) {k:Nat} (hi:ml i=.own k):x.L=true:=by
 have a2:=h.range (i:=i) (by rw[hi];simp);have a3:=Hb (f:=ML.nOwn) (ml:=ml) a2.1 a2.2;rw[hi] at a3;simp only[ML.nOwn] at a3;have:=h.own;cases e:x.L with
 | true=>rfl
 | false=>rw[e] at this;simp at this;omega
theorem Fe.down (h:Fe b W ml x) (hi:ml i=.post\/ml i=.phand):x.q=0:=by
 have a2:=h.range (i:=i) (by rcases hi with e|e<;>rw[e]<;>simp);cases hS:x.S with
 | true =>
  have q3:=(h.starv hS).2.2.1;rcases hi with e|e
  ·have a3:=Hb (f:=ML.nTkn) (ml:=ml) a2.1 a2.2;rw[e] at a3;have:=(h.starv hS).2.1;simp[ML.nTkn] at a3;omega
  ·have a3:=Hb (f:=ML.nHnd) (ml:=ml) a2.1 a2.2;rw[e] at a3;simp[ML.nHnd] at a3;omega
 | false =>
  obtain⟨q1,q2,q3⟩:=h.norm hS;rcases hi with e|e
  ·have a3:=Hb (f:=ML.nTkn) (ml:=ml) a2.1 a2.2;rw[e] at a3;simp[ML.nTkn] at a3;have:x.K.toNat<=1:=by cases x.K<;>simp
   omega
  ·have a3:=Hb (f:=ML.nHnd) (ml:=ml) a2.1 a2.2;rw[e] at a3;simp[ML.nHnd] at a3;omega
theorem Fe.start (b W:Nat):Fe b W (fun _=>.off) ⟨false,false,false,0,0⟩:=by
 have z:∀f:ML->Nat,f .off=0->mN f b W (fun _=>.off)=0:=fun f hf=>by
  have:=Go.ConcN.sumTo_le (f:=fun _=>f .off) (c:=0) (j:=W) fun k _=>by omega
  simpa [mN] using this
 exact⟨fun _ _=>rfl,z _ rfl,Nat.zero_le _,fun _=>⟨z _ rfl,by simp[z ML.nTkn rfl],by simp[z ML.nPost rfl,z ML.nQue rfl]⟩,fun q=>by simp at q,fun _ _ _ q=>by simp at q⟩
theorem Fe.give (h:Fe b W ml x) (h1:b<=i) (h2:i < b+W) (hi:ml i=.off):Fe b W (upd ml i .fresh) x/\mN ML.wt b W (upd ml i .fresh)=mN ML.wt b W ml+6:=by
 have e:∀f:ML->Nat,f .fresh=f .off->mN f b W (upd ml i .fresh)=mN f b W ml:=fun f hf=>by have:=Il (ml:=ml) f .fresh h1 h2;rw[hi] at this;omega
 refine⟨⟨fun k hk=>by rw[upd_ne _ _ (by omega)];exact h.out k hk,(e _ rfl).trans h.own,h.q1,?_,?_,?_⟩,?_⟩
 ·rw[e _ rfl,e _ rfl,e _ rfl,e _ rfl];exact h.norm
 ·rw[e _ rfl,e _ rfl,e _ rfl,e _ rfl];exact h.starv
 ·rw[e _ rfl];exact h.duty
 ·have:=Il (ml:=ml) ML.wt .fresh h1 h2;rw[hi] at this;simp only[ML.wt] at this;omega
end
end Go.Proofs.YtbicafgmfgdckaaGreatDoor
