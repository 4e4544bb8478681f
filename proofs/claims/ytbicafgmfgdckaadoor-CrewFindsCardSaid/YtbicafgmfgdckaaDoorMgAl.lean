/- The crew's pact: a phase begins; a block that will be shared is made. For any program. The crew's pact: a phase is over. For any program. The crew's pact: main starts who has the phase, and collects; the phase is over; the channel is closed; a worker is about to hand. For any program. The crew's pact: how a goroutine's life is shown, a piece at a time. For any program. -/
import Derived.Test.YtbicafgmfgdckaaDoorMgAk
namespace Go.Proofs.YtbicafgmfgdckaaDoor
open Go Go.Conc
open Go.ConcR (KK wgBlock WgAt stA smA rd wr mk)
open Go.ConcN (sumTo upd upd_same upd_ne RelBy PermW WgLive)

section
variable {ty:TypeId} {top:Nat} {γ γ':Gho} {p:Ph} {c:Col} {w w':World} {i j k n:Nat} {t u:Trace} {P:Program} {Post:Value->World->Prop} {es:Array Event} {tag:Nat->Tag} {x:Tag}
def Lonely (i:Nat) (γ:Gho):Prop:=γ.ph=none/\((i=0/\γ.col=none)\/(i≠0/\∃c,γ.col=some c/\c.f=i/\γ.tag i=.pre))
theorem Lonely.only (h:Lonely i γ) (hI:GInv ty top γ w) (hji:j≠i) (hj:γ.tag j≠.gone):j=0/\∃c,γ.col=some c/\c.f=i/\i≠0:=by
 obtain⟨hp,⟨e,hc⟩|⟨hi,c,hc,hf,ht⟩⟩:=h
 ·exact absurd ((hI.free hp hc).2.1 j (by omega)) hj
 ·refine⟨Classical.byContradiction fun q=>hj ((hI.lull c hc hp).rest j q (by omega)),c,hc,hf,hi⟩
def Gho.mk1 (γ:Gho) (y:BK):Gho:={ γ with hs:=γ.hs+1,bk:=upd γ.bk γ.hs y }
abbrev Gho.share (γ:Gho) (i:Nat):Gho:=γ.mk1 (.shd i)
theorem do_mk {y:BK} (hy:(∃s,y=.shd s)\/y=.lock) (hI:GInv ty top γ w) (hl:Lonely i γ) (hsz:w'.heap.size=w.heap.size+1) (ht:w'.tape=w.tape) (hh:∀b,b < w.heap.size->w'.heap[b]?=w.heap[b]?) (hos:Passed w w') (wk:Prop):(crewPact P ty top Post).Do i γ w (γ.mk1 y) w' wk #[]:=by
 have hlt:∀b,b < γ.hs->(γ.mk1 y).bk b=γ.bk b:=fun b hb=>upd_ne _ _ (by omega)
 have hnew:(γ.mk1 y).bk γ.hs=y:=upd_same _ _ _
 have hh':∀b,b < γ.hs->w'.heap[b]?=w.heap[b]?:=fun b hb=>hh b (by rw[<- hI.hs];exact hb)
 have last:∀b,γ.hs<=b->b < (γ.mk1 y).hs->b=γ.hs:=fun b h1 h2=>by have h2':b < γ.hs+1:=h2;omega
 refine⟨hI.frame (by rw[hsz,<- hI.hs];rfl) ⟨rfl,rfl,rfl,rfl,rfl,rfl,rfl,rfl,rfl,rfl,rfl,hlt,fun b h1 h2=>?_,Nat.le_succ _,fun _ _=>rfl,fun b hb _=>hh' b hb,fun b _ _ hb _ _=>hh' b hb⟩ (fun _ _ b h1 h2=>?_),fun j hj=>⟨rfl,rfl,⟨rfl,rfl⟩,fun e=>?_⟩,fun t fn pos hT=>?_,fun j cases c r hj hof hc hr=>.inl (hh' _ (offer_shd hI hof hc hr).1),.inr fun j hj hw=>?_,rfl,hos⟩
 ·rw[last b h1 h2,hnew];rcases hy with⟨s,rfl⟩|rfl<;>exact⟨fun m=>by simp,by simp⟩
 ·rw[last b h1 h2,hnew];exact hy.imp id .inr
 ·obtain⟨rfl,c,hc,hf,hi⟩:=hl.only hI hj e
  refine⟨Nat.le_succ _,fun b hb _=>hlt b hb,fun b h1 h2=>?_,fun b hb _=>hh' b hb,ht,fun _ h=>h.1,fun h _=>h,rfl,fun _ _ _=>⟨rfl,Nat.le_refl _⟩,(fun _ q=>by rw[hc] at q;cases q),(fun q=>absurd rfl q),fun _ _=>Nat.le_refl _,fun _ _ _=>Iff.rfl,(fun _ _ h=>h),fun _=>rfl,fun p' hp'=>by have:=hp'.1;rw[hl.1] at this;cases this⟩
  by_cases q:b < γ.hs
  ·exact⟨q,(hlt b q).symm.trans h2⟩
  ·rw[last b (by omega) h1,hnew] at h2
   rcases hy with⟨s,rfl⟩|rfl<;>cases h2
 ·rw[ofEvents_nil]
  exact⟨hT.d.low hT.low hlt rfl rfl fun k l hl hk=>⟨hk.1,hk.2.1,fun m q=>hk.2.2 m ((hlt _ hl).trans q)⟩,hT.deaf,hT.nrel,fun m a ha=>Nat.lt_succ_of_lt (hT.low m a ha),hT.rel,hT.old,hT.fin,hT.shut⟩
 ·obtain⟨p',q⟩:=hw.phase;rw[hl.1] at q;cases q
theorem do_share (hI:GInv ty top γ w) (hl:Lonely i γ) (hsz:w'.heap.size=w.heap.size+1) (ht:w'.tape=w.tape) (hh:∀b,b < w.heap.size->w'.heap[b]?=w.heap[b]?) (hos:Passed w w') (wk:Prop):(crewPact P ty top Post).Do i γ w (γ.share i) w' wk #[] :=
 do_mk (.inl ⟨i,rfl⟩) hI hl hsz ht hh hos wk
open Classical in
noncomputable def Gho.enter (γ:Gho) (p:Ph) (Fx:Nat->Prop):Gho :=
 { γ with tag:=upd γ.tag p.f (.add 0 0),ph:=some p,next:=0,done:=fun _=>False,ow:=fun _ _=>some p.f,stp:=false,sk:=if p.kind=.seek then ⟨fun _ _=>.off,fun _=>⟨false,false,false,0,0⟩,p.n,fun _=>False,false,upd γ.sk.lo p.out none⟩ else γ.sk,bk:=fun b=>if Fx b then .fix p.f else if p.kind=.fill/\b=p.out then .mix else γ.bk b }
structure SeekB (γ:Gho) (w:World) (p:Ph):Prop where
 out:p.out < γ.hs/\γ.bk p.out=.lock
 outm:w.heap[p.out]?=some (.cells #[.int .i32 0,.int .u32 0,.int .i64 (-1)] p.oty (0,0))
 once:p.once < γ.hs/\γ.bk p.once=.shd p.f
 oncem:w.heap[p.once]?=some (.cells #[.int .u32 0,.int .i32 0,.int .u32 0] p.onty (0,0))
 ne:p.once≠p.wg/\p.once≠p.jobs/\p.once≠p.stop
 W:p.W<=16
structure Begins (ty:TypeId) (top:Nat) (γ:Gho) (w:World) (p:Ph) (Fx:Nat->Prop):Prop where
 lone:Lonely p.f γ
 kind:(γ.col=none/\p.kind≠.hand)\/∃c,γ.col=some c/\p.kind=.hand/\p.n=c.n/\p.W<=c.W
 seek:p.kind=.seek->SeekB γ w p
 b:p.b=γ.cnt
 W:1<=p.W
 small:p.W < 2147483647
 top:γ.cnt+p.W<=top
 wg:p.wg < γ.hs/\γ.bk p.wg=.shd p.f
 jobs:p.jobs < γ.hs/\γ.bk p.jobs=.shd p.f
 stop:p.stop < γ.hs/\γ.bk p.stop=.shd p.f
 ne:p.jobs≠p.wg/\p.stop≠p.wg/\p.jobs≠p.stop
 out:p.kind=.fill->p.out < γ.hs/\γ.bk p.out=.priv p.f
 fx:∀b,Fx b->b < γ.hs/\γ.bk b=.priv p.f/\(p.kind=.fill->b≠p.out)
 H:∀b,Fx b->w.heap[b]?=p.H b
 H0:∀b m,b < γ.hs->γ.bk b=.fix m->w.heap[b]?=p.H b
 wgm:WgAt ty p.wg w 0 0
 jobsm:w.heap[p.jobs]?=some (.chan 0 #[] false 0 0 false)
 stopm:w.heap[p.stop]?=some (.chan 0 #[] false 0 0 false)
 outm:p.kind=.fill->∃cs,w.heap[p.out]?=some (.cells cs p.oty (0,0))/\cs.size=32 * p.n
 deaf:γ.deaf p.f=0
theorem do_enter {Fx:Nat->Prop} (hI:GInv ty top γ w) (B:Begins ty top γ w p Fx) (wk:Prop):(crewPact P ty top Post).Do p.f γ w (γ.enter p Fx) w wk #[]:=by
 have hp:γ.ph=none:=B.lone.1
 have S:(p.f=0/\γ.col=none/\p.kind≠.hand)\/∃c,γ.col=some c/\p.f=c.f/\0 < p.f/\p.kind=.hand/\(p.n=c.n/\p.W<=c.W)/\γ.tag p.f=.pre/\Coll γ w c/\Lull γ c:=by
  rcases B.lone.2 with⟨e,hc⟩|⟨e,c,hc,hf,ht⟩
  ·rcases B.kind with⟨_,q⟩|⟨c,q,_⟩
   ·exact .inl ⟨e,hc,q⟩
   ·rw[hc] at q;cases q
  ·rcases B.kind with⟨q,_⟩|⟨c',q,q2,q3⟩
   ·rw[hc] at q;cases q
   ·obtain rfl:=same_col hc q
    exact .inr ⟨c,hc,hf.symm,by omega,q2,q3,ht,hI.coll c hc,hI.lull c hc hp⟩
 have others:∀k,k≠p.f->k≠0->γ.tag k=.gone:=fun k h1 h2=>by
  rcases S with⟨_,hc,_⟩|⟨c,hc,hf,_,_,_,_,_,hL⟩
  ·exact(hI.free hp hc).2.1 k h2
  ·exact hL.rest k h2 (by omega)
 have bks:∀b,b < γ.hs->γ.bk b≠.mix:=fun b hb q=>by
  rcases S with⟨_,hc,_⟩|⟨c,hc,hf,_,_,_,_,_,hL⟩
  ·rcases (hI.free hp hc).2.2.1 b hb with⟨s,r⟩|r|r<;>(rw[q] at r;cases r)
  ·exact hL.nomix b hb q
 have fixs:∀b m,b < γ.hs->γ.bk b=.fix m->m=0:=fun b m hb q=>by
  rcases S with⟨_,hc,_⟩|⟨c,hc,hf,_,_,_,ht,_,hL⟩
  ·rcases (hI.free hp hc).2.2.1 b hb with⟨s,r⟩|r|r<;>(rw[q] at r;cases r)
  ·exact(hL.top (by rw[<- hf];exact ht)).2 b m hb q
 have flt:p.f < γ.cnt:=by
  rcases S with⟨e,_⟩|⟨c,_,e,_,_,_,_,hK,_⟩
  ·rw[e];exact hI.cnt
  ·rw[e];exact hK.f.2.1
 have hfx:∀b,Fx b->(γ.enter p Fx).bk b=.fix p.f:=fun b h=>by simp only[Gho.enter];rw[if_pos h]
 have hout:p.kind=.fill->(γ.enter p Fx).bk p.out=.mix:=fun hk=>by
  simp only[Gho.enter];rw[if_neg (fun q=>(B.fx _ q).2.2 hk rfl)];simp[hk]
 have hrest:∀b,¬Fx b->¬(p.kind=.fill/\b=p.out)->(γ.enter p Fx).bk b=γ.bk b:=fun b h1 h2=>by simp only[Gho.enter];rw[if_neg h1,if_neg h2]
 have hother:∀b y,γ.bk b=y->y≠.priv p.f->(γ.enter p Fx).bk b=y:=fun b y e hy=>(hrest b (fun q=>hy (by rw[<- e];exact(B.fx b q).2.1)) fun q=>hy (by rw[<- e,q.2];exact(B.out q.1).2)).trans e
 have hback:∀b y,(γ.enter p Fx).bk b=y->y≠.fix p.f->y≠.mix->γ.bk b=y:=fun b y e h1 h2=>by
  by_cases q:Fx b
  ·rw[hfx b q] at e;exact absurd e.symm h1
  ·by_cases q2:p.kind=.fill/\b=p.out
   ·rw[q2.2,hout q2.1] at e;exact absurd e.symm h2
   ·rwa [hrest b q q2] at e
 have hshd:∀b s,γ.bk b=.shd s->(γ.enter p Fx).bk b=.shd s:=fun b s e=>hother b _ e (by simp)
 have hshd2:∀b s,(γ.enter p Fx).bk b=.shd s->γ.bk b=.shd s:=fun b s e=>hback b _ e (by simp) (by simp)
 have tz:(γ.enter p Fx).tag p.f=.add 0 0:=by show upd γ.tag p.f (Tag.add 0 0) p.f=_;exact upd_same _ _ _
 have tn:∀k,k≠p.f->(γ.enter p Fx).tag k=γ.tag k:=fun k hk=>by show upd γ.tag p.f (Tag.add 0 0) k=_;exact upd_ne _ _ hk
 have tg:∀k,k≠p.f->k≠0->(γ.enter p Fx).tag k=.gone:=fun k h1 h2=>(tn k h1).trans (others k h1 h2)
 have hb0:p.f < p.b:=by rw[B.b];exact flt
 have tb:∀k,p.b<=k->(γ.enter p Fx).tag k=.gone:=fun k hk=>tg k (by omega) (by have:=hI.cnt;have:=B.b;omega)
 have t0:∀x,(γ.enter p Fx).tag 0=x->0=p.f\/γ.tag 0=x:=fun x e=>by
  by_cases q:0=p.f
  ·exact .inl q
  ·exact .inr (by rwa [tn 0 q] at e)
 have main0:0≠p.f->γ.tag 0=.coll:=fun q=>by
  rcases S with⟨e,_⟩|⟨c,_,_,_,_,_,_,hK,_⟩
  ·exact absurd e.symm q
  ·exact hK.tag0
 have tall:∀k,(γ.enter p Fx).tag k=.add 0 0\/(γ.enter p Fx).tag k=.coll\/(γ.enter p Fx).tag k=.gone:=fun k=>by
  by_cases q:k=p.f
  ·rw[q];exact .inl tz
  ·by_cases q0:k=0
   ·subst q0;exact .inr (.inl ((tn 0 q).trans (main0 q)))
   ·exact .inr (.inr (tg k q q0))
 have hfixH:∀b m,b < γ.hs->(γ.enter p Fx).bk b=.fix m->w.heap[b]?=p.H b/\m<=p.f:=fun b m hb e=>by
  by_cases q:Fx b
  ·rw[hfx b q] at e;injection e with e;exact⟨B.H b q,by omega⟩
  ·by_cases q2:p.kind=.fill/\b=p.out
   ·rw[q2.2,hout q2.1] at e;cases e
   ·rw[hrest b q q2] at e
    exact⟨B.H0 b m hb e,by rw[fixs b m hb e];exact Nat.zero_le _⟩
 have hC:Core ty (γ.enter p Fx) p w:=by
  refine⟨hshd _ _ B.wg.2,hshd _ _ B.jobs.2,hshd _ _ B.stop.2,B.ne,fun b m hb e=>(hfixH b m hb e).1,fun b m hb e=>(hfixH b m hb e).2,hb0,by rw[tz];trivial,?_,fun j q e=>?_,fun k h1 h2 h3=>tg k h1 h3,fun k hk=>by rw[tb k hk];trivial,fun _ k h1 h2=>?_,⟨0,0,B.wgm,?_⟩,⟨0,by rw[tz];exact B.jobsm⟩,B.stopm,fun _=>rfl,fun z hz=>absurd hz (Nat.not_lt_zero _),Nat.zero_le _,(fun e=>by rw[tz] at e;cases e),⟨fun k z e=>?_,fun z hz=>hz.elim⟩,fun k hk=>?_,B.small,B.W,fun hk=>?_,fun hk=>?_,fun hk b hb e=>?_⟩
  ·show γ.cnt=p.b+(γ.enter p Fx).started p
   unfold Gho.started
   rw[tz];exact B.b.symm
  ·rw[tz] at e;injection e with e1 e2;subst e1 e2;exact⟨Nat.zero_le _,.inl rfl,rfl⟩
  ·have h2':k < γ.cnt:=h2
   rw[B.b] at h1;omega
  ·have hm:=WMode.opn (tag:=(γ.enter p Fx).tag) (p:=p) (by rw[tz];trivial) fun k hk=>by rw[tb k hk];exact id
   have hv:vcT (γ.enter p Fx).tag p=0:=vc_all (n:=0) (fun k h1 h2=>by omega) (fun k hk=>by rw[tb k (by omega)];rfl) (Nat.zero_le _)
   rw[hv,tz] at hm
   simpa [Tag.pend] using hm
  ·rcases tall k with q|q|q<;>(rw[q] at e;rcases e with e|e<;>cases e)
  ·rcases tall k with q|q|q<;>(rw[q] at hk;rcases hk with e|e<;>cases e)
  ·obtain⟨cs,q1,q2⟩:=B.outm hk
   refine⟨hout hk,⟨cs,q1,q2,fun x _ hd=>hd.elim⟩,fun k z e=>?_,fun _ _ _ _=>rfl,fun _=>by simp[Gho.enter],fun b hb e=>?_,fun k z e=>?_⟩
   ·rcases tall k with q|q|q<;>(rw[q] at e;cases e)
   ·refine Classical.byContradiction fun q2=>?_
    by_cases q:Fx b
    ·rw[hfx b q] at e;cases e
    ·rw[hrest b q fun r=>q2 r.2] at e
     exact bks b hb e
   ·rcases tall k with q|q|q<;>(rw[q] at e;cases e)
  ·have D:=B.seek hk
   have hsk:(γ.enter p Fx).sk=⟨fun _ _=>.off,fun _=>⟨false,false,false,0,0⟩,p.n,fun _=>False,false,upd γ.sk.lo p.out none⟩:=by simp only[Gho.enter];rw[if_pos hk]
   refine⟨hother _ _ D.out.2 (by simp),hshd _ _ D.once.2,D.ne,D.W,?_,?_,?_,?_,?_,?_,?_,?_,?_,?_,?_,?_,?_,fun k z e=>?_⟩
   case refine_14=>rcases tall k with q|q|q<;>(rw[q] at e;cases e)
   all_goals rw[hsk]
   ·exact⟨-1,D.outm,.inl ⟨rfl,fun _ q=>q⟩⟩
   ·exact D.oncem
   ·exact fun _ _=>MuI.start _ _
   ·exact fun _ _ _ q=>absurd rfl q
   ·rfl
   ·exact fun _ q=>by cases q
   ·exact fun _=>upd_same _ _ _
   ·exact fun _=>.inl rfl
   ·exact fun _ q=>q.elim
   ·exact fun _ q=>q.elim
   ·exact fun q=>by cases q
   ·exact fun _ q=>by cases q
   ·exact fun q=>by cases q
  ·by_cases q:Fx b
   ·rw[hfx b q] at e;cases e
   ·rw[hrest b q fun r=>hk r.1] at e
    exact bks b hb e
 have nohand:∀ {q:Prop},(γ.enter p Fx).ph=none->q:=fun q=>by cases q
 refine⟨⟨hI.hs,hI.cnt,?_,fun k hk=>?_,fun q=>nohand q,fun p' hp'=>?_,fun c hc=>?_,fun c _ q=>nohand q,fun p' c hp' hc=>?_,fun p' hp' hc=>?_,⟨fun p' hp'=>?_,hI.top.2⟩⟩,fun j hj=>⟨tn j hj,rfl,⟨rfl,rfl⟩,fun e=>?_⟩,fun t fn pos hT=>?_,fun _ _ _ _ _ _ _ _=>.inl rfl,.inr fun j hj hw=>?_,rfl,.refl _⟩
 ·intro q
  rcases t0 _ q with e|e
  ·rw[e,tz] at q;cases q
  ·exact hI.main e
 ·have hk':γ.cnt<=k:=hk
  exact tb k (by rw[B.b];exact hk')
 ·obtain rfl:p=p':=Option.some.inj hp'
  exact hC
 ·rcases S with⟨_,q,_⟩|⟨c',hc',hf,hf0,hk,hn,ht,hK,hL⟩
  ·have hc'':γ.col=some c:=hc
   rw[q] at hc'';cases hc''
  ·obtain rfl:=same_col hc' hc
   refine hK.retag hI.hs ((tn 0 (by omega)).trans hK.tag0) (by rw[<- hf,tz,ht];rfl) rfl rfl (hshd _ _ hK.bdn) (fun b _ q=>hback b _ q (by intro r;injection r with r;omega) (by simp)) rfl (fun k y e=>?_) rfl fun _ _ _=>rfl
   rcases tall k with q|q|q<;>(rw[q] at e;cases e)
 ·obtain rfl:p=p':=Option.some.inj hp'
  rcases S with⟨_,q,_⟩|⟨c',hc',hf,hf0,hk,hn,ht,hK,hL⟩
  ·have hc'':γ.col=some c:=hc
   rw[q] at hc'';cases hc''
  ·obtain rfl:=same_col hc' hc
   exact⟨hf,hk,hn.1,by rw[B.b];exact(hL.top (by rw[<- hf];exact ht)).1,hn.2⟩
 ·obtain rfl:p=p':=Option.some.inj hp'
  rcases S with⟨e,_,q⟩|⟨c',hc',_⟩
  ·exact⟨e,q⟩
  ·have hc'':γ.col=none:=hc
   rw[hc'] at hc'';cases hc''
 ·obtain rfl:p=p':=Option.some.inj hp'
  rw[B.b];exact B.top
 ·-- main collects
  have hj0:j=0:=Classical.byContradiction fun q=>e (others j hj q)
  subst hj0
  rcases S with⟨q,_⟩|⟨c,hc,hf,hf0,hk,hn,ht,hK,hL⟩
  ·exact absurd q.symm hj
  ·have nc:∀ {q:Prop},γ.nc 0->q:=fun q=>by
    rcases q with q|q
    ·exact absurd rfl q
    ·rw[hc] at q;cases q
   refine⟨Nat.le_refl _,fun b hb h=>hrest b (fun q=>h p.f (by omega) (B.fx b q).2.1) (fun q=>by rw[hk] at q;exact absurd q.1 (by simp)),fun b hb q=>⟨hb,hback b _ q (by simp) (by simp)⟩,fun _ _ _=>rfl,rfl,(fun _ q=>by have:=q.1;rw[hp] at this;cases this),fun _ q=>nc q,rfl,(fun _ q=>by have:=q.1;rw[hp] at this;cases this),(fun _ q=>by rw[hc] at q;cases q),(fun q=>absurd rfl q),(fun _ q=>by have:=q.1;rw[hp] at this;cases this),fun _ _ x=>?_,(fun _ q=>by have:=q.1;rw[hp] at this;cases this),(fun m=>by simp only[Gho.enter];rw[if_neg (by rw[hk];simp)]),fun _ q=>by have:=q.1;rw[hp] at this;cases this⟩
   rcases hL.at_ with⟨_,q⟩|⟨q|q,_⟩
   ·exact⟨fun r=>r.elim,fun r=>absurd r (q x)⟩
   ·rw[<- hf,ht] at q;cases q
   ·rw[<- hf,ht] at q;cases q
 ·rw[ofEvents_nil]
  have hsh:∀l,(γ.enter p Fx).wh.sh l->γ.wh.sh l:=fun l h=>by
   rcases h with⟨s,e⟩|⟨_,e⟩|⟨e,e2⟩
   ·exact .inl ⟨s,hshd2 _ s e⟩
   ·exfalso;cases l<;>simp[Gho.mixAt,Gho.enter] at e
   ·exact .inr (.inr ⟨hback _ _ e (by simp) (by simp),e2⟩)
  have fresh:∀l,¬blk l < γ.hs->∀i a,touchAt t i=some a->a.loc≠l:=fun l hl i a ha e=>hl (e ▸ hT.low i a ha)
  have nsh:∀l,¬(γ.enter p Fx).wh.sh l->blk l < γ.hs->¬γ.wh.sh l:=fun l hs hl q=>by
   rcases q with⟨s,e⟩|⟨e,_⟩|⟨e,e2⟩
   ·exact hs (.inl ⟨s,hshd _ s e⟩)
   ·exact bks _ hl e
   ·exact hs (.inr (.inr ⟨hother _ _ e (by simp),e2⟩))
  have ownf:∀l,¬(γ.enter p Fx).wh.sh l->blk l < γ.hs->γ.bk (blk l)=.priv p.f->Perm t p.f l:=fun l hs hl e=>by
   have h2:¬γ.wh.ro l:=by rintro⟨m,q⟩;rw[e] at q;cases q
   have h3:γ.wh.own l=some p.f:=by simp only[Gho.wh,e]
   have:=hT.d.own l (nsh l hs hl) h2
   rwa [h3] at this
  have hlive:∀k l,blk l < γ.hs->¬Fx (blk l)->(γ.enter p Fx).live k l->γ.live k l:=fun k l hl hn hk=>by
   refine⟨hk.1,fun e=>hk.2.1 ?_,fun m e=>hk.2.2 m (hother _ _ e (by simp))⟩
   by_cases q:k=p.f
   ·exfalso
    rw[q] at e
    rcases S with⟨r,hc,_⟩|⟨c,_,_,_,_,_,r,_⟩
    ·rw[r] at e;exact hI.main e
    ·rw[r] at e;cases e
   ·rw[tn k q];exact e
  refine⟨hT.d.anew (fun m op z hm hz hs=>.inl ⟨hsh _ hs,?_⟩) (fun l hs hr=>?_) (fun l hs hr k hk=>?_) fun m a ha hs=>?_,hT.deaf,hT.nrel,hT.low,fun p' hp' k hk hk2=>?_,fun m hc=>?_,fun c _ q=>nohand q,fun c _ q=>nohand q⟩
  ·simp only[Gho.wh]
   rcases hs with⟨s,e⟩|⟨_,e⟩|⟨e,_⟩
   ·rw[e,hshd2 _ s e]
   ·exfalso;cases hzl:z.loc<;>simp[Gho.mixAt,Gho.enter,hzl] at e
   ·rw[e,hback _ _ e (by simp) (by simp)]
  ·by_cases hl:blk l < γ.hs
   ·by_cases q:Fx (blk l)
    ·exact absurd ⟨p.f,hfx _ q⟩ hr
    ·by_cases q2:p.kind=.fill/\blk l=p.out
     ·have e0:p.f=0:=by
       rcases S with⟨e,_⟩|⟨c,_,_,_,hk,_⟩
       ·exact e
       ·rw[hk] at q2;exact absurd q2.1 (by simp)
      have:(γ.enter p Fx).wh.own l=some p.f:=by
       simp only[Gho.wh]
       rw[q2.2,hout q2.1]
       cases l<;>first|rfl|exact congrArg some e0.symm
      rw[this]
      exact ownf l hs hl (by rw[q2.2];exact(B.out q2.1).2)
     ·have e1:=hrest _ q q2
      have hO:=hT.d.own l (nsh l hs hl) fun⟨m,r⟩=>hr ⟨m,e1.trans r⟩
      by_cases q3:p.kind=.seek/\blk l=p.out
      ·have D:=B.seek q3.1
       have hc:γ.col=none:=by
        rcases S with⟨_,q,_⟩|⟨c,_,_,_,q,_⟩
        ·exact q
        ·rw[q] at q3;exact absurd q3.1 (by simp)
       have e0:p.f=0:=by
        rcases S with⟨e,_⟩|⟨c,_,_,_,hk,_⟩
        ·exact e
        ·rw[hk] at q3;exact absurd q3.1 (by simp)
       have n1:γ.wh.own l=some 0:=by
        simp only[Gho.wh,q3.2,D.out.2]
        exact(hI.free hp hc).2.2.2 _
       have n2:(γ.enter p Fx).wh.own l=none:=by
        have e5:(γ.enter p Fx).bk (blk l)=.lock:=e1.trans (by rw[q3.2];exact D.out.2)
        simp only[Gho.wh,e5]
        simp only[Gho.enter]
        rw[if_pos q3.1,q3.2]
        exact upd_same _ _ _
       rw[n1] at hO
       rw[n2]
       refine fun m a ha e=>.inr fun k hk=>?_
       have hk0:k=0:=Classical.byContradiction fun r=>hk.2.1 (tg k (by rw[e0];exact r) r)
       rw[hk0]
       exact(show Perm t 0 l from hO) m a ha e
      ·have:(γ.enter p Fx).wh.own l=γ.wh.own l:=by
        simp only[Gho.wh]
        rw[e1]
        split
        ·rfl
        ·rename_i r;exact absurd r (bks _ hl)
        ·simp only[Gho.enter]
         by_cases q4:p.kind=.seek
         ·rw[if_pos q4];exact upd_ne _ _ fun r=>q3 ⟨q4,r⟩
         ·rw[if_neg q4]
        ·rfl
       rw[this]
       exact hO.mono fun k hk=>hlive k l hl q hk
   ·exact PermO.fresh (fresh l hl)
  ·by_cases hl:blk l < γ.hs
   ·by_cases q:Fx (blk l)
    ·have hk0:k=p.f:=Classical.byContradiction fun r=>by
      by_cases r0:k=0
      ·have:=hk.2.2 p.f (hfx _ q)
       omega
      ·exact hk.2.1 (tg k r r0)
     subst hk0
     exact PermW.of (ownf l hs hl (B.fx _ q).2.1)
    ·obtain⟨m,r⟩:=hr
     by_cases q2:p.kind=.fill/\blk l=p.out
     ·rw[q2.2,hout q2.1] at r;cases r
     ·exact hT.d.ro l (nsh l hs hl) ⟨m,(hrest _ q q2).symm.trans r⟩ k (hlive k l hl q hk)
   ·exact fun i a ha e=>absurd e (fresh l hl i a ha)
  ·rcases hs with⟨s,e⟩|⟨e,_⟩|⟨e,e2⟩
   ·exact .inl ⟨s,hshd _ s e⟩
   ·exact absurd e (bks _ (hT.low m a ha))
   ·exact .inr (.inr ⟨hother _ _ e (by simp),e2⟩)
  ·obtain rfl:p=p':=Option.some.inj hp'
   have hk2':k < γ.cnt:=hk2
   rw[B.b] at hk;omega
  ·rcases hT.old m hc with q|⟨lo,q,k,q2,q3⟩
   ·exact .inl q
   ·refine .inr ⟨lo,?_,k,q2,q3⟩
    rcases S with⟨_,r,_⟩|⟨c,r,_⟩
    ·unfold Gho.lo at q;rw[r,hp] at q;cases q
    ·unfold Gho.lo at q ⊢
     rw[show (γ.enter p Fx).col=some c from r]
     rw[r] at q;exact q
 ·obtain⟨p',q⟩:=hw.phase;rw[hp] at q;cases q
end
end Go.Proofs.YtbicafgmfgdckaaDoor
namespace Go.Proofs.YtbicafgmfgdckaaDoor
open Go Go.Conc
open Go.ConcR (KK wgBlock WgAt stA smA rd wr mk)
open Go.ConcN (sumTo upd upd_same upd_ne RelBy PermW WgLive)

section
variable {ty:TypeId} {top:Nat} {γ γ':Gho} {p:Ph} {c:Col} {w w':World} {i j k n:Nat} {t u:Trace} {P:Program} {Post:Value->World->Prop} {es:Array Event} {tag:Nat->Tag} {x:Tag}
def Gho.over (γ:Gho):Gho:={ γ with tag:=upd γ.tag 0 .solo,ph:=none,sk:={ γ.sk with lo:=fun _=>some 0 },bk:=fun b=>match γ.bk b with
  | .shd s=>.shd s
  | .lock=>.lock
  | _=>.priv 0 }
structure Done (p:Ph) (γ:Gho) (w:World):Prop where
 next:p.kind≠.seek->γ.next=p.n
 done:∀x,x < γ.next->γ.done x
 out:p.kind=.fill->∃cs,w.heap[p.out]?=some (.cells cs p.oty (0,0))/\cs.size=32 * p.n/\∀x,x < p.n->∀o,o < 32->cs[32 * x+o]?=some (p.val x o)
 fix:∀b m,b < γ.hs->γ.bk b=.fix m->w.heap[b]?=p.H b
 seek:p.kind=.seek->γ.bk p.out=.lock/\(γ.stp=false->γ.next=p.n)/\∃(v:Int) (a b:Value),w.heap[p.out]?=some (.cells #[a,b,.int .i64 v] p.oty (0,0))/\BestV (fun x=>p.hit x/\x < γ.next) v/\(γ.stp=true->∃x,p.hit x/\x < γ.next)
theorem thru_done (hI:GInv ty top γ w) (hp:γ.ph=some p) (ht:γ.tag p.f=.thru):Done p γ w/\∀i,p.b<=i->γ.tag i=.gone:=by
 have h:=hI.core _ hp
 have hg:∀i,p.b<=i->γ.tag i=.gone:=by
  obtain⟨st,sm,q1,q2⟩:=h.wgm
  cases q2 with
  | opn q=>rw[ht] at q;exact q.elim
  | reg q=>rw[ht] at q;cases q
  | last _ _ q=>rw[ht] at q;cases q
  | sema q=>rw[ht] at q;cases q
  | fin _ q=>exact q
 have hn:p.kind≠.seek->γ.next=p.n:=fun hk=>(h.full (by rw[ht];rfl)).resolve_right (by rw[h.stpk hk];simp)
 have hd:∀x,x < γ.next->γ.done x:=fun x hx=>by
  rcases h.job x hx with q|⟨i,hb,q⟩
  ·exact q
  ·rw[hg i hb] at q;rcases q with q|q<;>cases q
 refine⟨⟨hn,hd,fun hk=>?_,h.fix,fun hk=>?_⟩,hg⟩
 rotate_left
 ·have hS:=h.seek hk
  refine⟨hS.bout,fun q=>(h.full (by rw[ht];rfl)).resolve_right (by rw[q];simp),?_⟩
  obtain⟨v,q1,q2⟩:=hS.best
  have key:∀x,γ.sk.took x↔(p.hit x/\x < γ.next):=fun x=>⟨hS.took x,fun q=>hS.done x (hd x q.2) q.1⟩
  exact⟨v,_,_,q1,by rw[show (fun x=>p.hit x/\x < γ.next)=γ.sk.took from funext fun x=>propext (key x).symm];exact q2,fun q=>let ⟨x,r⟩:=hS.stp q;⟨x,(key x).1 r⟩⟩
 obtain⟨cs,q1,q2,q3⟩:=(h.fill hk).out
 exact⟨cs,q1,q2,fun x hx=>q3 x hx (hd x (by rw[hn (by rw[hk];simp)];exact hx))⟩
theorem over_shd {b s:Nat}:γ.over.bk b=.shd s↔γ.bk b=.shd s:=by
 simp only[Gho.over]
 cases q:γ.bk b<;>simp
theorem over_lock {b:Nat}:γ.over.bk b=.lock↔γ.bk b=.lock:=by
 simp only[Gho.over]
 cases q:γ.bk b<;>simp
theorem over_not {b:Nat} (h:∀s,γ.bk b≠.shd s) (h2:γ.bk b≠.lock):γ.over.bk b=.priv 0:=by
 simp only[Gho.over]
theorem do_over (hI:GInv ty top γ w) (hp:γ.ph=some p) (hf:p.f=0) (ht:γ.tag 0=.thru) (hd:γ.deaf 0=0) (wk:Prop):(crewPact P ty top Post).Do 0 γ w γ.over w wk #[mk (.acquire (stA p.wg))]:=by
 have h:=hI.core _ hp
 obtain⟨_,hg⟩:=thru_done hI hp (by rw[hf];exact ht)
 have nocol:γ.col=none:=by
  cases hc:γ.col with
  | none=>rfl
  | some c=>have:=(hI.mate p c hp hc).1;have:=(hI.coll c hc).f.1;omega
 have hkind:=(hI.alone p hp nocol).2
 have tz:γ.over.tag 0=.solo:=by show upd γ.tag 0 Tag.solo 0=_;exact upd_same _ _ _
 have tn0:∀k,k≠0->γ.tag k=.gone:=fun k hk=>by
  by_cases hb:p.b<=k
  ·exact hg k hb
  ·exact h.rest k (by rw[hf];exact hk) (by omega) hk
 have tn:∀k,k≠0->γ.over.tag k=.gone:=fun k hk=>by show upd γ.tag 0 Tag.solo k=_;rw[upd_ne _ _ hk];exact tn0 k hk
 have noph:∀ {q:Prop} {p':Ph},γ.over.ph=some p'->q:=fun q=>by cases q
 have nocol':∀ {q:Prop} {c:Col},γ.over.col=some c->q:=fun {_ c} q=>by have q':γ.col=some c:=q;rw[nocol] at q';cases q'
 refine⟨⟨hI.hs,hI.cnt,by rw[tz];simp,fun k hk=>tn k (by have:=hI.cnt;have hk':γ.cnt<=k:=hk;omega),fun _ _=>⟨tz,tn,fun b hb=>?_,fun _=>rfl⟩,fun p' q=>noph q,fun c q=>nocol' q,fun c q=>nocol' q,fun p' c q=>noph q,fun p' q=>noph q,⟨fun p' q=>noph q,hI.top.2⟩⟩,fun j hj=>⟨(tn j hj).trans (tn0 j hj).symm,rfl,⟨rfl,rfl⟩,fun e=>absurd (tn0 j hj) e⟩,fun t fn pos hT=>?_,fun _ _ _ _ _ _ _ _=>.inl rfl,.inr fun j hj hw=>?_,rfl,.refl _⟩
 ·cases q:γ.bk b with
  | shd s=>exact .inl ⟨s,over_shd.2 q⟩
  | lock=>exact .inr (.inr (over_lock.2 q))
  | _=>exact .inr (.inl (over_not (by rw[q];simp) (by rw[q];simp)))
 ·have e1:MemOp.ofEvents 0 fn pos #[mk (.acquire (stA p.wg))]=#[{ g:=0,fn,pos,act:=.mark (.acquire (stA p.wg)) }]:=by rw[ofEvents_eq];simp[Go.ConcR.ofEvent_mk]
  rw[e1]
  generalize hy:({ g:=0,fn,pos,act:=.mark (.acquire (stA p.wg)) }:MemOp)=y
  have hyg:y.g=0/\y.act=.mark (.acquire (stA p.wg)):=by rw[<- hy];exact⟨rfl,rfl⟩
  have hmem:∀op∈#[y],op.act.touch?=none/\op.g < γ.cnt/\(∀a,op.act≠.mark (.release a))/\op.act≠.mark .disable/\op.act≠.mark .enable:=fun op hop=>by
   rw[one_op hop,hyg.2]
   exact⟨rfl,by rw[hyg.1];exact hI.cnt,by simp,by simp,by simp⟩
  have hs:∀op∈#[y],op.act.touch?=none:=fun op hop=>(hmem op hop).1
  have hD:DTr γ.wh (t++#[y]) γ.cnt:=hT.d.silent (Nat.le_refl _) fun op hop=>⟨(hmem op hop).1,(hmem op hop).2.1⟩
  have hN:NoRel (t++#[y]):=hT.nrel.app fun op hop=>(hmem op hop).2.2.1
  have elo:γ.lo=some p.b:=by unfold Gho.lo;rw[nocol,hp];rfl
  have all:∀m,t.counts m->Knows (t++#[y]) 0 m:=fun m hc=>by
   rcases hT.old m hc with q|⟨lo,q1,k,q2,q3⟩
   ·exact q.app _
   ·rw[elo] at q1
    obtain rfl:=Option.some.inj q1
    have hkc:k < γ.cnt:=by
     obtain⟨op,ho,e⟩:=Option.map_eq_some_iff.1 q3
     rw[<- e];exact hT.d.gs m op ho
    obtain⟨r,hr⟩:=hT.rel p hp k q2 hkc (by rw[hg k q2];trivial)
    exact acquired_own hr hN hyg (by rw[hT.deaf];exact hd) q3 hc
  have hsh:∀l,γ.over.wh.sh l->γ.wh.sh l:=fun l h=>by
   rcases h with⟨s,e⟩|⟨e,_⟩|⟨e,e2⟩
   rotate_right
   ·exact .inr (.inr ⟨over_lock.1 e,e2⟩)
   ·exact .inl ⟨s,over_shd.1 e⟩
   ·exfalso
    have e':(match γ.bk (blk l) with | .shd s=>BK.shd s | .lock=>.lock|_=>.priv 0)=.mix:=e
    cases q:γ.bk (blk l)<;>rw[q] at e'<;>cases e'
  have hsh2:∀m a,touchAt t m=some a->γ.wh.sh a.loc->γ.over.wh.sh a.loc:=fun m a ha h'=>by
   rcases h' with⟨s,e⟩|⟨e,e2⟩|⟨e,e2⟩
   rotate_right
   ·exact .inr (.inr ⟨over_lock.2 e,e2⟩)
   ·exact .inl ⟨s,over_shd.2 e⟩
   ·exfalso
    have hlt:=hT.low m a ha
    by_cases hk:p.kind=.fill
    ·have hF:=h.fill hk
     have hb:=hF.mixo _ hlt e
     cases hl:a.loc with
     | cell ad=>rw[hl] at hb e2;simp only[blk] at hb;simp only[Gho.mixAt,hb] at e2;exact hF.owm _ e2
     | _=>rw[hl] at e2;simp[Gho.mixAt] at e2
    ·exact h.nomix hk _ hlt e
  have hperm:∀l,¬γ.over.wh.sh l->Perm (t++#[y]) 0 l:=fun l hns m a ha e=>by
   have ha':=touch_silent hs ha
   subst e
   exact all m (hT.d.counts ha' fun q=>hns (hsh2 m a ha' q))
  refine⟨hD.anew (fun m op z hm hz hs'=>.inl ⟨hsh _ hs',?_⟩) (fun l hs' hr=>?_) (fun l hs' hr=>?_) fun m a ha hs'=>hsh2 m a (touch_silent hs ha) hs',fun k=>?_,hN,fun m a ha=>hT.low m a (touch_silent hs ha),fun p' q=>noph q,fun m hc=>?_,fun c q=>nocol' q,fun c q=>nocol' q⟩
  ·rcases hs' with⟨s,e⟩|⟨e,_⟩|⟨e,_⟩
   rotate_right
   ·simp only[Gho.wh];rw[e,over_lock.1 e]
   ·simp only[Gho.wh];rw[e,over_shd.1 e]
   ·exfalso
    have e':(match γ.bk (blk z.loc) with | .shd s=>BK.shd s | .lock=>.lock|_=>.priv 0)=.mix:=e
    cases q:γ.bk (blk z.loc)<;>rw[q] at e'<;>cases e'
  ·have:γ.over.wh.own l=some 0:=by
    by_cases hlk:γ.bk (blk l)=.lock
    ·simp only[Gho.wh,over_lock.2 hlk];rfl
    ·have hb:=over_not (γ:=γ) (b:=blk l) (fun s e=>hs' (.inl ⟨s,over_shd.2 e⟩)) hlk
     simp only[Gho.wh,hb]
   rw[this]
   exact hperm l hs'
  ·exfalso
   obtain⟨m,e⟩:=hr
   have e':(match γ.bk (blk l) with | .shd s=>BK.shd s | .lock=>.lock|_=>.priv 0)=.fix m:=e
   cases q:γ.bk (blk l)<;>rw[q] at e'<;>cases e'
  ·rw[Go.ConcN.Deaf_still t k _ fun op hop=>(hmem op hop).2.2.2];exact hT.deaf k
  ·have hlt:m < t.size:=by
    obtain⟨z,hz,_⟩:=hc
    obtain⟨_,q,_⟩:=touch_of (touch_silent hs hz)
    exact lt_size_of_getElem? q
   exact .inl (all m ((counts_old hlt).1 hc))
 ·cases hw with
  | wg p' st q1 q2 =>
   obtain rfl:=same_ph hp q1
   rw[hf] at q2
   exact absurd q2 hj
  | que p' m q1 q2 q3 q4 _ =>
   obtain rfl:=same_ph hp q1
   obtain⟨x,r⟩:=(h.seek q2).busy m j q3 (by rw[q4];simp)
   rw[tn0 j hj] at r;cases r
theorem over_race (hp:γ.ph=none) (hc:γ.col=none) (hT:GTr γ t):(∀said,¬Race said t)/\t.HandedOver:=by
 refine⟨hT.d.nr,fun i g hg hne hcn=>?_⟩
 rcases hT.old i hcn with q|⟨lo,q,_⟩
 ·obtain⟨m,z,h1,h2,h3⟩:=q
  refine⟨m,by simp[Trace.g?,h1,h2],?_⟩
  rcases h3 with e|e
  ·subst e
   simp[Trace.g?,h1,h2] at hg
   exact absurd hg.symm hne
  ·exact e
 ·unfold Gho.lo at q;rw[hc,hp] at q;cases q
end
end Go.Proofs.YtbicafgmfgdckaaDoor
namespace Go.Proofs.YtbicafgmfgdckaaDoor
open Go Go.Conc
open Go.ConcR (KK wgBlock WgAt stA smA rd wr mk)
open Go.ConcN (sumTo upd upd_same upd_ne RelBy PermW WgLive)

section
variable {ty:TypeId} {top:Nat} {γ γ':Gho} {p:Ph} {c:Col} {w w':World} {i j k n:Nat} {t u:Trace} {P:Program} {Post:Value->World->Prop} {es:Array Event} {tag:Nat->Tag} {x:Tag}
structure Forks (top:Nat) (γ:Gho) (w:World) (c:Col) (Fx:Nat->Prop):Prop where
 ph:γ.ph=none
 col:γ.col=none
 f:c.f=γ.cnt
 dn:γ.bk c.dn=.shd 0
 dnm:w.heap[c.dn]?=some (.chan 0 #[] false 0 0 false)
 fx:∀b,Fx b->b < γ.hs/\γ.bk b=.priv 0
 H:∀b,Fx b->w.heap[b]?=c.H b
 top:c.f+1+c.W<=top
 deaf:γ.deaf 0=0
def Gho.rest (γ:Gho) (f:Nat):Gho:={ γ with tag:=upd γ.tag f .fin,ph:=none }
theorem do_rest (hI:GInv ty top γ w) (hp:γ.ph=some p) (hc:γ.col=some c) (ht:γ.tag p.f=.thru) (hd:γ.deaf p.f=0) (wk:Prop):(crewPact P ty top Post).Do p.f γ w (γ.rest p.f) w wk #[mk (.acquire (stA p.wg))]:=by
 have h:=hI.core _ hp
 obtain⟨hD0,hg⟩:=thru_done hI hp ht
 have hK:=hI.coll c hc
 obtain⟨m1,m2,m3,m4,_⟩:=hI.mate p c hp hc
 have hf0:=hK.f.1
 have tf:(γ.rest p.f).tag p.f=.fin:=by show upd γ.tag p.f Tag.fin p.f=_;exact upd_same _ _ _
 have tn:∀k,k≠p.f->(γ.rest p.f).tag k=γ.tag k:=fun k hk=>by show upd γ.tag p.f Tag.fin k=_;exact upd_ne _ _ hk
 have others:∀k,k≠p.f->k≠0->γ.tag k=.gone:=fun k h1 h2=>by
  by_cases hb:p.b<=k
  ·exact hg k hb
  ·exact h.rest k h1 (by omega) h2
 have noph:∀ {q:Prop} {p':Ph},(γ.rest p.f).ph=some p'->q:=fun q=>by cases q
 have hfc:p.f < γ.cnt:=by rw[m1];exact hK.f.2.1
 refine⟨⟨hI.hs,hI.cnt,?_,fun k hk=>?_,fun _ q=>?_,fun p' q=>noph q,fun c' hc'=>?_,fun c' hc' _=>?_,fun p' c q=>noph q,fun p' q=>noph q,⟨fun p' q=>noph q,hI.top.2⟩⟩,fun j hj=>⟨tn j hj,rfl,⟨rfl,rfl⟩,fun e=>?_⟩,fun t fn pos hT=>?_,fun _ _ _ _ _ _ _ _=>.inl rfl,.inr fun j hj hw=>?_,rfl,.refl _⟩
 ·rw[tn 0 (by omega)];exact hI.main
 ·have hk':γ.cnt<=k:=hk
  rw[tn k (by omega)];exact hI.un k hk'
 ·have q':γ.col=none:=q
  rw[hc] at q';cases q'
 ·obtain rfl:=same_col hc hc'
  refine hK.retag hI.hs ((tn 0 (by omega)).trans hK.tag0) (by rw[<- m1,tf,ht];rfl) rfl rfl hK.bdn (fun _ _ q=>q) rfl (fun k y e=>?_) rfl fun _ _ _=>rfl
  by_cases q:k=p.f
  ·rw[q,tf] at e;cases e
  ·rw[tn k q] at e;exact⟨e,rfl,rfl,rfl,fun _ _ _ q=>⟨q,rfl⟩⟩
 ·obtain rfl:=same_col hc hc'
  refine⟨fun k h1 h2=>(tn k (by rw[m1];exact h2)).trans (others k (by rw[m1];exact h2) h1),.inr ⟨.inl (by rw[<- m1];exact tf),fun x hx=>hD0.done x ?_⟩,h.nomix (by rw[m2];simp),fun q=>?_⟩
  ·rw[hD0.next (by rw[m2];simp),m3];exact hx
  ·rw[<- m1,tf] at q;cases q
 ·have hj0:j=0:=Classical.byContradiction fun q=>e (others j hj q)
  subst hj0
  have nc:∀ {q:Prop},γ.nc 0->q:=fun q=>by
   rcases q with q|q
   ·exact absurd rfl q
   ·rw[hc] at q;cases q
  have no:∀ {q:Prop} {p'},γ.on 0 p'->q:=fun {_ p'} q=>by
   obtain rfl:=same_ph hp q.1
   rcases q.2 with r|r
   ·exact absurd rfl r
   ·omega
  exact⟨Nat.le_refl _,fun _ _ _=>rfl,fun _ h1 h2=>⟨h1,h2⟩,fun _ _ _=>rfl,rfl,fun _ q=>no q,fun _ q=>nc q,rfl,fun _ q=>no q,(fun _ q=>by rw[hc] at q;cases q),(fun q=>absurd rfl q),fun _ q=>no q,fun _ _ _=>Iff.rfl,(fun _ q=>no q),(fun _=>rfl),fun _ q=>no q⟩
 ·have e1:MemOp.ofEvents p.f fn pos #[mk (.acquire (stA p.wg))]=#[{ g:=p.f,fn,pos,act:=.mark (.acquire (stA p.wg)) }]:=by rw[ofEvents_eq];simp[Go.ConcR.ofEvent_mk]
  rw[e1]
  generalize hy:({ g:=p.f,fn,pos,act:=.mark (.acquire (stA p.wg)) }:MemOp)=y
  have hyg:y.g=p.f/\y.act=.mark (.acquire (stA p.wg)):=by rw[<- hy];exact⟨rfl,rfl⟩
  have hmem:∀op∈#[y],op.act.touch?=none/\op.g < γ.cnt/\(∀a,op.act≠.mark (.release a))/\op.act≠.mark .disable/\op.act≠.mark .enable:=fun op hop=>by
   rw[one_op hop,hyg.2]
   exact⟨rfl,by rw[hyg.1];exact hfc,by simp,by simp,by simp⟩
  have hs:∀op∈#[y],op.act.touch?=none:=fun op hop=>(hmem op hop).1
  have hD:DTr γ.wh (t++#[y]) γ.cnt:=hT.d.silent (Nat.le_refl _) fun op hop=>⟨(hmem op hop).1,(hmem op hop).2.1⟩
  have hN:NoRel (t++#[y]):=hT.nrel.app fun op hop=>(hmem op hop).2.2.1
  have elo:γ.lo=some c.f:=by unfold Gho.lo;rw[hc]
  have gon:∀k,γ.tag k=.gone->(γ.rest p.f).tag k=.gone:=fun k q=>by
   by_cases e:k=p.f
   ·rw[e,ht] at q;cases q
   ·rw[tn k e];exact q
  have old:∀ {m},(t++#[y]).counts m->m < t.size:=fun {m} hc=>by
   obtain⟨x,hx,_⟩:=hc
   obtain⟨_,q,_⟩:=touch_of (touch_silent hs hx)
   exact lt_size_of_getElem? q
  refine⟨hD.anew (fun m op z hm hz hsh=>.inl ⟨hsh,rfl⟩) (fun l h1 h2=>(hD.own l h1 h2).mono fun k hk=>⟨hk.1,fun q=>hk.2.1 (gon k q),hk.2.2⟩) (fun l h1 h2 k hk=>hD.ro l h1 h2 k ⟨hk.1,fun q=>hk.2.1 (gon k q),hk.2.2⟩) fun _ _ _ q=>q,fun k=>?_,hN,fun m a ha=>hT.low m a (touch_silent hs ha),fun p' q=>noph q,fun m hcn=>?_,fun c' hc' _ _ m hcn=>?_,fun c' hc' _ q=>?_⟩
  ·rw[Go.ConcN.Deaf_still t k _ fun op hop=>(hmem op hop).2.2.2];exact hT.deaf k
  ·have hlt:=old hcn
   rcases hT.old m ((counts_old hlt).1 hcn) with q|⟨lo,q1,k,q2,q3⟩
   ·exact .inl (q.app _)
   ·refine .inr ⟨lo,?_,k,q2,by rw[g?_old hlt];exact q3⟩
    rw[elo] at q1
    unfold Gho.lo
    rw[show (γ.rest p.f).col=some c from hc]
    exact q1
  ·obtain rfl:=same_col hc hc'
   have hlt:=old hcn
   have hcn':=(counts_old hlt).1 hcn
   rcases hT.old m hcn' with q|⟨lo,q1,k,q2,q3⟩
   ·exact .inl (q.app _)
   ·rw[elo] at q1
    obtain rfl:=Option.some.inj q1
    right
    have hkc:k < γ.cnt:=by
     obtain⟨op,ho,e⟩:=Option.map_eq_some_iff.1 q3
     rw[<- e];exact hT.d.gs m op ho
    rw[<- m1]
    by_cases e:k=p.f
    ·obtain⟨op,ho,e2⟩:=Option.map_eq_some_iff.1 q3
     have:=knows_own ho
     rw[e2,e] at this
     exact this.app _
    ·obtain⟨r,hr⟩:=hT.rel p hp k (by omega) hkc (by rw[hg k (by omega)];trivial)
     exact acquired_own hr hN hyg (by rw[hT.deaf];exact hd) q3 hcn'
  ·obtain rfl:=same_col hc hc'
   rw[<- m1,tf] at q;cases q
 ·cases hw with
  | wg p' st q1 q2 =>
   obtain rfl:=same_ph hp q1
   exact absurd q2 hj
  | que p' m q1 q2 =>
   obtain rfl:=same_ph hp q1
   rw[m2] at q2;cases q2
end
end Go.Proofs.YtbicafgmfgdckaaDoor
namespace Go.Proofs.YtbicafgmfgdckaaDoor
open Go Go.Conc
open Go.ConcR (KK wgBlock WgAt stA smA rd wr mk DC0)
open Go.ConcN (sumTo upd upd_same upd_ne RelBy PermW WgLive)

abbrev LV (P:Program) (ty:TypeId) (top:Nat) (Post:Value->World->Prop):Nat->Gho->World->Goroutine->Prop:=(crewPact P ty top Post).Lives
abbrev NX (P:Program) (ty:TypeId) (top:Nat) (Post:Value->World->Prop):Nat->Gho->World->Goroutine->Prop:=(crewPact P ty top Post).Next (crewPact P ty top Post).Lives
section
variable {ty:TypeId} {top:Nat} {γ γ' γ2:Gho} {p:Ph} {c:Col} {w w' w2:World} {i j k n:Nat} {P:Program} {Post:Value->World->Prop} {es:Array Event} {g g':Goroutine}
theorem lives_step (hr:g.status=.running) (ht:γ.tag i≠.gone) (h:∀γ2 w2,Rel i γ w γ2 w2->GInv ty top γ2 w2->i < γ2.cnt->NX P ty top Post i γ2 w2 g):LV P ty top Post i γ w g :=
 Pact.Lives.step hr fun γ2 w2 hrl hI=>by
  have e:γ2.tag i≠.gone:=by rw[hrl.tag];exact ht
  exact⟨fun q=>e q.2,h γ2 w2 hrl hI (Nat.lt_of_not_le fun q=>e (hI.un i q))⟩
theorem LV.rely (h:LV P ty top Post i γ w g) (hr:Rel i γ w γ2 w2):LV P ty top Post i γ2 w2 g:=Pact.Lives.rely (crew_ok P ty top Post) h hr
theorem lives_ctl (hr:g.status=.running) (ht:γ.tag i≠.gone) (hs:∀w,stepG P (i==0) g w=.go g' w #[]) (h:LV P ty top Post i γ w g'):LV P ty top Post i γ w g :=
 lives_step hr ht fun γ2 w2 hrl hI hi=>.go g' w2 #[] γ2 (hs w2) (do_idle hI hi _) (h.rely hrl)
theorem lives_own (hr:g.status=.running) (ht:¬(γ.tag i).tied) (h:∀γ2 w2,Rel i γ w γ2 w2->GInv ty top γ2 w2->∃g' w' es,stepG P (i==0) g w2=.go g' w' es/\Own (γ2.S i) (γ2.F i) w2 w' es/\LV P ty top Post i (γ2.grown i w') w' g'):LV P ty top Post i γ w g :=
 lives_step hr (fun e=>ht (by rw[e];trivial)) fun γ2 w2 hrl hI hi=>by
  obtain⟨g',w',es,h1,h2,h3⟩:=h γ2 w2 hrl hI
  exact .go g' w' es _ h1 (do_own hI hi (by rw[hrl.tag];exact ht) h2 _) h3
structure Ext (i:Nat) (γ γ':Gho):Prop where
 tag:γ'.tag i=γ.tag i
 deaf:γ'.deaf i=γ.deaf i
 gv:γ'.gv i=γ.gv i/\γ'.gb i=γ.gb i
 hs:γ.hs<=γ'.hs
 bk:∀b,b < γ.hs->(∀j,j≠i->γ.bk b≠.priv j)->γ'.bk b=γ.bk b
 ph:∀p,γ.on i p->γ'.ph=some p
 pn:γ.ph=none->γ.nc i->γ'.ph=none
 col:γ'.col=γ.col
 feed:∀p,γ.on i p->p.f=i->γ'.next=γ.next/\γ'.vc p<=γ.vc p
 next:∀p,γ.on i p->γ.next<=γ'.next
 done:i=0->γ.col≠none->∀x,γ'.done x↔γ.done x
 stp:∀p,γ.on i p->γ.stp=true->γ'.stp=true
 ml:∀m,γ'.sk.ml m i=γ.sk.ml m i
theorem Ext.refl (i:Nat) (γ:Gho):Ext i γ γ:=⟨rfl,rfl,⟨rfl,rfl⟩,Nat.le_refl _,fun _ _ _=>rfl,fun _ h=>h.1,fun h _=>h,rfl,fun _ _ _=>⟨rfl,Nat.le_refl _⟩,fun _ _=>Nat.le_refl _,fun _ _ _=>Iff.rfl,fun _ _ h=>h,fun _=>rfl⟩
theorem Ext.trans (h:Ext i γ γ') (h':Ext i γ' γ2):Ext i γ γ2:=by
 refine⟨h'.tag.trans h.tag,h'.deaf.trans h.deaf,⟨h'.gv.1.trans h.gv.1,h'.gv.2.trans h.gv.2⟩,Nat.le_trans h.hs h'.hs,fun b hb hj=>?_,fun p q=>h'.ph p ⟨h.ph p q,q.2⟩,fun q1 q=>h'.pn (h.pn q1 q) (q.keep h.col),h'.col.trans h.col,fun p q e=>?_,fun p q=>Nat.le_trans (h.next p q) (h'.next p ⟨h.ph p q,q.2⟩),fun e q x=>(h'.done e (by rw[h.col];exact q) x).trans (h.done e q x),fun p q e=>h'.stp p ⟨h.ph p q,q.2⟩ (h.stp p q e),fun m=>(h'.ml m).trans (h.ml m)⟩
 ·have e1:=h.bk b hb hj
  exact(h'.bk b (Nat.lt_of_lt_of_le hb h.hs) fun j hj'=>by rw[e1];exact hj j hj').trans e1
 ·obtain⟨q1,q2⟩:=h.feed p q e
  obtain⟨q3,q4⟩:=h'.feed p ⟨h.ph p q,q.2⟩ e
  exact⟨q3.trans q1,Nat.le_trans q4 q2⟩
theorem Rel.ext (h:Rel i γ w γ2 w2) (ht:γ.tag i≠.gone):Ext i γ γ2:=let l:=h.live ht;⟨h.tag,h.deaf,h.gv,l.hs,l.bk,l.ph,l.pn,l.col,l.feed,l.next,l.done,l.stp,l.ml⟩
theorem grown_ext (hs:γ.hs=w.heap.size) (hsz:w.heap.size<=w'.heap.size):Ext i γ (γ.grown i w') :=
 ⟨rfl,rfl,⟨rfl,rfl⟩,by show γ.hs<=w'.heap.size;omega,fun b hb _=>grown_bk hb,fun _ h=>h.1,fun h _=>h,rfl,fun _ _ _=>⟨rfl,Nat.le_refl _⟩,fun _ _=>Nat.le_refl _,fun _ _ _=>Iff.rfl,fun _ _ h=>h,fun _=>rfl⟩
theorem Rel.S (h:Rel i γ w γ2 w2) (ht:γ.tag i≠.gone):γ2.S i=γ.S i:=by
 have l:=h.live ht
 funext b
 apply propext
 constructor
 ·rintro⟨h1,h2⟩;exact l.bk2 b h1 h2
 ·rintro⟨h1,h2⟩
  refine⟨Nat.lt_of_lt_of_le h1 l.hs,(l.bk b h1 fun j hj e=>?_).trans h2⟩
  rw[h2] at e;injection e with e;exact hj e.symm
theorem Rel.rely {F:Nat->Prop} (h:Rel i γ w γ2 w2) (ht:γ.tag i≠.gone) (hI:GInv ty top γ2 w2) (hs:γ.hs=w.heap.size) (hF:∀b,F b->γ.F i b):Rely (γ.S i) F w w2:=by
 have l:=h.live ht
 refine⟨by have:=l.hs;have:=hI.hs;omega,l.tape,fun b hb=>?_⟩
 rcases hb with⟨h1,h2⟩|hb
 ·exact l.keep b h1 (.inl h2)
 ·exact l.keep b (hF b hb).1 (.inr (hF b hb).2)
theorem RelL.F (l:RelL i γ w γ2 w2) {b:Nat} (h:γ.F i b):γ2.F i b:=by
 obtain⟨h1,m,h2,h3⟩:=h
 exact⟨Nat.lt_of_lt_of_le h1 l.hs,m,h2,(l.bk b h1 fun j _ e=>by rw[h3] at e;cases e).trans h3⟩
theorem Own.mono {S F F':Nat->Prop} (h:Own S F w w' es) (hF:∀b,F b->F' b):Own S F' w w' es:=by
 refine⟨h.size,h.tape,h.os,h.output,h.old,fun e he=>?_⟩
 rcases h.ev e he with⟨ad,h1,h2,h3⟩|q|⟨r,h1,h2,h3⟩
 ·exact .inl ⟨ad,h1,h2,h3.imp id fun q=>⟨hF _ q.1,q.2⟩⟩
 ·exact .inr (.inl q)
 ·exact .inr (.inr ⟨r,h1,h2.imp id (hF _),h3⟩)
theorem lives_way {F:Nat->Prop} {K:(Nat->Prop)->Goroutine->World->Prop} {S:Nat->Prop} (h:Way P (i==0) F K S g w):∀γ,S=γ.S i->γ.hs=w.heap.size->(∀b,F b->γ.F i b)->¬(γ.tag i).tied ->
  (∀S' g' w' γ',Ext i γ γ'->γ'.S i=S'->γ'.hs=w'.heap.size->K S' g' w'->LV P ty top Post i γ' w' g')->LV P ty top Post i γ w g:=by
 induction h with
 | stop h=>intro γ hS hs _ _ hK;exact hK _ _ _ γ (.refl _ _) hS.symm hs h
 | @step S g w hg h k ih =>
  intro γ hS hs hF ht hK
  subst hS
  have hng:γ.tag i≠.gone:=fun e=>ht (by rw[e];trivial)
  refine lives_own hg ht fun γ2 w2 hrl hI=>?_
  have hrely:=hrl.rely hng hI hs hF
  have hF2:∀b,F b->γ2.F i b:=fun b hb=>(hrl.live hng).F (hF b hb)
  obtain⟨g1,w3,es,h1,h2⟩:=h w2 hrely
  refine⟨g1,w3,es,h1,by rw[hrl.S hng];exact h2.mono hF2,?_⟩
  have hS2:grow (γ.S i) w2 w3=(γ2.grown i w3).S i:=by rw[<- hrl.S hng];exact grow_grown hI.hs h2.size
  have hx:Ext i γ (γ2.grown i w3):=(hrl.ext hng).trans (grown_ext hI.hs h2.size)
  refine ih w2 g1 w3 es hrely h1 (γ2.grown i w3) hS2 rfl (fun b hb=>?_) (by rw[hx.tag];exact ht) fun S' g' w' γ' hx'=>hK S' g' w' γ' (hx.trans hx')
  obtain⟨q1,m,q2,q3⟩:=hF2 b hb
  exact⟨by show b < w3.heap.size;have:=h2.size;have:=hI.hs;omega,m,q2,(grown_bk q1).trans q3⟩
theorem goes_inv {s:GStep} {K:Goroutine->World->Array Event->Prop} (h:s.goes K):∃g w es,s=.go g w es/\K g w es:=by
 cases s<;>first|exact⟨_,_,_,rfl,h⟩|exact h.elim
theorem lives_goes {Stop:Goroutine->World->Prop} {n:Nat}:∀ {g w γ},Goes P (i==0) (Rl ty p.wg) DC0 Stop n g w->γ.on i p->γ.tag i≠.gone->GInv ty top γ w ->
  (∀γ2 w2 g',Rel i γ w γ2 w2->GInv ty top γ2 w2->i < γ2.cnt->Stop g' w2->g'.status=.running/\NX P ty top Post i γ2 w2 g')->LV P ty top Post i γ w g:=by
 have live:∀ {γ w},GInv ty top γ w->γ.ph=some p->WgLive ty p.wg w:=fun hI hp=>let ⟨st,sm,h,_⟩:=(hI.core _ hp).wgm;⟨st,sm,h⟩
 have lt:∀ {γ w},GInv ty top γ w->γ.tag i≠.gone->i < γ.cnt:=fun hI ht=>Nat.lt_of_not_le fun q=>ht (hI.un i q)
 induction n with
 | zero =>
  intro g w γ h hp ht hI hS
  refine lives_step (hS γ w g (.refl _ _ _) hI (lt hI ht) (h w fun x=>x)).1 ht fun γ2 w2 hrl hI2 hi=>(hS γ2 w2 g hrl hI2 hi (h w2 fun _=>live hI2 ((hrl.live ht).ph _ hp))).2
 | succ n ih =>
  intro g w γ h hp ht hI hS
  rcases h with h|⟨hg,h⟩
  ·refine lives_step (hS γ w g (.refl _ _ _) hI (lt hI ht) (h w fun x=>x)).1 ht fun γ2 w2 hrl hI2 hi=>(hS γ2 w2 g hrl hI2 hi (h w2 fun _=>live hI2 ((hrl.live ht).ph _ hp))).2
  ·refine lives_step hg ht fun γ2 w2 hrl hI2 hi=>?_
   have hp2:=(hrl.live ht).ph _ hp
   have:=h w2 fun _=>live hI2 hp2
   obtain⟨g',w',es,hst,⟨e1,e2⟩,hG⟩:=goes_inv this
   subst e1
   subst e2
   exact .go g' _ #[] γ2 hst (do_idle hI2 hi _) (ih hG ⟨hp2,hp.2⟩ (by rw[hrl.tag];exact ht) hI2 fun γ3 w3 g3 hr3=>hS γ3 w3 g3 (hrl.trans hr3))
theorem lives_goes2 {Stop:Goroutine->World->Prop} {n:Nat}:∀ {g w γ},Goes P (i==0) (Rl ty p.wg) DC0 Stop n g w->γ.on i p->γ.tag i≠.gone->GInv ty top γ w ->
  (∀γ2 w2 g',Rel i γ w γ2 w2->GInv ty top γ2 w2->Stop g' w2->LV P ty top Post i γ2 w2 g')->LV P ty top Post i γ w g:=by
 have live:∀ {γ w},GInv ty top γ w->γ.ph=some p->WgLive ty p.wg w:=fun hI hp=>let ⟨st,sm,h,_⟩:=(hI.core _ hp).wgm;⟨st,sm,h⟩
 induction n with
 | zero=>exact fun {g w γ} h hp ht hI hS=>hS γ w g (.refl _ _ _) hI (h w fun x=>x)
 | succ n ih =>
  intro g w γ h hp ht hI hS
  rcases h with h|⟨hg,h⟩
  ·exact hS γ w g (.refl _ _ _) hI (h w fun x=>x)
  ·refine lives_step hg ht fun γ2 w2 hrl hI2 hi=>?_
   have hp2:=(hrl.live ht).ph _ hp
   have:=h w2 fun _=>live hI2 hp2
   obtain⟨g',w',es,hst,⟨e1,e2⟩,hG⟩:=goes_inv this
   subst e1
   subst e2
   exact .go g' _ #[] γ2 hst (do_idle hI2 hi _) (ih hG ⟨hp2,hp.2⟩ (by rw[hrl.tag];exact ht) hI2 fun γ3 w3 g3 hr3=>hS γ3 w3 g3 (hrl.trans hr3))
end
end Go.Proofs.YtbicafgmfgdckaaDoor
