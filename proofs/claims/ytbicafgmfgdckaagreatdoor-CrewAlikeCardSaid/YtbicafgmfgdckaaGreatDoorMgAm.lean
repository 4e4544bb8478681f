/- A piece. -/
import Derived.Test.YtbicafgmfgdckaaGreatDoorMgAl
set_option maxRecDepth 100000
set_option maxHeartbeats 16000000
set_option linter.all false
namespace Go.Proofs.YtbicafgmfgdckaaGreatDoor
open Go Go.Conc
open Go.ConcR (KK wgBlock WgAt stA smA rd wr mk)
open Go.ConcN (sumTo upd upd_same upd_ne RelBy PermW WgLive)
section
variable {ty:TypeId} {top:Nat} {I I':Ab} {p:Ph} {c:Ir} {w w':World} {i j k n:Nat} {t u:Trace} {P:Program} {Post:Value->World->Prop} {es:Array Event} {tag:Nat->B6} {x:B6}
def Ab.over (I:Ab):Ab:={ I with tag:=upd I.tag 0 .solo,ph:=none,sk:={ I.sk with lo:=fun _=>some 0 },bk:=fun b=>match I.bk b with
  | .shd s=>.shd s
  | .lock=>.lock
  | _=>.priv 0 }
structure Avj (p:Ph) (I:Ab) (w:World):Prop where
 next:p.kind≠.seek->I.next=p.n
 done:∀x,x < I.next->I.done x
 out:p.kind=.fill->∃cs,w.heap[p.out]?=some (.cells cs p.oty (0,0))/\cs.size=32 * p.n/\∀x,x < p.n->∀o,o < 32->cs[32 * x+o]?=some (p.val x o)
 fix:∀b m,b < I.hs->I.bk b=.fix m->w.heap[b]?=p.H b
 seek:p.kind=.seek->I.bk p.out=.lock/\(I.stp=false->I.next=p.n)/\∃(v:Int) (a b:Value),w.heap[p.out]?=some (.cells #[a,b,.int .i64 v] p.oty (0,0))/\Ld (fun x=>p.hit x/\x < I.next) v/\(I.stp=true->∃x,p.hit x/\x < I.next)
theorem Se (hI:Ae ty top I w) (hp:I.ph=some p) (ht:I.tag p.f=.thru):Avj p I w/\∀i,p.b<=i->I.tag i=.gone:=by
 have h:=hI.core _ hp;have hg:∀i,p.b<=i->I.tag i=.gone:=by
  obtain⟨st,sm,q1,q2⟩:=h.wgm;cases q2 with
  | opn q=>rw[ht] at q;exact q.elim
  | reg q=>rw[ht] at q;cases q
  | last _ _ q=>rw[ht] at q;cases q
  | sema q=>rw[ht] at q;cases q
  | fin _ q=>exact q
 have hn:p.kind≠.seek->I.next=p.n:=fun hk=>(h.full (by rw[ht];rfl)).resolve_right (by rw[h.stpk hk];simp)
 have hd:∀x,x < I.next->I.done x:=fun x hx=>by
  rcases h.job x hx with q|⟨i,hb,q⟩
  ·exact q
  ·rw[hg i hb] at q;rcases q with q|q<;>cases q
 refine⟨⟨hn,hd,fun hk=>?_,h.fix,fun hk=>?_⟩,hg⟩;rotate_left
 ·have hS:=h.seek hk;refine⟨hS.bout,fun q=>(h.full (by rw[ht];rfl)).resolve_right (by rw[q];simp),?_⟩;obtain⟨v,q1,q2⟩:=hS.best;have key:∀x,I.sk.took x↔(p.hit x/\x < I.next):=fun x=>⟨hS.took x,fun q=>hS.done x (hd x q.2) q.1⟩;exact⟨v,_,_,q1,by rw[show (fun x=>p.hit x/\x < I.next)=I.sk.took from funext fun x=>propext (key x).symm];exact q2,fun q=>let ⟨x,r⟩:=hS.stp q;⟨x,(key x).1 r⟩⟩
 obtain⟨cs,q1,q2,q3⟩:=(h.fill hk).out;exact⟨cs,q1,q2,fun x hx=>q3 x hx (hd x (by rw[hn (by rw[hk];simp)];exact hx))⟩
theorem Ik {b s:Nat}:I.over.bk b=.shd s↔I.bk b=.shd s:=by
 simp only[Ab.over];cases q:I.bk b<;>simp
theorem Gs {b:Nat}:I.over.bk b=.lock↔I.bk b=.lock:=by
 simp only[Ab.over];cases q:I.bk b<;>simp
theorem P1 {b:Nat} (h:∀s,I.bk b≠.shd s) (h2:I.bk b≠.lock):I.over.bk b=.priv 0:=by
 simp only[Ab.over]
theorem Asb (hI:Ae ty top I w) (hp:I.ph=some p) (hf:p.f=0) (ht:I.tag 0=.thru) (hd:I.deaf 0=0) (wk:Prop):(Al P ty top Post).Do 0 I w I.over w wk #[mk (.acquire (stA p.wg))]:=by
 have h:=hI.core _ hp;obtain⟨_,hg⟩:=Se hI hp (by rw[hf];exact ht);have nocol:I.col=none:=by
  cases hc:I.col with
  | none=>rfl
  | some c=>have:=(hI.mate p c hp hc).1;have:=(hI.coll c hc).f.1;omega
 have kv:=(hI.alone p hp nocol).2;have tz:I.over.tag 0=.solo:=by show upd I.tag 0 B6.solo 0=_;exact upd_same _ _ _
 have tn0:∀k,k≠0->I.tag k=.gone:=fun k hk=>by
  by_cases hb:p.b<=k
  ·exact hg k hb
  ·exact h.rest k (by rw[hf];exact hk) (by omega) hk
 have tn:∀k,k≠0->I.over.tag k=.gone:=fun k hk=>by show upd I.tag 0 B6.solo k=_;rw[upd_ne _ _ hk];exact tn0 k hk
 have noph:∀ {q:Prop} {p':Ph},I.over.ph=some p'->q:=fun q=>by cases q
 have nocol':∀ {q:Prop} {c:Ir},I.over.col=some c->q:=fun {_ c} q=>by have q':I.col=some c:=q;rw[nocol] at q';cases q'
 refine⟨⟨hI.hs,hI.cnt,by rw[tz];simp,fun k hk=>tn k (by have:=hI.cnt;have hk':I.cnt<=k:=hk;omega),fun _ _=>⟨tz,tn,fun b hb=>?_,fun _=>rfl⟩,fun p' q=>noph q,fun c q=>nocol' q,fun c q=>nocol' q,fun p' c q=>noph q,fun p' q=>noph q,⟨fun p' q=>noph q,hI.top.2⟩⟩,fun j hj=>⟨(tn j hj).trans (tn0 j hj).symm,rfl,⟨rfl,rfl⟩,fun e=>absurd (tn0 j hj) e⟩,fun t fn pos hT=>?_,fun _ _ _ _ _ _ _ _=>.inl rfl,.inr fun j hj hw=>?_,rfl,.refl _⟩
 ·cases q:I.bk b with
  | shd s=>exact .inl ⟨s,Ik.2 q⟩
  | lock=>exact .inr (.inr (Gs.2 q))
  | _=>exact .inr (.inl (P1 (by rw[q];simp) (by rw[q];simp)))
 ·have e1:MemOp.ofEvents 0 fn pos #[mk (.acquire (stA p.wg))]=#[{ g:=0,fn,pos,act:=.mark (.acquire (stA p.wg)) }]:=by rw[ofEvents_eq];simp[Go.ConcR.ofEvent_mk]
  rw[e1];generalize hy:({ g:=0,fn,pos,act:=.mark (.acquire (stA p.wg)) }:MemOp)=y;have jn:y.g=0/\y.act=.mark (.acquire (stA p.wg)):=by rw[<- hy];exact⟨rfl,rfl⟩
  have hmem:∀op∈#[y],op.act.touch?=none/\op.g < I.cnt/\(∀a,op.act≠.mark (.release a))/\op.act≠.mark .disable/\op.act≠.mark .enable:=fun op hop=>by
   rw[So hop,jn.2];exact⟨rfl,by rw[jn.1];exact hI.cnt,by simp,by simp,by simp⟩
  have hs:∀op∈#[y],op.act.touch?=none:=fun op hop=>(hmem op hop).1;have hD:Vh I.wh (t++#[y]) I.cnt:=hT.d.silent (Nat.le_refl _) fun op hop=>⟨(hmem op hop).1,(hmem op hop).2.1⟩;have hN:Nc (t++#[y]):=hT.nrel.app fun op hop=>(hmem op hop).2.2.1;have elo:I.lo=some p.b:=by unfold Ab.lo;rw[nocol,hp];rfl
  have all:∀m,t.counts m->Knows (t++#[y]) 0 m:=fun m hc=>by
   rcases hT.old m hc with q|⟨lo,q1,k,q2,q3⟩
   ·exact q.app _
   ·rw[elo] at q1;obtain rfl:=Option.some.inj q1;have hkc:k < I.cnt:=by
     obtain⟨op,ho,e⟩:=Option.map_eq_some_iff.1 q3;rw[<- e];exact hT.d.gs m op ho
    obtain⟨r,hr⟩:=hT.rel p hp k q2 hkc (by rw[hg k q2];trivial);exact R4 hr hN jn (by rw[hT.deaf];exact hd) q3 hc
  have hsh:∀l,I.over.wh.sh l->I.wh.sh l:=fun l h=>by
   rcases h with⟨s,e⟩|⟨e,_⟩|⟨e,e2⟩
   rotate_right
   ·exact .inr (.inr ⟨Gs.1 e,e2⟩)
   ·exact .inl ⟨s,Ik.1 e⟩
   ·exfalso;have e':(match I.bk (blk l) with | .shd s=>BK.shd s | .lock=>.lock|_=>.priv 0)=.mix:=e;cases q:I.bk (blk l)<;>rw[q] at e'<;>cases e'
  have nk:∀m a,touchAt t m=some a->I.wh.sh a.loc->I.over.wh.sh a.loc:=fun m a ha h'=>by
   rcases h' with⟨s,e⟩|⟨e,e2⟩|⟨e,e2⟩
   rotate_right
   ·exact .inr (.inr ⟨Gs.2 e,e2⟩)
   ·exact .inl ⟨s,Ik.2 e⟩
   ·exfalso;have hlt:=hT.low m a ha;by_cases hk:p.kind=.fill
    ·have hF:=h.fill hk;have hb:=hF.mixo _ hlt e;cases hl:a.loc with
     | cell ad=>rw[hl] at hb e2;simp only[blk] at hb;simp only[Ab.mixAt,hb] at e2;exact hF.owm _ e2
     | _=>rw[hl] at e2;simp[Ab.mixAt] at e2
    ·exact h.nomix hk _ hlt e
  have hperm:∀l,¬I.over.wh.sh l->Perm (t++#[y]) 0 l:=fun l hns m a ha e=>by
   have ha':=Ah hs ha;subst e;exact all m (hT.d.counts ha' fun q=>hns (nk m a ha' q))
  refine⟨hD.anew (fun m op z hm hz hs'=>.inl ⟨hsh _ hs',?_⟩) (fun l hs' hr=>?_) (fun l hs' hr=>?_) fun m a ha hs'=>nk m a (Ah hs ha) hs',fun k=>?_,hN,fun m a ha=>hT.low m a (Ah hs ha),fun p' q=>noph q,fun m hc=>?_,fun c q=>nocol' q,fun c q=>nocol' q⟩
  ·rcases hs' with⟨s,e⟩|⟨e,_⟩|⟨e,_⟩
   rotate_right
   ·simp only[Ab.wh];rw[e,Gs.1 e]
   ·simp only[Ab.wh];rw[e,Ik.1 e]
   ·exfalso;have e':(match I.bk (blk z.loc) with | .shd s=>BK.shd s | .lock=>.lock|_=>.priv 0)=.mix:=e;cases q:I.bk (blk z.loc)<;>rw[q] at e'<;>cases e'
  ·have:I.over.wh.own l=some 0:=by
    by_cases hlk:I.bk (blk l)=.lock
    ·simp only[Ab.wh,Gs.2 hlk];rfl
    ·have hb:=P1 (I:=I) (b:=blk l) (fun s e=>hs' (.inl ⟨s,Ik.2 e⟩)) hlk;simp only[Ab.wh,hb]
   rw[this];exact hperm l hs'
  ·exfalso;obtain⟨m,e⟩:=hr;have e':(match I.bk (blk l) with | .shd s=>BK.shd s | .lock=>.lock|_=>.priv 0)=.fix m:=e;cases q:I.bk (blk l)<;>rw[q] at e'<;>cases e'
  ·rw[Go.ConcN.Deaf_still t k _ fun op hop=>(hmem op hop).2.2.2];exact hT.deaf k
  ·have hlt:m < t.size:=by
    obtain⟨z,hz,_⟩:=hc;obtain⟨_,q,_⟩:=touch_of (Ah hs hz);exact lt_size_of_getElem? q
   exact .inl (all m ((counts_old hlt).1 hc))
 ·cases hw with
  | wg p' st q1 q2 =>
   obtain rfl:=Ag hp q1;rw[hf] at q2;exact absurd q2 hj
  | que p' m q1 q2 q3 q4 _ =>
   obtain rfl:=Ag hp q1;obtain⟨x,r⟩:=(h.seek q2).busy m j q3 (by rw[q4];simp);rw[tn0 j hj] at r;cases r
theorem Aj4 (hp:I.ph=none) (hc:I.col=none) (hT:Iq I t):(∀said,¬Race said t)/\t.HandedOver:=by
 refine⟨hT.d.nr,fun i g hg hne hcn=>?_⟩;rcases hT.old i hcn with q|⟨lo,q,_⟩
 ·obtain⟨m,z,h1,h2,h3⟩:=q;refine⟨m,by simp[Trace.g?,h1,h2],?_⟩;rcases h3 with e|e
  ·subst e;simp[Trace.g?,h1,h2] at hg;exact absurd hg.symm hne
  ·exact e
 ·unfold Ab.lo at q;rw[hc,hp] at q;cases q
open Classical in
noncomputable def Ab.fork (I:Ab) (c:Ir) (Fx:Nat->Prop):Ab :=
 { I with cnt:=I.cnt+1,tag:=upd (upd I.tag 0 .coll) I.cnt .pre,deaf:=upd I.deaf I.cnt 0,col:=some c,done:=fun _=>False,bk:=fun b=>if Fx b then .fix 0 else I.bk b }
structure Atg (top:Nat) (I:Ab) (w:World) (c:Ir) (Fx:Nat->Prop):Prop where
 ph:I.ph=none
 col:I.col=none
 f:c.f=I.cnt
 dn:I.bk c.dn=.shd 0
 dnm:w.heap[c.dn]?=some (.chan 0 #[] false 0 0 false)
 fx:∀b,Fx b->b < I.hs/\I.bk b=.priv 0
 H:∀b,Fx b->w.heap[b]?=c.H b
 top:c.f+1+c.W<=top
 deaf:I.deaf 0=0
theorem Asf {Fx:Nat->Prop} (hI:Ae ty top I w) (B:Atg top I w c Fx):(Al P ty top Post).Spawns 0 I w (I.fork c Fx):=by
 obtain⟨f1,f2,f3⟩:=hI.free B.ph B.col;have ak:=hI.cnt;have jz:∀b,Fx b->(I.fork c Fx).bk b=.fix 0:=fun b h=>by simp only[Ab.fork];rw[if_pos h]
 have hrest:∀b,¬Fx b->(I.fork c Fx).bk b=I.bk b:=fun b h1=>by simp only[Ab.fork];rw[if_neg h1]
 have bz:∀b s,I.bk b=.shd s->(I.fork c Fx).bk b=.shd s:=fun b s e=>(hrest b fun q=>by have:=(B.fx b q).2;rw[e] at this;cases this).trans e;have im:∀b s,(I.fork c Fx).bk b=.shd s->I.bk b=.shd s:=fun b s e=>by
  by_cases q:Fx b
  ·rw[jz b q] at e;cases e
  ·rwa [hrest b q] at e
 have hlk:∀b,I.bk b=.lock->(I.fork c Fx).bk b=.lock:=fun b e=>(hrest b fun q=>by have:=(B.fx b q).2;rw[e] at this;cases this).trans e;have hlk2:∀b,(I.fork c Fx).bk b=.lock->I.bk b=.lock:=fun b e=>by
  by_cases q:Fx b
  ·rw[jz b q] at e;cases e
  ·rwa [hrest b q] at e
 have tz:(I.fork c Fx).tag 0=.coll:=by
  show upd (upd I.tag 0 B6.coll) I.cnt B6.pre 0=_;rw[upd_ne _ _ (by omega),upd_same]
 have tc:(I.fork c Fx).tag I.cnt=.pre:=by show upd (upd I.tag 0 B6.coll) I.cnt B6.pre I.cnt=_;exact upd_same _ _ _
 have tn:∀k,k≠0->k≠I.cnt->(I.fork c Fx).tag k=.gone:=fun k h1 h2=>by
  show upd (upd I.tag 0 B6.coll) I.cnt B6.pre k=_;rw[upd_ne _ _ h2,upd_ne _ _ h1];exact f2 k h1
 have noph:∀ {q:Prop} {p':Ph},(I.fork c Fx).ph=some p'->q:=fun {_ p'} q=>by have q':I.ph=some p':=q;rw[B.ph] at q';cases q'
 have onlyc:∀ {c'},(I.fork c Fx).col=some c'->c=c':=fun q=>Option.some.inj q;have nomix:∀b,b < I.hs->(I.fork c Fx).bk b≠.mix:=fun b hb q=>by
  by_cases r:Fx b
  ·rw[jz b r] at q;cases q
  ·rw[hrest b r] at q;rcases f3.1 b hb with⟨s,e⟩|e|e<;>(rw[q] at e;cases e)
 refine⟨⟨hI.hs,Nat.le_succ_of_le ak,by rw[tz];simp,fun k hk=>?_,(fun _ q=>by cases q),fun p' q=>noph q,fun c' hc=>?_,fun c' hc _=>?_,fun p' c q=>noph q,fun p' q=>noph q,⟨fun p' q=>noph q,fun c' hc=>by obtain rfl:=onlyc hc;exact B.top⟩⟩,fun j' h1 h2=>⟨(tn j' h1 h2).trans (f2 j' h1).symm,upd_ne _ _ h2,⟨rfl,rfl⟩,fun e=>absurd (f2 j' h1) e⟩,fun t x y hx hy hT=>?_,fun j' h1 hw=>?_,rfl,?_⟩
 ·have hk':I.cnt+1<=k:=hk;exact tn k (by omega) (by omega)
 ·obtain rfl:=onlyc hc;refine⟨tz,⟨by rw[B.f];omega,by rw[B.f];exact Nat.lt_succ_self _,by rw[B.f];show I.cnt+1<=I.cnt+1+c.W;omega⟩,bz _ _ B.dn,⟨0,by rw[B.f,tc];exact B.dnm⟩,fun b hb q=>?_,(upd_ne _ _ (by omega)).trans B.deaf,fun k z e=>?_⟩
  ·by_cases r:Fx b
   ·exact B.H b r
   ·rw[hrest b r] at q;rcases f3.1 b hb with⟨s,e⟩|e|e<;>(rw[q] at e;cases e)
  ·by_cases q:k=0
   ·rw[q,tz] at e;cases e
   ·by_cases q2:k=I.cnt
    ·rw[q2,tc] at e;cases e
    ·rw[tn k q q2] at e;cases e
 ·obtain rfl:=onlyc hc;refine⟨fun k h1 h2=>tn k h1 (by rw[<- B.f];exact h2),.inl ⟨by rw[B.f,tc],fun _=>id⟩,nomix,fun _=>⟨by rw[B.f];rfl,fun b m hb q=>?_⟩⟩;by_cases r:Fx b
  ·rw[jz b r] at q;injection q with q;exact q.symm
  ·rw[hrest b r] at q;rcases f3.1 b hb with⟨s,e⟩|e|e<;>(rw[q] at e;cases e)
 ·have hmem:∀op∈#[x,y],op.act.touch?=none/\op.g < I.cnt+1/\∀m,op.act≠.mark m:=by
   intro op hop;simp only[List.mem_toArray,List.mem_cons,List.not_mem_nil,or_false] at hop;rcases hop with rfl|rfl
   ·exact⟨by rw[hx.2];rfl,by rw[hx.1];omega,fun m=>by rw[hx.2];simp⟩
   ·exact⟨by rw[hy.2];rfl,by rw[hy.1];exact Nat.lt_succ_self _,fun m=>by rw[hy.2];simp⟩
  have hs:∀op∈#[x,y],op.act.touch?=none:=fun op hop=>(hmem op hop).1;have hD:Vh I.wh (t++#[x,y]) (I.cnt+1):=hT.d.silent (Nat.le_succ _) fun op hop=>⟨(hmem op hop).1,(hmem op hop).2.1⟩;have ke:Deaf t I.cnt=0:=Go.ConcN.Deaf_absent fun m op hm e=>by have:=hT.d.gs m op hm;omega
  have old:∀ {m},(t++#[x,y]).counts m->m < t.size:=fun {m} hc=>by
   obtain⟨x,hx,_⟩:=hc;obtain⟨_,q,_⟩:=touch_of (Ah hs hx);exact lt_size_of_getElem? q
  have hma:∀l,(I.fork c Fx).mixAt l=I.mixAt l:=fun l=>Re (I':=I.fork c Fx) rfl l;have nm0:∀b,b < I.hs->I.bk b≠.mix:=fun b hb q=>by rcases f3.1 b hb with⟨s,e⟩|e|e<;>(rw[q] at e;cases e)
  have nf0:∀b m,b < I.hs->I.bk b≠.fix m:=fun b m hb q=>by rcases f3.1 b hb with⟨s,e⟩|e|e<;>(rw[q] at e;cases e)
  have fresh:∀l,¬blk l < I.hs->∀i a,touchAt (t++#[x,y]) i=some a->a.loc≠l:=fun l hl i a ha e=>hl (e ▸ hT.low i a (Ah hs ha));have nsh:∀l,¬(I.fork c Fx).wh.sh l->blk l < I.hs->¬I.wh.sh l:=fun l hs hl q=>by
   rcases q with⟨s,e⟩|⟨e,_⟩|⟨e,e2⟩
   ·exact hs (.inl ⟨s,bz _ s e⟩)
   ·exact nm0 _ hl e
   ·exact hs (.inr (.inr ⟨hlk _ e,e2⟩))
  refine⟨hD.anew (fun m op z hm hz hsh=>?_) (fun l h1 h2=>?_) (fun l h1 h2 k hk=>?_) fun m a ha hsh=>?_,fun k=>?_,hT.nrel.app fun op hop a=>(hmem op hop).2.2 _,fun m a ha=>hT.low m a (Ah hs ha),fun p' q=>noph q,fun m hc=>?_,fun c' hc _ q=>?_,fun c' hc _ q=>?_⟩
  ·have hlt:=hT.low m z (Ah hs (by rw[touchAt_of hm];exact hz));rcases hsh with⟨s,e⟩|⟨e,_⟩|⟨e,e2⟩
   ·refine .inl ⟨.inl ⟨s,im _ s e⟩,?_⟩;simp only[Ab.wh];rw[e,im _ s e]
   ·exact absurd e (nomix _ hlt)
   ·refine .inl ⟨.inr (.inr ⟨hlk2 _ e,e2⟩),?_⟩;simp only[Ab.wh];rw[e,hlk2 _ e]
  ·by_cases hl:blk l < I.hs
   ·have e1:=hrest (blk l) fun q=>h2 ⟨0,jz _ q⟩;have:(I.fork c Fx).wh.own l=I.wh.own l:=by
     simp only[Ab.wh,e1,hma];rfl
    rw[this];refine(hT.d.own l (nsh l h1 hl) fun⟨m,r⟩=>nf0 _ m hl r).silent hs fun k hk=>?_;by_cases q:k=I.cnt
    ·subst q;exact .inr ⟨0,⟨ak,hI.main,fun m r=>absurd r (nf0 _ m hl)⟩,fun m hm=>Hs hx hy (by rw[hT.deaf];exact B.deaf) ke hm⟩
    ·have jk:k=0:=Classical.byContradiction fun r=>hk.2.1 (tn k r q);subst jk;exact .inl ⟨ak,hI.main,fun m r=>absurd r (nf0 _ m hl)⟩
   ·exact Hj.fresh (fresh l hl)
  ·by_cases hl:blk l < I.hs
   ·have hF:Fx (blk l):=Classical.byContradiction fun q=>by
     obtain⟨m,r⟩:=h2;rw[hrest _ q] at r;exact nf0 _ m hl r
    have hP:Perm t 0 l:=by
     have:=hT.d.own l (nsh l h1 hl) fun⟨m,r⟩=>nf0 _ m hl r;have e3:I.wh.own l=some 0:=by simp only[Ab.wh,(B.fx _ hF).2]
     rwa [e3] at this
    by_cases q:k=I.cnt
    ·subst q;exact PermW.pass (PermW.of hP) hs fun m hm=>Hs hx hy (by rw[hT.deaf];exact B.deaf) ke hm
    ·have jk:k=0:=Classical.byContradiction fun r=>hk.2.1 (tn k r q);subst jk;exact PermW.of (Perm.silent (show Perm t 0 l from hP) hs)
   ·exact fun i a ha e=>absurd e (fresh l hl i a ha)
  ·have hlt:=hT.low m a (Ah hs ha);rcases hsh with⟨s,e⟩|⟨e,_⟩|⟨e,e2⟩
   ·exact .inl ⟨s,bz _ s e⟩
   ·exact absurd e (nm0 _ hlt)
   ·exact .inr (.inr ⟨hlk _ e,e2⟩)
  ·rw[Go.ConcN.Deaf_still t k _ fun op hop=>⟨(hmem op hop).2.2 _,(hmem op hop).2.2 _⟩];show _=upd I.deaf I.cnt 0 k;by_cases q:k=I.cnt
   ·rw[q,upd_same,ke]
   ·rw[upd_ne _ _ q];exact hT.deaf k
  ·have hlt:=old hc;rcases hT.old m ((counts_old hlt).1 hc) with q|⟨lo,q,_⟩
   ·exact .inl (q.app _)
   ·unfold Ab.lo at q;rw[B.col,B.ph] at q;cases q
  ·obtain rfl:=onlyc hc;rw[B.f,tc] at q;cases q
  ·obtain rfl:=onlyc hc;rw[B.f,tc] at q;cases q
 ·obtain⟨p',q1⟩:=hw.phase;rw[B.ph] at q1;cases q1
 ·show I.cnt+1<=top;have:=B.top;rw[B.f] at this;omega
def Ab.rest (I:Ab) (f:Nat):Ab:={ I with tag:=upd I.tag f .fin,ph:=none }
theorem Ar8 (hI:Ae ty top I w) (hp:I.ph=some p) (hc:I.col=some c) (ht:I.tag p.f=.thru) (hd:I.deaf p.f=0) (wk:Prop):(Al P ty top Post).Do p.f I w (I.rest p.f) w wk #[mk (.acquire (stA p.wg))]:=by
 have h:=hI.core _ hp;obtain⟨hD0,hg⟩:=Se hI hp ht;have hK:=hI.coll c hc;obtain⟨m1,m2,m3,m4,_⟩:=hI.mate p c hp hc;have pz:=hK.f.1;have tf:(I.rest p.f).tag p.f=.fin:=by show upd I.tag p.f B6.fin p.f=_;exact upd_same _ _ _
 have tn:∀k,k≠p.f->(I.rest p.f).tag k=I.tag k:=fun k hk=>by show upd I.tag p.f B6.fin k=_;exact upd_ne _ _ hk
 have others:∀k,k≠p.f->k≠0->I.tag k=.gone:=fun k h1 h2=>by
  by_cases hb:p.b<=k
  ·exact hg k hb
  ·exact h.rest k h1 (by omega) h2
 have noph:∀ {q:Prop} {p':Ph},(I.rest p.f).ph=some p'->q:=fun q=>by cases q
 have hfc:p.f < I.cnt:=by rw[m1];exact hK.f.2.1
 refine⟨⟨hI.hs,hI.cnt,?_,fun k hk=>?_,fun _ q=>?_,fun p' q=>noph q,fun c' hc'=>?_,fun c' hc' _=>?_,fun p' c q=>noph q,fun p' q=>noph q,⟨fun p' q=>noph q,hI.top.2⟩⟩,fun j hj=>⟨tn j hj,rfl,⟨rfl,rfl⟩,fun e=>?_⟩,fun t fn pos hT=>?_,fun _ _ _ _ _ _ _ _=>.inl rfl,.inr fun j hj hw=>?_,rfl,.refl _⟩
 ·rw[tn 0 (by omega)];exact hI.main
 ·have hk':I.cnt<=k:=hk;rw[tn k (by omega)];exact hI.un k hk'
 ·have q':I.col=none:=q;rw[hc] at q';cases q'
 ·obtain rfl:=Cv hc hc';refine hK.retag hI.hs ((tn 0 (by omega)).trans hK.tag0) (by rw[<- m1,tf,ht];rfl) rfl rfl hK.bdn (fun _ _ q=>q) rfl (fun k y e=>?_) rfl fun _ _ _=>rfl;by_cases q:k=p.f
  ·rw[q,tf] at e;cases e
  ·rw[tn k q] at e;exact⟨e,rfl,rfl,rfl,fun _ _ _ q=>⟨q,rfl⟩⟩
 ·obtain rfl:=Cv hc hc';refine⟨fun k h1 h2=>(tn k (by rw[m1];exact h2)).trans (others k (by rw[m1];exact h2) h1),.inr ⟨.inl (by rw[<- m1];exact tf),fun x hx=>hD0.done x ?_⟩,h.nomix (by rw[m2];simp),fun q=>?_⟩
  ·rw[hD0.next (by rw[m2];simp),m3];exact hx
  ·rw[<- m1,tf] at q;cases q
 ·have i7:j=0:=Classical.byContradiction fun q=>e (others j hj q);subst i7;have nc:∀ {q:Prop},I.nc 0->q:=fun q=>by
   rcases q with q|q
   ·exact absurd rfl q
   ·rw[hc] at q;cases q
  have no:∀ {q:Prop} {p'},I.on 0 p'->q:=fun {_ p'} q=>by
   obtain rfl:=Ag hp q.1;rcases q.2 with r|r
   ·exact absurd rfl r
   ·omega
  exact⟨Nat.le_refl _,fun _ _ _=>rfl,fun _ h1 h2=>⟨h1,h2⟩,fun _ _ _=>rfl,rfl,fun _ q=>no q,fun _ q=>nc q,rfl,fun _ q=>no q,(fun _ q=>by rw[hc] at q;cases q),(fun q=>absurd rfl q),fun _ q=>no q,fun _ _ _=>Iff.rfl,(fun _ q=>no q),(fun _=>rfl),fun _ q=>no q⟩
 ·have e1:MemOp.ofEvents p.f fn pos #[mk (.acquire (stA p.wg))]=#[{ g:=p.f,fn,pos,act:=.mark (.acquire (stA p.wg)) }]:=by rw[ofEvents_eq];simp[Go.ConcR.ofEvent_mk]
  rw[e1];generalize hy:({ g:=p.f,fn,pos,act:=.mark (.acquire (stA p.wg)) }:MemOp)=y;have jn:y.g=p.f/\y.act=.mark (.acquire (stA p.wg)):=by rw[<- hy];exact⟨rfl,rfl⟩
  have hmem:∀op∈#[y],op.act.touch?=none/\op.g < I.cnt/\(∀a,op.act≠.mark (.release a))/\op.act≠.mark .disable/\op.act≠.mark .enable:=fun op hop=>by
   rw[So hop,jn.2];exact⟨rfl,by rw[jn.1];exact hfc,by simp,by simp,by simp⟩
  have hs:∀op∈#[y],op.act.touch?=none:=fun op hop=>(hmem op hop).1;have hD:Vh I.wh (t++#[y]) I.cnt:=hT.d.silent (Nat.le_refl _) fun op hop=>⟨(hmem op hop).1,(hmem op hop).2.1⟩;have hN:Nc (t++#[y]):=hT.nrel.app fun op hop=>(hmem op hop).2.2.1;have elo:I.lo=some c.f:=by unfold Ab.lo;rw[hc]
  have gon:∀k,I.tag k=.gone->(I.rest p.f).tag k=.gone:=fun k q=>by
   by_cases e:k=p.f
   ·rw[e,ht] at q;cases q
   ·rw[tn k e];exact q
  have old:∀ {m},(t++#[y]).counts m->m < t.size:=fun {m} hc=>by
   obtain⟨x,hx,_⟩:=hc;obtain⟨_,q,_⟩:=touch_of (Ah hs hx);exact lt_size_of_getElem? q
  refine⟨hD.anew (fun m op z hm hz hsh=>.inl ⟨hsh,rfl⟩) (fun l h1 h2=>(hD.own l h1 h2).mono fun k hk=>⟨hk.1,fun q=>hk.2.1 (gon k q),hk.2.2⟩) (fun l h1 h2 k hk=>hD.ro l h1 h2 k ⟨hk.1,fun q=>hk.2.1 (gon k q),hk.2.2⟩) fun _ _ _ q=>q,fun k=>?_,hN,fun m a ha=>hT.low m a (Ah hs ha),fun p' q=>noph q,fun m hcn=>?_,fun c' hc' _ _ m hcn=>?_,fun c' hc' _ q=>?_⟩
  ·rw[Go.ConcN.Deaf_still t k _ fun op hop=>(hmem op hop).2.2.2];exact hT.deaf k
  ·have hlt:=old hcn;rcases hT.old m ((counts_old hlt).1 hcn) with q|⟨lo,q1,k,q2,q3⟩
   ·exact .inl (q.app _)
   ·refine .inr ⟨lo,?_,k,q2,by rw[g?_old hlt];exact q3⟩;rw[elo] at q1;unfold Ab.lo;rw[show (I.rest p.f).col=some c from hc];exact q1
  ·obtain rfl:=Cv hc hc';have hlt:=old hcn;have hcn':=(counts_old hlt).1 hcn;rcases hT.old m hcn' with q|⟨lo,q1,k,q2,q3⟩
   ·exact .inl (q.app _)
   ·rw[elo] at q1;obtain rfl:=Option.some.inj q1;right;have hkc:k < I.cnt:=by
     obtain⟨op,ho,e⟩:=Option.map_eq_some_iff.1 q3;rw[<- e];exact hT.d.gs m op ho
    rw[<- m1];by_cases e:k=p.f
    ·obtain⟨op,ho,e2⟩:=Option.map_eq_some_iff.1 q3;have:=knows_own ho;rw[e2,e] at this;exact this.app _
    ·obtain⟨r,hr⟩:=hT.rel p hp k (by omega) hkc (by rw[hg k (by omega)];trivial);exact R4 hr hN jn (by rw[hT.deaf];exact hd) q3 hcn'
  ·obtain rfl:=Cv hc hc';rw[<- m1,tf] at q;cases q
 ·cases hw with
  | wg p' st q1 q2 =>
   obtain rfl:=Ag hp q1;exact absurd q2 hj
  | que p' m q1 q2 =>
   obtain rfl:=Ag hp q1;rw[m2] at q2;cases q2
theorem Ar6 (hI:Ae ty top I w) (hp:I.ph=none) (hc:I.col=some c) (ht:I.tag c.f=.fin) (hd:I.deaf c.f=0) {s:Nat} (hj:w.heap[c.dn]?=some (.chan 0 #[] false s s false)) (wk:Prop) (hwk:wk):(Al P ty top Post).Do c.f I w (I.setTag c.f .gone) (w.setChan c.dn 0 #[] true s s false) wk #[⟨.obj c.dn,false,true⟩,⟨.obj c.dn,true,true⟩]:=by
 have hK:=hI.coll c hc;have hL:=hI.lull c hc hp;have pz:=hK.f.1;have hlt:=hK.lt hI.hs;have tf:(I.setTag c.f .gone).tag c.f=.gone:=upd_same _ _ _;have tn:∀k,k≠c.f->(I.setTag c.f .gone).tag k=I.tag k:=fun k hk=>upd_ne _ _ hk;have hsz:(w.setChan c.dn 0 #[] true s s false).heap.size=w.heap.size:=by simp[World.setChan]
 have hsame:∀b,b≠c.dn->(w.setChan c.dn 0 #[] true s s false).heap[b]?=w.heap[b]?:=fun b hb=>heap_setChan _ _ _ _ _ _ _ _ hb;have noph:∀ {q:Prop} {p':Ph},(I.setTag c.f .gone).ph=some p'->q:=fun {_ p'} q=>by have q':I.ph=some p':=q;rw[hp] at q';cases q'
 have hdone:∀x,x < c.n->I.done x:=by
  rcases hL.at_ with⟨q,_⟩|⟨_,q⟩
  ·rw[ht] at q;cases q
  ·exact q
 refine⟨⟨by rw[hsz];exact hI.hs,hI.cnt,?_,fun k hk=>?_,fun _ q=>?_,fun p' q=>noph q,fun c' hc'=>?_,fun c' hc' _=>?_,fun p' c q=>noph q,fun p' q=>noph q,hI.top⟩,fun j hj=>⟨tn j hj,rfl,⟨rfl,rfl⟩,fun e=>?_⟩,fun t fn pos hT=>?_,fun _ _ _ _ _ _ _ _=>.inr hwk,.inl hwk,rfl,.of rfl rfl⟩
 ·rw[tn 0 (by omega)];exact hI.main
 ·by_cases e:k=c.f
  ·rw[e,tf]
  ·rw[tn k e];exact hI.un k hk
 ·have q':I.col=none:=q;rw[hc] at q';cases q'
 ·obtain rfl:=Cv hc hc';refine⟨(tn 0 (by omega)).trans hK.tag0,hK.f,hK.bdn,⟨s,?_⟩,fun b hb q=>?_,hK.deaf,fun k y e=>?_⟩
  ·rw[Dj _ _ _ _ _ _ _ _ (by rw[<- hI.hs];exact hlt),tf];rfl
  ·rw[hsame b (fun r=>by have q':I.bk b=.fix 0:=q;rw[r,hK.bdn] at q';cases q')];exact hK.fix b hb q
  ·exfalso;by_cases q:k=c.f
   ·rw[q,tf] at e;cases e
   ·rw[tn k q] at e;by_cases q0:k=0
    ·rw[q0,hK.tag0] at e;cases e
    ·rw[hL.rest k q0 q] at e;cases e
 ·obtain rfl:=Cv hc hc';exact⟨fun k h1 h2=>(tn k h2).trans (hL.rest k h1 h2),.inr ⟨.inr tf,hdone⟩,hL.nomix,fun q=>by rw[tf] at q;cases q⟩
 ·have i7:j=0:=Classical.byContradiction fun q=>e (hL.rest j q hj);subst i7;have nc:∀ {q:Prop},I.nc 0->q:=fun q=>by
   rcases q with q|q
   ·exact absurd rfl q
   ·rw[hc] at q;cases q
  refine⟨Nat.le_refl _,fun _ _ _=>rfl,fun _ h1 h2=>⟨h1,h2⟩,fun b hb e=>hsame b fun q=>?_,rfl,(fun _ q=>by have:=q.1;rw[hp] at this;cases this),fun _ q=>nc q,rfl,(fun _ q=>by have:=q.1;rw[hp] at this;cases this),(fun _ q=>by rw[hc] at q;cases q),(fun q=>absurd rfl q),(fun _ q=>by have:=q.1;rw[hp] at this;cases this),fun _ _ _=>Iff.rfl,(fun _ q=>by have:=q.1;rw[hp] at this;cases this),(fun _=>rfl),fun _ q=>by have:=q.1;rw[hp] at this;cases this⟩;subst q;rw[hK.bdn] at e;rcases e with e|⟨m,_,e⟩<;>cases e
 ·have e1:MemOp.ofEvents c.f fn pos #[⟨.obj c.dn,false,true⟩,⟨.obj c.dn,true,true⟩]=#[{ g:=c.f,fn,pos,act:=.access ⟨.obj c.dn,false,true⟩ },{ g:=c.f,fn,pos,act:=.close c.dn }]:=by rw[ofEvents_eq];simp[MemAct.ofEvent]
  rw[e1];generalize hx:({ g:=c.f,fn,pos,act:=.access ⟨.obj c.dn,false,true⟩ }:MemOp)=x;generalize hy:({ g:=c.f,fn,pos,act:=.close c.dn }:MemOp)=y;have hxg:x.g=c.f/\x.act=.access ⟨.obj c.dn,false,true⟩:=by rw[<- hx];exact⟨rfl,rfl⟩
  have jn:y.g=c.f/\y.act=.close c.dn:=by rw[<- hy];exact⟨rfl,rfl⟩
  have hmem:∀op∈#[x,y],op.g=c.f/\∀m,op.act≠.mark m:=fun op hop=>by
   simp only[List.mem_toArray,List.mem_cons,List.not_mem_nil,or_false] at hop;rcases hop with rfl|rfl
   ·exact⟨hxg.1,fun m=>by rw[hxg.2];simp⟩
   ·exact⟨jn.1,fun m=>by rw[jn.2];simp⟩
  have touches:∀op∈#[x,y],∀z,op.act.touch?=some z->z=⟨.obj c.dn,false,.atomic⟩:=fun op hop z hz=>by
   simp only[List.mem_toArray,List.mem_cons,List.not_mem_nil,or_false] at hop;rcases hop with rfl|rfl
   ·rw[hxg.2] at hz;simpa [MemAct.touch?,eq_comm] using hz
   ·rw[jn.2] at hz;cases hz
  have hsh:I.wh.sh (.obj c.dn):=.inl ⟨0,hK.bdn⟩;have hD:Vh I.wh (t++#[x,y]) I.cnt:=hT.d.app hK.f.2.1 fun op hop=>⟨(hmem op hop).1,fun z hz=>by
   obtain rfl:=touches op hop z hz;exact .inl ⟨hsh,by simp,fun q=>by cases q⟩⟩
  have px:(t++#[x,y])[t.size]?=some x:=by rw[Array.getElem?_append_right (Nat.le_refl _)];simp
  have py:(t++#[x,y])[t.size+1]?=some y:=by rw[Array.getElem?_append_right (by omega)];simp
  have ar:∀k l,(I.setTag c.f .gone).live k l->I.live k l:=fun k l hk=>⟨hk.1,fun q=>hk.2.1 (by
   by_cases e:k=c.f
   ·rw[e,tf]
   ·rw[tn k e];exact q),hk.2.2⟩
  have who:∀ {m},¬m < t.size->(t++#[x,y]).counts m->m<=t.size+1/\(t++#[x,y]).g? m=some c.f:=fun {m} hm hcn=>by
   obtain⟨a,ha,_⟩:=hcn;obtain⟨op,ho,_⟩:=touch_of ha;refine⟨?_,?_⟩
   ·have:=lt_size_of_getElem? ho;simp at this;omega
   ·rcases getElem?_append_cases ho with⟨q,_⟩|⟨_,q⟩
    ·exact absurd q hm
    ·simp[Trace.g?,ho,(hmem op q).1]
  refine⟨hD.anew (fun m op z hm hz hs=>.inl ⟨hs,rfl⟩) (fun l h1 h2=>(hD.own l h1 h2).mono fun k hk=>ar k l hk) (fun l h1 h2 k hk=>hD.ro l h1 h2 k (ar k l hk)) fun _ _ _ q=>q,fun k=>?_,hT.nrel.app fun op hop a=>(hmem op hop).2 _,fun m a ha=>?_,fun p' q=>noph q,fun m hcn=>?_,fun c' hc' _ q=>?_,fun c' hc' _ _=>?_⟩
  ·rw[Go.ConcN.Deaf_still t k _ fun op hop=>⟨(hmem op hop).2 _,(hmem op hop).2 _⟩];exact hT.deaf k
  ·obtain⟨op,ho,hoa⟩:=touch_of ha;rcases getElem?_append_cases ho with⟨_,ho'⟩|⟨_,hop⟩
   ·exact hT.low m a (by rw[touchAt_of ho'];exact hoa)
   ·obtain rfl:=touches op hop a hoa;exact hlt
  ·by_cases hm:m < t.size
   ·rcases hT.old m ((counts_old hm).1 hcn) with q|⟨lo,q1,k,q2,q3⟩
    ·exact .inl (q.app _)
    ·exact .inr ⟨lo,q1,k,q2,by rw[g?_old hm];exact q3⟩
   ·exact .inr ⟨c.f,by unfold Ab.lo;rw[show (I.setTag c.f .gone).col=some c from hc],c.f,Nat.le_refl _,(who hm hcn).2⟩
  ·obtain rfl:=Cv hc hc';rw[tf] at q;cases q
  ·obtain rfl:=Cv hc hc';refine⟨t.size+1,by rw[act?_of py,jn.2],⟨c.f,by simp[Trace.g?,py,jn.1],?_⟩,fun m hcn=>?_⟩
   ·rw[deaf_succ px,deaf_old (Nat.le_refl _)];simp only[deafStep,hxg.2];exact(hT.deaf c.f).trans hd
   ·by_cases hm:m < t.size
    ·rcases hT.fin c hc hp ht m ((counts_old hm).1 hcn) with q|q
     ·exact .inl (q.app _)
     ·exact .inr (.inr (q.hb_new (Nat.le_succ _) py jn.1))
    ·obtain⟨q1,q2⟩:=who hm hcn;exact .inr (Yg q2 (by simp[Trace.g?,py,jn.1]) q1)
def Ab.toGive (I:Ab) (i x:Nat) (v:Value) (B:Option Nat):Ab:={ I with tag:=upd I.tag i (.give x),gv:=fun k=>if k=i then v else I.gv k,gb:=fun k=>if k=i then B else I.gb k }
theorem Ase {y:Nat} {v:Value} {B:Option Nat} (hI:Ae ty top I w) (hp:I.ph=some p) (hc:I.col=some c) (hb:p.b<=i) (hi:i < I.cnt) (ht:I.tag i=.busy y) (hd:I.deaf i=0) (hg:∃ob,c.good y v ob/\match B with
  | none=>ob=none
  | some B=>B < I.hs/\I.bk B=.priv i/\∃o,w.heap[B]?=some o/\ob=some (B,o)) (wk:Prop):(Al P ty top Post).Do i I w (I.toGive i y v B) w wk #[]:=by
 have h:=hI.core _ hp;have hK:=hI.coll c hc;obtain⟨m1,m2,m3,m4,_⟩:=hI.mate p c hp hc;have hfi:p.f≠i:=by have:=h.fd;omega
 have hi0:i≠0:=by have:=h.fd;omega
 have tf:(I.toGive i y v B).tag p.f=I.tag p.f:=upd_ne _ _ hfi;have noph:∀ {q:Prop},I.ph=none->q:=fun q=>by rw[hp] at q;cases q
 have hcl:∀k z,(upd I.tag i (.give y) k).at_ z->(I.tag k).at_ z:=fun k z e=>by
  by_cases q:k=i
  ·subst q;rw[upd_same] at e;rcases e with e|e
   ·cases e
   ·injection e with e;rw[<- e];exact .inl ht
  ·rwa [upd_ne _ _ q] at e
 have hv:Et (upd I.tag i (.give y)) p=Et I.tag p:=by
  have:=Gq (tag:=I.tag) (.give y) hb (by have:=h.cntW;omega);rw[ht] at this;simp only[B6.cw] at this;omega
 have hC:Core ty (I.toGive i y v B) p w:=by
  refine⟨h.bwg,h.bjobs,h.bstop,h.ne,h.fix,h.fixm,h.fd,by rw[tf];exact h.ftag,?_,fun j q e=>by rw[tf] at e;exact h.add j q e,fun k h1 h2 h3=>?_,fun k hk=>?_,fun hc k h1 h2=>?_,?_,by rw[tf];exact h.jobs,h.stop,h.stpk,fun z hz=>?_,h.nle,by rw[tf];exact h.full,h.busy.of (fun k z e=>hcl k z e) rfl fun _=>Iff.rfl,fun k hk=>?_,h.small,h.pos,(fun q=>by rw[m2] at q;cases q),(fun q=>by rw[m2] at q;cases q),h.nomix⟩
  ·show I.cnt=p.b+(I.toGive i y v B).started p;have:=h.cnt;unfold Ab.started at this ⊢;rw[tf];exact this
  ·show upd I.tag i _ k=_;rw[upd_ne _ _ (by omega)];exact h.rest k h1 h2 h3
  ·show (upd I.tag i _ k).works;by_cases q:k=i
   ·subst q;rw[upd_same];trivial
   ·rw[upd_ne _ _ q];exact h.wtag k hk
  ·rw[tf] at hc;show (upd I.tag i _ k).early;by_cases q:k=i
   ·subst q;rw[upd_same];trivial
   ·rw[upd_ne _ _ q];exact h.early hc k h1 h2
  ·obtain⟨st,sm,q1,q2⟩:=h.wgm;refine⟨st,sm,q1,?_⟩;have hlast:(∀k,p.b<=k->¬(I.tag k).lasts)->∀k,p.b<=k->¬(upd I.tag i (.give y) k).lasts:=fun hnl k hk=>by
    by_cases q:k=i
    ·subst q;rw[upd_same];exact id
    ·rw[upd_ne _ _ q];exact hnl k hk
   cases q2 with
   | opn q3 q4 =>
    have hm:=Dl.opn (tag:=upd I.tag i (.give y)) (p:=p) (by rw[upd_ne _ _ hfi];exact q3) (hlast q4);rw[upd_ne _ _ hfi,hv] at hm;exact hm
   | reg q3 q4 q5 =>
    have hm:=Dl.reg (tag:=upd I.tag i (.give y)) (p:=p) (by rw[upd_ne _ _ hfi];exact q3) (hlast q4) (by rw[hv];exact q5);rw[hv] at hm;exact hm
   | last L k q3 q4 q5 q6 =>
    exfalso;by_cases e:i=L
    ·subst e;rw[ht] at q5;cases q5
    ·have:=q6 i hb e;rw[ht] at this;cases this
   | sema q3 q4=>have:=q4 i hb;rw[ht] at this;cases this
   | fin q3 q4=>have:=q4 i hb;rw[ht] at this;cases this
  ·rcases h.job z hz with q|⟨m,q1,q2⟩
   ·exact .inl q
   ·refine .inr ⟨m,q1,?_⟩;show (upd I.tag i _ m).at_ z;by_cases q:m=i
    ·subst q;rw[upd_same];rw[ht] at q2;rcases q2 with q2|q2
     ·injection q2 with q2;rw[q2];exact .inr rfl
     ·cases q2
    ·rw[upd_ne _ _ q];exact q2
  ·refine h.hear k (hk.imp (fun e=>?_) fun e=>?_) <;>
    (have e':upd I.tag i (.give y) k=_:=e
     by_cases q:k=i
     ·subst q;rw[upd_same] at e';cases e'
     ·rwa [upd_ne _ _ q] at e')
 refine⟨⟨hI.hs,hI.cnt,?_,fun k hk=>?_,fun q=>noph q,fun p' hp'=>?_,fun c' hc'=>?_,fun c _ q=>noph q,hI.mate,hI.alone,hI.top⟩,fun j hj=>⟨upd_ne _ _ hj,rfl,⟨by show (if j=i then _ else _)=_;rw[if_neg hj],by show (if j=i then _ else _)=_;rw[if_neg hj]⟩,fun _=>⟨Nat.le_refl _,fun _ _ _=>rfl,fun _ h1 h2=>⟨h1,h2⟩,fun _ _ _=>rfl,rfl,fun _ h=>h.1,fun h _=>h,rfl,fun p' hp' _=>⟨rfl,?_⟩,fun _ _ q=>noph q,fun _ _ _ _ q=>noph q,fun _ _=>Nat.le_refl _,fun _ _ _=>Iff.rfl,fun _ _ h=>h,fun _=>rfl,fun _ _ _=>.of (c1:=rfl) rfl fun _=>rfl⟩⟩,fun t fn pos hT=>?_,fun _ _ _ _ _ _ _ _=>.inl rfl,.inr fun j hj hw=>Fw hw rfl (upd_ne _ _ hj) fun _ _=>rfl,rfl,.refl _⟩
 ·show upd I.tag i _ 0≠_;rw[upd_ne _ _ (Ne.symm hi0)];exact hI.main
 ·show upd I.tag i _ k=_;rw[upd_ne _ _ (by have:I.cnt<=k:=hk;omega)];exact hI.un k hk
 ·obtain rfl:=Ag hp hp';exact hC
 ·obtain rfl:=Cv hc hc';refine⟨(upd_ne _ _ (Ne.symm hi0)).trans hK.tag0,hK.f,hK.bdn,?_,hK.fix,hK.deaf,fun k z e=>?_⟩
  ·obtain⟨s,q⟩:=hK.dn;exact⟨s,by rw[<- m1,tf,m1];exact q⟩
  ·have e':upd I.tag i (.give y) k=.give z:=e;by_cases q:k=i
   ·subst q;rw[upd_same] at e';injection e' with e';subst e';refine⟨hd,?_⟩;obtain⟨ob,g1,g2⟩:=hg;refine⟨ob,?_,?_⟩
    ·show c.good y (if k=k then v else _) ob;rw[if_pos rfl];exact g1
    ·show match (if k=k then B else I.gb k) with|none=>_|some B=>_
     rw[if_pos rfl];exact g2
   ·rw[upd_ne _ _ q] at e';obtain⟨r1,ob,r2,r3⟩:=hK.give k z e';refine⟨r1,ob,?_,?_⟩
    ·show c.good z (if k=i then v else _) ob;rw[if_neg q];exact r2
    ·show match (if k=i then B else I.gb k) with|none=>_|some B=>_
     rw[if_neg q];exact r3
 ·obtain rfl:=Ag hp hp'.1;exact Nat.le_of_eq hv
 ·rw[Hr];refine⟨hT.d.low hT.low (fun _ _=>rfl) rfl rfl fun k l _ hk=>⟨hk.1,fun e=>hk.2.1 (by
   show upd I.tag i _ k=_;rw[upd_ne _ _ (fun q=>by subst q;rw[ht] at e;cases e)];exact e),hk.2.2⟩,hT.deaf,hT.nrel,hT.low,fun p' hp' k hk hk2 hs=>?_,hT.old,fun _ _ q=>noph q,fun _ _ q=>noph q⟩
  have hs':(upd I.tag i (.give y) k).said:=hs;by_cases q:k=i
  ·subst q;rw[upd_same] at hs';exact hs'.elim
  ·rw[upd_ne _ _ q] at hs';exact hT.rel p' hp' k hk hk2 hs'
end
open Go.ConcR (DC0)
abbrev LV (P:Program) (ty:TypeId) (top:Nat) (Post:Value->World->Prop):Nat->Ab->World->Goroutine->Prop:=(Al P ty top Post).Lives
abbrev NX (P:Program) (ty:TypeId) (top:Nat) (Post:Value->World->Prop):Nat->Ab->World->Goroutine->Prop:=(Al P ty top Post).Next (Al P ty top Post).Lives
section
variable {ty:TypeId} {top:Nat} {I I' I2:Ab} {p:Ph} {c:Ir} {w w' w2:World} {i j k n:Nat} {P:Program} {Post:Value->World->Prop} {es:Array Event} {g g':Goroutine}
theorem An (hr:g.status=.running) (ht:I.tag i≠.gone) (h:∀I2 w2,G5 i I w I2 w2->Ae ty top I2 w2->i < I2.cnt->NX P ty top Post i I2 w2 g):LV P ty top Post i I w g :=
 By.Lives.step hr fun I2 w2 hrl hI=>by
  have e:I2.tag i≠.gone:=by rw[hrl.tag];exact ht
  exact⟨fun q=>e q.2,h I2 w2 hrl hI (Nat.lt_of_not_le fun q=>e (hI.un i q))⟩
theorem LV.rely (h:LV P ty top Post i I w g) (hr:G5 i I w I2 w2):LV P ty top Post i I2 w2 g:=By.Lives.rely (Ahz P ty top Post) h hr
theorem Ak (hr:g.status=.running) (ht:I.tag i≠.gone) (hs:∀w,stepG P (i==0) g w=.go g' w #[]) (h:LV P ty top Post i I w g'):LV P ty top Post i I w g :=
 An hr ht fun I2 w2 hrl hI hi=>.go g' w2 #[] I2 (hs w2) (Fj hI hi _) (h.rely hrl)
theorem Ns (hr:g.status=.running) (ht:¬(I.tag i).tied) (h:∀I2 w2,G5 i I w I2 w2->Ae ty top I2 w2->∃g' w' es,stepG P (i==0) g w2=.go g' w' es/\Own (I2.S i) (I2.F i) w2 w' es/\LV P ty top Post i (I2.grown i w') w' g'):LV P ty top Post i I w g :=
 An hr (fun e=>ht (by rw[e];trivial)) fun I2 w2 hrl hI hi=>by
  obtain⟨g',w',es,h1,h2,h3⟩:=h I2 w2 hrl hI;exact .go g' w' es _ h1 (Ya hI hi (by rw[hrl.tag];exact ht) h2 _) h3
structure Ext (i:Nat) (I I':Ab):Prop where
 tag:I'.tag i=I.tag i
 deaf:I'.deaf i=I.deaf i
 gv:I'.gv i=I.gv i/\I'.gb i=I.gb i
 hs:I.hs<=I'.hs
 bk:∀b,b < I.hs->(∀j,j≠i->I.bk b≠.priv j)->I'.bk b=I.bk b
 ph:∀p,I.on i p->I'.ph=some p
 pn:I.ph=none->I.nc i->I'.ph=none
 col:I'.col=I.col
 feed:∀p,I.on i p->p.f=i->I'.next=I.next/\I'.vc p<=I.vc p
 next:∀p,I.on i p->I.next<=I'.next
 done:i=0->I.col≠none->∀x,I'.done x↔I.done x
 stp:∀p,I.on i p->I.stp=true->I'.stp=true
 ml:∀m,I'.sk.ml m i=I.sk.ml m i
theorem Ext.refl (i:Nat) (I:Ab):Ext i I I:=⟨rfl,rfl,⟨rfl,rfl⟩,Nat.le_refl _,fun _ _ _=>rfl,fun _ h=>h.1,fun h _=>h,rfl,fun _ _ _=>⟨rfl,Nat.le_refl _⟩,fun _ _=>Nat.le_refl _,fun _ _ _=>Iff.rfl,fun _ _ h=>h,fun _=>rfl⟩
theorem Ext.trans (h:Ext i I I') (h':Ext i I' I2):Ext i I I2:=by
 refine⟨h'.tag.trans h.tag,h'.deaf.trans h.deaf,⟨h'.gv.1.trans h.gv.1,h'.gv.2.trans h.gv.2⟩,Nat.le_trans h.hs h'.hs,fun b hb hj=>?_,fun p q=>h'.ph p ⟨h.ph p q,q.2⟩,fun q1 q=>h'.pn (h.pn q1 q) (q.keep h.col),h'.col.trans h.col,fun p q e=>?_,fun p q=>Nat.le_trans (h.next p q) (h'.next p ⟨h.ph p q,q.2⟩),fun e q x=>(h'.done e (by rw[h.col];exact q) x).trans (h.done e q x),fun p q e=>h'.stp p ⟨h.ph p q,q.2⟩ (h.stp p q e),fun m=>(h'.ml m).trans (h.ml m)⟩
 ·have e1:=h.bk b hb hj;exact(h'.bk b (Nat.lt_of_lt_of_le hb h.hs) fun j hj'=>by rw[e1];exact hj j hj').trans e1
 ·obtain⟨q1,q2⟩:=h.feed p q e;obtain⟨q3,q4⟩:=h'.feed p ⟨h.ph p q,q.2⟩ e;exact⟨q3.trans q1,Nat.le_trans q4 q2⟩
theorem G5.ext (h:G5 i I w I2 w2) (ht:I.tag i≠.gone):Ext i I I2:=let l:=h.live ht;⟨h.tag,h.deaf,h.gv,l.hs,l.bk,l.ph,l.pn,l.col,l.feed,l.next,l.done,l.stp,l.ml⟩
theorem Akn (hs:I.hs=w.heap.size) (hsz:w.heap.size<=w'.heap.size):Ext i I (I.grown i w') :=
 ⟨rfl,rfl,⟨rfl,rfl⟩,by show I.hs<=w'.heap.size;omega,fun b hb _=>Ce hb,fun _ h=>h.1,fun h _=>h,rfl,fun _ _ _=>⟨rfl,Nat.le_refl _⟩,fun _ _=>Nat.le_refl _,fun _ _ _=>Iff.rfl,fun _ _ h=>h,fun _=>rfl⟩
theorem G5.S (h:G5 i I w I2 w2) (ht:I.tag i≠.gone):I2.S i=I.S i:=by
 have l:=h.live ht
 funext b
 apply propext;constructor
 ·rintro⟨h1,h2⟩;exact l.bk2 b h1 h2
 ·rintro⟨h1,h2⟩;refine⟨Nat.lt_of_lt_of_le h1 l.hs,(l.bk b h1 fun j hj e=>?_).trans h2⟩;rw[h2] at e;injection e with e;exact hj e.symm
theorem G5.rely {F:Nat->Prop} (h:G5 i I w I2 w2) (ht:I.tag i≠.gone) (hI:Ae ty top I2 w2) (hs:I.hs=w.heap.size) (hF:∀b,F b->I.F i b):Aer (I.S i) F w w2:=by
 have l:=h.live ht;refine⟨by have:=l.hs;have:=hI.hs;omega,l.tape,fun b hb=>?_⟩;rcases hb with⟨h1,h2⟩|hb
 ·exact l.keep b h1 (.inl h2)
 ·exact l.keep b (hF b hb).1 (.inr (hF b hb).2)
theorem Gj.F (l:Gj i I w I2 w2) {b:Nat} (h:I.F i b):I2.F i b:=by
 obtain⟨h1,m,h2,h3⟩:=h;exact⟨Nat.lt_of_lt_of_le h1 l.hs,m,h2,(l.bk b h1 fun j _ e=>by rw[h3] at e;cases e).trans h3⟩
theorem Own.mono {S F F':Nat->Prop} (h:Own S F w w' es) (hF:∀b,F b->F' b):Own S F' w w' es:=by
 refine⟨h.size,h.tape,h.os,h.output,h.old,fun e he=>?_⟩;rcases h.ev e he with⟨ad,h1,h2,h3⟩|q|⟨r,h1,h2,h3⟩
 ·exact .inl ⟨ad,h1,h2,h3.imp id fun q=>⟨hF _ q.1,q.2⟩⟩
 ·exact .inr (.inl q)
 ·exact .inr (.inr ⟨r,h1,h2.imp id (hF _),h3⟩)
theorem Ss {F:Nat->Prop} {K:(Nat->Prop)->Goroutine->World->Prop} {S:Nat->Prop} (h:Way P (i==0) F K S g w):∀I,S=I.S i->I.hs=w.heap.size->(∀b,F b->I.F i b)->¬(I.tag i).tied ->
  (∀S' g' w' I',Ext i I I'->I'.S i=S'->I'.hs=w'.heap.size->K S' g' w'->LV P ty top Post i I' w' g')->LV P ty top Post i I w g:=by
 induction h with
 | stop h=>intro I hS hs _ _ hK;exact hK _ _ _ I (.refl _ _) hS.symm hs h
 | @step S g w hg h k ih =>
  intro I hS hs hF ht hK;subst hS;have zi:I.tag i≠.gone:=fun e=>ht (by rw[e];trivial);refine Ns hg ht fun I2 w2 hrl hI=>?_;have uu:=hrl.rely zi hI hs hF;have hF2:∀b,F b->I2.F i b:=fun b hb=>(hrl.live zi).F (hF b hb);obtain⟨g1,w3,es,h1,h2⟩:=h w2 uu;refine⟨g1,w3,es,h1,by rw[hrl.S zi];exact h2.mono hF2,?_⟩;have hS2:Fr (I.S i) w2 w3=(I2.grown i w3).S i:=by rw[<- hrl.S zi];exact O0 hI.hs h2.size
  have hx:Ext i I (I2.grown i w3):=(hrl.ext zi).trans (Akn hI.hs h2.size);refine ih w2 g1 w3 es uu h1 (I2.grown i w3) hS2 rfl (fun b hb=>?_) (by rw[hx.tag];exact ht) fun S' g' w' I' hx'=>hK S' g' w' I' (hx.trans hx');obtain⟨q1,m,q2,q3⟩:=hF2 b hb;exact⟨by show b < w3.heap.size;have:=h2.size;have:=hI.hs;omega,m,q2,(Ce q1).trans q3⟩
theorem Dd {s:GStep} {K:Goroutine->World->Array Event->Prop} (h:s.goes K):∃g w es,s=.go g w es/\K g w es:=by
 cases s<;>first|exact⟨_,_,_,rfl,h⟩|exact h.elim
theorem Cy {Stop:Goroutine->World->Prop} {n:Nat}:∀ {g w I},Goes P (i==0) (Rl ty p.wg) DC0 Stop n g w->I.on i p->I.tag i≠.gone->Ae ty top I w ->
  (∀I2 w2 g',G5 i I w I2 w2->Ae ty top I2 w2->i < I2.cnt->Stop g' w2->g'.status=.running/\NX P ty top Post i I2 w2 g')->LV P ty top Post i I w g:=by
 have live:∀ {I w},Ae ty top I w->I.ph=some p->WgLive ty p.wg w:=fun hI hp=>let ⟨st,sm,h,_⟩:=(hI.core _ hp).wgm;⟨st,sm,h⟩;have lt:∀ {I w},Ae ty top I w->I.tag i≠.gone->i < I.cnt:=fun hI ht=>Nat.lt_of_not_le fun q=>ht (hI.un i q)
 induction n with
 | zero =>
  intro g w I h hp ht hI hS;refine An (hS I w g (.refl _ _ _) hI (lt hI ht) (h w fun x=>x)).1 ht fun I2 w2 hrl bi hi=>(hS I2 w2 g hrl bi hi (h w2 fun _=>live bi ((hrl.live ht).ph _ hp))).2
 | succ n ih =>
  intro g w I h hp ht hI hS;rcases h with h|⟨hg,h⟩
  ·refine An (hS I w g (.refl _ _ _) hI (lt hI ht) (h w fun x=>x)).1 ht fun I2 w2 hrl bi hi=>(hS I2 w2 g hrl bi hi (h w2 fun _=>live bi ((hrl.live ht).ph _ hp))).2
  ·refine An hg ht fun I2 w2 hrl bi hi=>?_;have hp2:=(hrl.live ht).ph _ hp;have:=h w2 fun _=>live bi hp2;obtain⟨g',w',es,hst,⟨e1,e2⟩,hG⟩:=Dd this;subst e1;subst e2;exact .go g' _ #[] I2 hst (Fj bi hi _) (ih hG ⟨hp2,hp.2⟩ (by rw[hrl.tag];exact ht) bi fun I3 w3 g3 hr3=>hS I3 w3 g3 (hrl.trans hr3))
theorem Mw {Stop:Goroutine->World->Prop} {n:Nat}:∀ {g w I},Goes P (i==0) (Rl ty p.wg) DC0 Stop n g w->I.on i p->I.tag i≠.gone->Ae ty top I w ->
  (∀I2 w2 g',G5 i I w I2 w2->Ae ty top I2 w2->Stop g' w2->LV P ty top Post i I2 w2 g')->LV P ty top Post i I w g:=by
 have live:∀ {I w},Ae ty top I w->I.ph=some p->WgLive ty p.wg w:=fun hI hp=>let ⟨st,sm,h,_⟩:=(hI.core _ hp).wgm;⟨st,sm,h⟩
 induction n with
 | zero=>exact fun {g w I} h hp ht hI hS=>hS I w g (.refl _ _ _) hI (h w fun x=>x)
 | succ n ih =>
  intro g w I h hp ht hI hS;rcases h with h|⟨hg,h⟩
  ·exact hS I w g (.refl _ _ _) hI (h w fun x=>x)
  ·refine An hg ht fun I2 w2 hrl bi hi=>?_;have hp2:=(hrl.live ht).ph _ hp;have:=h w2 fun _=>live bi hp2;obtain⟨g',w',es,hst,⟨e1,e2⟩,hG⟩:=Dd this;subst e1;subst e2;exact .go g' _ #[] I2 hst (Fj bi hi _) (ih hG ⟨hp2,hp.2⟩ (by rw[hrl.tag];exact ht) bi fun I3 w3 g3 hr3=>hS I3 w3 g3 (hrl.trans hr3))
end
open Go.Conc.Lib Go.ConcR.Gen
section
variable {ty:TypeId} {top:Nat} {I I' I2:Ab} {p:Ph} {c:Ir} {w w' w2:World} {i j k n:Nat} {P:Program} {Post:Value->World->Prop} {es:Array Event} {g g':Goroutine}
theorem Dq (hp:I.ph=some p):I.on p.f p:=⟨hp,by
 by_cases h:p.f=0
 ·exact .inr h
 ·exact .inl h⟩
theorem Aq0 (hI:Ae ty top I w) (hp:I.ph=some p) (e:Aep I I') (hv:Et I'.tag p<=Et I.tag p) (ht:w'.tape=w.tape) (hh:∀b,b≠p.wg->w'.heap[b]?=w.heap[b]?):Gj i I w I' w':=by
 have hC:=hI.core _ hp;have e1:I'.bk=I.bk:=by rw[e]
 have e3:I'.hs=I.hs:=by rw[e]
 have e5:I'.ph=I.ph:=by rw[e]
 have noph:∀ {q:Prop},I.ph=none->q:=fun q=>by rw[hp] at q;cases q
 refine⟨by rw[e3];exact Nat.le_refl _,fun _ _ _=>by rw[e1],fun b h1 h2=>by rw[e3] at h1;rw[e1] at h2;exact⟨h1,h2⟩,fun b hb e=>hh b fun q=>?_,ht,fun _ q=>e5.trans q.1,fun q=>noph q,by rw[e],fun p' hp' _=>⟨by rw[e],?_⟩,fun _ _ q=>noph q,fun _ _ _ _ q=>noph q,(fun _ _=>by rw[e];exact Nat.le_refl _),(fun _ _ x=>by rw[e]),(fun _ _ q=>by rw[e];exact q),(fun _=>by rw[e]),fun p' hp' hk=>.of (c1:=by rw[e]) (by rw[e]) fun _=>by
  obtain rfl:=Ag hp hp'.1;simp only[World.cell?,hh p.out (fun r=>by have:=(hC.seek hk).bout;rw[r,hC.bwg] at this;cases this)]⟩
 ·subst q;rw[hC.bwg] at e;rcases e with e|⟨m,_,e⟩<;>cases e
 ·obtain rfl:=Ag hp hp'.1;exact hv
theorem Dw (I:Ab) (i:Nat) (x:B6):(I.setTag i x).tag i=x:=upd_same _ _ _
theorem Lm (I:Ab) (i d:Nat):(I.setDeaf i d).deaf i=d:=upd_same _ _ _
theorem Nl (I:Ab) (w:World) (k d:Nat):Gj i I w (I.setDeaf k d) w:=⟨Nat.le_refl _,fun _ _ _=>rfl,fun _ h1 h2=>⟨h1,h2⟩,fun _ _ _=>rfl,rfl,fun _ h=>h.1,fun h _=>h,rfl,fun _ _ _=>⟨rfl,Nat.le_refl _⟩,fun _ _ _=>⟨rfl,rfl,rfl⟩,fun _ _ _ _ _=>⟨fun _ _ _=>rfl,rfl⟩,fun _ _=>Nat.le_refl _,fun _ _ _=>Iff.rfl,fun _ _ h=>h,fun _=>rfl,fun _ _ _=>.of (c1:=rfl) rfl fun _=>rfl⟩
theorem Py (hI:Ae ty top I w) (hp:I.ph=some p) (x:B6) (ht:w'.tape=w.tape) (hh:∀b,b≠p.wg->w'.heap[b]?=w.heap[b]?):Gj i I w (I.setTag p.f x) w':=by
 refine Aq0 hI hp (.set _ _ _) ?_ ht hh;show Et (upd I.tag p.f x) p<=_;rw[Mk _ (hI.core _ hp).fd];exact Nat.le_refl _
section
variable {L:WgLink} {b₀:Frame} {a₀:Act} {ops₀:Array Oper} {i₀:Nat} {rest₀:List Nat} {k₀:List Item} {cs:List Frame}
abbrev Abw (b₀:Frame) (a₀:Act) (ops₀:Array Oper) (i₀:Nat) (rest₀:List Nat) (k₀:List Item) (cs:List Frame):Goroutine:=G (b₀.at (a₀.put ((ops₀[i₀]?).bind (·.dst)) (.tuple #[])) (.inRegion ops₀ rest₀::k₀)) cs
theorem Vq (d:Nat):deafBehind d #[mk .disable]=d+1:=rfl
theorem Yb (d:Nat):deafBehind (d+1) #[mk .enable]=d:=rfl
theorem Ei {I:Ab} {i j q:Nat} (h:I.tag i=.add j q):I.tag i≠.gone/\I.tag i≠.idle/\I.tag i≠.feed/\I.tag i≠.coll/\∀x,I.tag i≠.give x:=by rw[h];simp
theorem H7 {m:Mark} (h:m=.disable\/m=.enable):∀e∈#[mk m],Event.mute e=true:=fun e he=>by
 simp only[List.mem_toArray,List.mem_singleton] at he;subst he;rcases h with rfl|rfl<;>rfl
theorem Att (a b:Value):#[a,b]++Array.replicate 115 undef=#[a,b,undef,undef,undef,undef,undef,undef,undef,undef,undef,undef,undef,undef,undef,undef,undef,undef,undef,undef,undef,undef,undef,undef,undef,undef,undef,undef,undef,undef,undef,undef,undef,undef,undef,undef,undef,undef,undef,undef,undef,undef,undef,undef,undef,undef,undef,undef,undef,undef,undef,undef,undef,undef,undef,undef,undef,undef,undef,undef,undef,undef,undef,undef,undef,undef,undef,undef,undef,undef,undef,undef,undef,undef,undef,undef,undef,undef,undef,undef,undef,undef,undef,undef,undef,undef,undef,undef,undef,undef,undef,undef,undef,undef,undef,undef,undef,undef,undef,undef,undef,undef,undef,undef,undef,undef,undef,undef,undef,undef,undef,undef,undef,undef,undef,undef,undef]:=by kernel_rfl
theorem Akk (H:WgLib P L) (hp:I.ph=some p) (ht:I.tag p.f=.add j 0) (hj:j < p.W) (hd:I.deaf p.f=0) (hI:Ae L.tWg top I w)
  (hK:∀I' w',Gj p.f I w I' w'->I'.tag p.f=.add j 1->I'.deaf p.f=0->Ae L.tWg top I' w'->LV P L.tWg top Post p.f I' w' (Abw b₀ a₀ ops₀ i₀ rest₀ k₀ cs)) :
  LV P L.tWg top Post p.f I w (G ((base L.add).at ⟨#[.pointer (some ⟨p.wg,0,none⟩),.int .i64 1]++Array.replicate 115 undef,[]⟩ [.code (body_add L)]) (b₀.at a₀ (.inRegion ops₀ (i₀::rest₀)::k₀)::cs)):=by
 have xe:WgLive L.tWg p.wg w:=let ⟨st,sm,h,_⟩:=(hI.core _ hp).wgm;⟨st,sm,h⟩;have hsmall:=(hI.core _ hp).small;have fin:∀I3 w3 g3,Gj p.f I w I3 w3->I3.tag p.f=.add j 1->I3.deaf p.f=1->Ae L.tWg top I3 w3->GM P (p.f==0) L.tWg p.wg (Gx P (p.f==0) .enable (GM P (p.f==0) L.tWg p.wg fun g _=>g=Abw b₀ a₀ ops₀ i₀ rest₀ k₀ cs)) g3 w3->LV P L.tWg top Post p.f I3 w3 g3:=by
  intro I3 w3 g3 hr3 bg hd3 bq ⟨n3,y9⟩;refine Cy (p:=p) y9 (Dq (hr3.ph _ (Dq hp))) (Ei bg).1 bq fun I4 w4 g4 hr4 wz hi4 ⟨hrun,g5,hst,n5,hG5⟩=>⟨hrun,?_⟩;have di:I4.tag p.f=.add j 1:=hr4.tag.trans bg;have lu:I4.deaf p.f=0+1:=hr4.deaf.trans hd3;have aj:=Kc (P:=P) (Post:=Post) wz hi4 (H7 (.inr rfl)) (.inr (Ei di).2) (mayWake P g4=true);rw[lu,Yb] at aj;have iq:=((hr3.trans (hr4.live (Ei bg).1)).trans (Nl I4 w4 p.f 0));refine .go g5 w4 _ _ hst aj (Mw (p:=p) hG5 (Dq (iq.ph _ (Dq hp))) (Ei (show (I4.setDeaf p.f 0).tag p.f=_ from di)).1 aj.inv fun I6 w6 g6 qs wy e6=>?_);rw[e6];exact hK I6 w6 (iq.trans (qs.live (Ei (show (I4.setDeaf p.f 0).tag p.f=_ from di)).1)) (qs.tag.trans di) (qs.deaf.trans (upd_same _ _ _)) wy
 have go:∀(v:Nat) (Nx:Goroutine->World->Prop),v=j->(∀I3 w3 g3,Gj p.f I w I3 w3->I3.tag p.f=.add j 1->I3.deaf p.f=1->Ae L.tWg top I3 w3->Nx g3 w3->LV P L.tWg top Post p.f I3 w3 g3)->∀g,GM P (p.f==0) L.tWg p.wg (Gx P (p.f==0) .disable (GM P (p.f==0) L.tWg p.wg (Ap6 P (p.f==0) L.tWg p.wg v Nx))) g w->LV P L.tWg top Post p.f I w g:=by
  intro v Nx ev hN g ⟨n1,rb⟩;subst ev;refine Cy (p:=p) rb (Dq hp) (Ei ht).1 hI fun I1 w1 g1 hr1 ia hi1 ⟨hrun,g2,hst,n2,ue⟩=>⟨hrun,?_⟩;have ht1:I1.tag p.f=.add v 0:=hr1.tag.trans ht;have hd1:I1.deaf p.f=0:=hr1.deaf.trans hd;have aj:=Kc (P:=P) (Post:=Post) ia hi1 (H7 (.inl rfl)) (.inr (Ei ht1).2) (mayWake P g1=true);rw[hd1,Vq] at aj;have hr2:=(hr1.live (Ei ht).1).trans (Nl I1 w1 p.f 1);have ht2:(I1.setDeaf p.f 1).tag p.f=.add v 0:=ht1;refine .go g2 w1 _ _ hst aj (Cy (p:=p) ue (Dq (hr2.ph _ (Dq hp))) (Ei ht2).1 aj.inv fun I3 w3 g3 hr3 bq hi3 ⟨ei,h3⟩=>⟨ei,?_⟩);have dt:=hr2.trans (hr3.live (Ei ht2).1);have ax:=dt.ph _ (Dq hp);obtain⟨qr,dh⟩:=Aub (P:=P) (Post:=Post) bq ax (hr3.tag.trans ht2) hj (mayWake P g3=true);obtain⟨g4,fh,hN4⟩:=h3 qr;refine .go g4 _ _ _ fh dh (hN _ _ g4 (dt.trans (Py bq ax _ rfl fun b hb=>Bh _ _ _ hb)) (upd_same _ _ _) ?_ dh.inv hN4);show I3.deaf p.f=1;exact hr3.deaf.trans (Lm _ _ _)
 rw[Att];rcases Nat.eq_zero_or_pos j with rfl|lh
 ·refine go 0 _ rfl (fun I3 w3 g3 hr3 bg hd3 bq ⟨n3,y9⟩=>?_) _ (Ald (main:=p.f==0) (Next:=fun g _=>g=Abw b₀ a₀ ops₀ i₀ rest₀ k₀ cs) H (fun _ _=>rfl) w xe);refine Cy (p:=p) y9 (Dq (hr3.ph _ (Dq hp))) (Ei bg).1 bq fun I4 w4 g4 hr4 wz hi4 ⟨hrun,g5,hst,hG5⟩=>⟨hrun,?_⟩;have hr4':=hr3.trans (hr4.live (Ei bg).1);have aj:=M6 (P:=P) (Post:=Post) (es:=#[mk (.read (smA p.wg))]) wz (hr4'.ph _ (Dq hp)) (fun e he=>by
   simp only[List.mem_toArray,List.mem_singleton] at he;exact .inr ⟨_,rfl,.inl he⟩) (mayWake P g4=true)
  exact .go g5 w4 _ _ hst aj (fin I4 w4 g5 hr4' (hr4.tag.trans bg) (hr4.deaf.trans hd3) wz hG5)
 ·exact go j _ rfl fin _ (Apo (main:=p.f==0) (Next:=fun g _=>g=Abw b₀ a₀ ops₀ i₀ rest₀ k₀ cs) H lh (by omega) (fun _ _=>rfl) w xe)
theorem Bp {I:Ab} {i:Nat} (h:I.tag i=.shut\/I.tag i=.reg\/I.tag i=.thru):I.tag i≠.gone/\I.tag i≠.idle/\I.tag i≠.feed/\I.tag i≠.coll/\∀x,I.tag i≠.give x:=by rcases h with h|h|h<;>(rw[h];simp)
theorem Yw {Stop:Goroutine->World->Prop} {n wg:Nat}:∀ {g w I},Goes P (i==0) (Rl ty wg) DC0 Stop n g w->I.tag i≠.gone->(∀I2 w2,G5 i I w I2 w2->WgLive ty wg w2) ->
  (∀I2 w2 g',G5 i I w I2 w2->Stop g' w2->LV P ty top Post i I2 w2 g')->LV P ty top Post i I w g:=by
 induction n with
 | zero=>exact fun {g w I} h ht hw hS=>hS I w g (.refl _ _ _) (h w fun x=>x)
 | succ n ih =>
  intro g w I h ht hw hS;rcases h with h|⟨hg,h⟩
  ·exact hS I w g (.refl _ _ _) (h w fun x=>x)
  ·refine An hg ht fun I2 w2 hrl bi hi=>?_;have:=h w2 fun _=>hw I2 w2 hrl;obtain⟨g',w',es,hst,⟨e1,e2⟩,hG⟩:=Dd this;subst e1;subst e2;exact .go g' _ #[] I2 hst (Fj bi hi _) (ih hG (by rw[hrl.tag];exact ht) (fun I3 w3 hr3=>hw I3 w3 (hrl.trans hr3)) fun I3 w3 g3 hr3=>hS I3 w3 g3 (hrl.trans hr3))
def Ab.past (I:Ab) (p:Ph):Ab:=if p.f=0 then I.over else I.rest p.f
theorem Asa (hI:Ae ty top I w) (hp:I.ph=some p) (ht:I.tag p.f=.thru) (hd:I.deaf p.f=0) (wk:Prop):(Al P ty top Post).Do p.f I w (I.past p) w wk #[mk (.acquire (stA p.wg))]:=by
 unfold Ab.past;by_cases hf:p.f=0
 ·rw[if_pos hf];rw[hf] at ht hd;have:=Asb (P:=P) (Post:=Post) hI hp hf ht hd wk;rw[hf];exact this
 ·rw[if_neg hf];cases hc:I.col with
  | none=>exact absurd (hI.alone p hp hc).1 hf
  | some c=>exact Ar8 hI hp hc ht hd wk
theorem Aq5 (hI:Ae ty top I w) (hp:I.ph=some p) (hr:G5 p.f (I.past p) w I2 w2):WgLive ty p.wg w2:=by
 have hC:=hI.core _ hp;obtain⟨st,sm,q,_⟩:=hC.wgm;refine⟨st,sm,q.of_block ?_⟩;unfold Ab.past at hr;by_cases hf:p.f=0
 ·rw[if_pos hf,hf] at hr;have tz:I.over.tag 0=.solo:=by show upd I.tag 0 B6.solo 0=_;exact upd_same _ _ _
  cases hc:I.col with
  | none=>rw[((hr.live (by rw[tz];simp)).still rfl hc rfl).1]
  | some c=>have:=(hI.mate p c hp hc).1;have:=(hI.coll c hc).f.1;omega
 ·rw[if_neg hf] at hr;have tz:(I.rest p.f).tag p.f=.fin:=by show upd I.tag p.f B6.fin p.f=_;exact upd_same _ _ _
  cases hc:I.col with
  | none=>exact absurd (hI.alone p hp hc).1 hf
  | some c=>exact((hr.live (by rw[tz];simp)).pre hf c hc (hI.mate p c hp hc).1.symm rfl).1 _ (hC.lts hI.hs).1 hC.bwg
theorem Adb (I:Ab) (p:Ph):(I.past p).tag p.f≠.gone:=by
 unfold Ab.past;split
 ·rename_i hf;have tz:I.over.tag 0=.solo:=by show upd I.tag 0 B6.solo 0=_;exact upd_same _ _ _
  rw[hf,tz];simp
 ·have tz:(I.rest p.f).tag p.f=.fin:=by show upd I.tag p.f B6.fin p.f=_;exact upd_same _ _ _
  rw[tz];simp
theorem Rq (hp:I.ph=some p) (ht:I.tag p.f=.thru) (hd:I.deaf p.f=1) (hI:Ae ty top I w) (h:Ag6 P (p.f==0) ty p.wg (fun g _=>g=Abw b₀ a₀ ops₀ i₀ rest₀ k₀ cs) g w)
  (hK:∀I' w',Gj p.f I w I' w'->I'.ph=some p->I'.tag p.f=.thru->I'.deaf p.f=0->Ae ty top I' w'->∀I2 w2,G5 p.f (I'.past p) w' I2 w2->LV P ty top Post p.f I2 w2 (Abw b₀ a₀ ops₀ i₀ rest₀ k₀ cs)):LV P ty top Post p.f I w g:=by
 obtain⟨n1,rb⟩:=h;refine Cy (i:=p.f) (p:=p) rb (Dq hp) (Bp (.inr (.inr ht))).1 hI fun I1 w1 g1 hr1 ia hi1 ⟨hrun,g2,hst,n2,ue⟩=>⟨hrun,?_⟩;have ht1:I1.tag p.f=.thru:=hr1.tag.trans ht;have hd1:I1.deaf p.f=0+1:=hr1.deaf.trans hd;have ir:=hr1.live (Bp (.inr (.inr ht))).1;have aj:=Kc (P:=P) (Post:=Post) ia hi1 (H7 (.inr rfl)) (.inr (Bp (.inr (.inr ht1))).2) (mayWake P g1=true);rw[hd1,Yb] at aj;have hr2:=ir.trans (Nl I1 w1 p.f 0);have ht2:(I1.setDeaf p.f 0).tag p.f=.thru:=ht1;refine .go g2 w1 _ _ hst aj (Cy (i:=p.f) (p:=p) ue (Dq (hr2.ph _ (Dq hp))) (Bp (.inr (.inr ht2))).1 aj.inv fun I3 w3 g3 hr3 bq hi3 ⟨ei,g4,fh,n4,xb⟩=>⟨ei,?_⟩);have dt:=hr2.trans (hr3.live (Bp (.inr (.inr ht2))).1);have ax:=dt.ph _ (Dq hp);have bg:I3.tag p.f=.thru:=hr3.tag.trans ht2;have hd3:I3.deaf p.f=0:=hr3.deaf.trans (Lm _ _ _);have dh:=Asa (P:=P) (Post:=Post) bq ax bg hd3 (mayWake P g3=true);refine .go g4 w3 _ _ fh dh (Yw xb (Adb _ _) (fun I5 w5 iq=>Aq5 bq ax iq) fun I5 w5 g5 iq e5=>?_);rw[e5];exact hK I3 w3 dt ax bg hd3 bq I5 w5 iq
theorem Agg (H:WgLib P L) (N:Nat):∀ {I w g},I.ph=some p->I.tag p.f=.shut->I.deaf p.f=1->I.vc p<=N->Ae L.tWg top I w->Aha L p.wg (b₀.at a₀ (.inRegion ops₀ (i₀::rest₀)::k₀)) cs g w ->
  (∀I' w',Gj p.f I w I' w'->I'.ph=some p->I'.tag p.f=.thru->I'.deaf p.f=0->Ae L.tWg top I' w'->∀I2 w2,G5 p.f (I'.past p) w' I2 w2->LV P L.tWg top Post p.f I2 w2 (Abw b₀ a₀ ops₀ i₀ rest₀ k₀ cs))->LV P L.tWg top Post p.f I w g:=by
 induction N using Nat.strongRecOn with
 | _ N ih =>
 intro I w g hp ht hd hv hI hA hK;obtain⟨n1,rb⟩:=Ae2 (main:=p.f==0) (Next:=fun g _=>g=Abw b₀ a₀ ops₀ i₀ rest₀ k₀ cs) H (fun _ _=>rfl) g w hA;refine Cy (i:=p.f) (p:=p) rb (Dq hp) (Bp (.inl ht)).1 hI fun I1 w1 g1 hr1 ia hi1 ⟨hrun,h1⟩=>⟨hrun,?_⟩;have ht1:I1.tag p.f=.shut:=hr1.tag.trans ht;have hd1:I1.deaf p.f=1:=hr1.deaf.trans hd;have ir:=hr1.live (Bp (.inl ht)).1;have hp1:=ir.ph _ (Dq hp);have hC1:=ia.core _ hp1;have ht1f:I1.tag p.f=.shut:=ht1;have hvW:Et I1.tag p < 2147483648:=by
  have:=Go.ConcN.sumTo_le (f:=fun j=>(I1.tag (p.b+j)).cw) (c:=1) (j:=p.W) fun k _=>by cases (I1.tag (p.b+k))<;>simp[B6.cw]
  have:=hC1.small;unfold Et;omega
 have hv1:Et I1.tag p<=N:=Nat.le_trans ((ir.feed p (Dq hp) rfl).2) hv;obtain⟨g2,rp,hz,hnz⟩:=h1 _ hvW (hC1.nolast ht1f).1;by_cases hv0:Et I1.tag p=0
 ·have aj:=Ar7 (P:=P) (Post:=Post) ia hp1 ht1f hv0 (mayWake P g1=true);have hr2:Gj p.f I w (I1.setTag p.f .thru) w1:=ir.trans (Py (i:=p.f) ia hp1 .thru (w':=w1) rfl fun _ _=>rfl);exact .go g2 w1 _ _ rp aj (Rq (hr2.ph _ (Dq hp)) (Dw _ _ _) hd1 aj.inv (hz hv0) fun I' w' hr'=>hK I' w' (hr2.trans hr'))
 ·have aj:=M6 (P:=P) (Post:=Post) (es:=#[rd (stA p.wg)]) ia hp1 (fun e he=>by
   simp only[List.mem_toArray,List.mem_singleton] at he;exact .inl ⟨_,_,he,rfl⟩) (mayWake P g1=true)
  obtain⟨n3,y9⟩:=hnz hv0;refine .go g2 w1 _ _ rp aj (Cy (i:=p.f) (p:=p) y9 (Dq hp1) (Bp (.inl ht1)).1 ia fun I3 w3 g3 hr3 bq hi3 ⟨ei,h3⟩=>⟨ei,?_⟩);have bg:I3.tag p.f=.shut:=hr3.tag.trans ht1;have hd3:I3.deaf p.f=1:=hr3.deaf.trans hd1;have dt:=ir.trans (hr3.live (Bp (.inl ht1)).1);have ax:=dt.ph _ (Dq hp);have hC3:=bq.core _ ax;have ht3f:I3.tag p.f=.shut:=bg;have hv3:Et I3.tag p<=Et I1.tag p:=((hr3.live (Bp (.inl ht1)).1).feed p (Dq hp1) rfl).2;obtain⟨hhit,ot⟩:=h3 _ (Nat.lt_of_le_of_lt hv3 hvW) (hC3.nolast ht3f).1;by_cases e:Et I3.tag p=Et I1.tag p
  ·obtain⟨g4,fh,n4,xb⟩:=hhit e;have dh:=At9 (P:=P) (Post:=Post) bq ax ht3f (by omega) (mayWake P g3=true);have hr4:Gj p.f I w (I3.setTag p.f .reg) (w3.setCell (stA p.wg) (.int .u64 (((Et I3.tag p:Nat):Int) * KK+1))):=dt.trans (Py (i:=p.f) bq ax .reg (w':=w3.setCell (stA p.wg) (.int .u64 (((Et I3.tag p:Nat):Int) * KK+1))) rfl fun b hb=>Bh _ _ _ hb);have di:(I3.setTag p.f .reg).tag p.f=.reg:=Dw _ _ _;refine .go g4 _ _ _ fh dh (Cy (i:=p.f) (p:=p) xb (Dq (hr4.ph _ (Dq hp))) (Bp (.inr (.inl di))).1 dh.inv fun I5 w5 g5 iq qo hi5 ⟨nv,g6,nj,n6,hG6⟩=>⟨nv,?_⟩);have ij:I5.tag p.f=.reg:=iq.tag.trans di;have n9:=hr4.trans (iq.live (Bp (.inr (.inl di))).1);have ko:=n9.ph _ (Dq hp);have qc:I5.deaf p.f=1:=iq.deaf.trans hd3;have kg:=M6 (P:=P) (Post:=Post) (es:=#[mk (.write (smA p.wg))]) qo ko (fun e he=>by
    simp only[List.mem_toArray,List.mem_singleton] at he;exact .inr ⟨_,rfl,.inr he⟩) (mayWake P g5=true)
   refine .go g6 w5 _ _ nj kg (Cy (i:=p.f) (p:=p) hG6 (Dq ko) (Bp (.inr (.inl ij))).1 qo fun I7 w7 g7 uv y8 hi7 ⟨nu,hoff,hwt,hgo⟩=>⟨nu,?_⟩);have jp:I7.tag p.f=.reg:=uv.tag.trans ij;have hr7':=n9.trans (uv.live (Bp (.inr (.inl ij))).1);have mq:=hr7'.ph _ (Dq hp);have lq:I7.deaf p.f=1:=uv.deaf.trans qc;rcases Aja y8 mq jp with⟨q1,q2⟩|q
   ·exact .wait (hwt q2) hoff q1
   ·obtain⟨g8,rh,n8,hG8⟩:=hgo q;have qp:=Agr (P:=P) (Post:=Post) y8 mq jp q (mayWake P g7=true);have se:Gj p.f I w (I7.setTag p.f .thru) (w7.setCell (smA p.wg) (.int .u32 0)):=hr7'.trans (Py (i:=p.f) y8 mq .thru (w':=w7.setCell (smA p.wg) (.int .u32 0)) rfl fun b hb=>Bh _ _ _ hb);have ht8:(I7.setTag p.f .thru).tag p.f=.thru:=Dw _ _ _;refine .go g8 _ _ _ rh qp (Cy (i:=p.f) (p:=p) hG8 (Dq (se.ph _ (Dq hp))) (Bp (.inr (.inr ht8))).1 qp.inv fun I9 w9 g9 zh zo zj ⟨nt,h9⟩=>⟨nt,?_⟩);have ht9:I9.tag p.f=.thru:=zh.tag.trans ht8;have hr9':=se.trans (zh.live (Bp (.inr (.inr ht8))).1);have hp9:=hr9'.ph _ (Dq hp);have hd9:I9.deaf p.f=1:=zh.deaf.trans lq;have hw9:WgAt L.tWg p.wg w9 0 0:=by
     obtain⟨st,sm,m1,m2⟩:=(zo.core _ hp9).wgm;cases m2 with
     | opn m3=>rw[ht9] at m3;exact m3.elim
     | reg m3=>rw[ht9] at m3;cases m3
     | last _ _ m3=>rw[ht9] at m3;cases m3
     | sema m3=>rw[ht9] at m3;cases m3
     | fin=>exact m1
    obtain⟨g10,kj,hW10⟩:=h9 hw9;have uf:=M6 (P:=P) (Post:=Post) (es:=#[rd (stA p.wg)]) zo hp9 (fun e he=>by
     simp only[List.mem_toArray,List.mem_singleton] at he;exact .inl ⟨_,_,he,rfl⟩) (mayWake P g9=true)
    exact .go g10 w9 _ _ kj uf (Rq hp9 ht9 hd9 zo hW10 fun I' w' hr'=>hK I' w' (hr9'.trans hr'))
  ·obtain⟨g4,fh,n4,xb⟩:=ot e;have dh:=M6 (P:=P) (Post:=Post) (es:=#[rd (stA p.wg)]) bq ax (fun e he=>by
    simp only[List.mem_toArray,List.mem_singleton] at he;exact .inl ⟨_,_,he,rfl⟩) (mayWake P g3=true)
   refine .go g4 w3 _ _ fh dh (Mw (i:=p.f) (p:=p) xb (Dq ax) (Bp (.inl bg)).1 bq fun I5 w5 g5 iq qo ug=>?_);have n9:=dt.trans (iq.live (Bp (.inl bg)).1);have hv5:I5.vc p<=I3.vc p:=((iq.live (Bp (.inl bg)).1).feed p (Dq ax) rfl).2;have hv5':I5.vc p<=Et I3.tag p:=hv5;exact ih (I5.vc p) (by omega) (n9.ph _ (Dq hp)) (iq.tag.trans bg) (iq.deaf.trans hd3) (Nat.le_refl _) qo ug fun I' w' hr'=>hK I' w' (n9.trans hr')
theorem Af2 (H:WgLib P L) (hp:I.ph=some p) (ht:I.tag p.f=.shut) (hd:I.deaf p.f=0) (hI:Ae L.tWg top I w)
  (hK:∀I' w',Gj p.f I w I' w'->I'.ph=some p->I'.tag p.f=.thru->I'.deaf p.f=0->Ae L.tWg top I' w'->∀I2 w2,G5 p.f (I'.past p) w' I2 w2->LV P L.tWg top Post p.f I2 w2 (Abw b₀ a₀ ops₀ i₀ rest₀ k₀ cs)) :
  LV P L.tWg top Post p.f I w (G ((base L.wait).at ⟨#[.pointer (some ⟨p.wg,0,none⟩)]++Array.replicate 83 undef,[]⟩ [.code (body_wait L)]) (b₀.at a₀ (.inRegion ops₀ (i₀::rest₀)::k₀)::cs)):=by
 have xe:WgLive L.tWg p.wg w:=let ⟨st,sm,h,_⟩:=(hI.core _ hp).wgm;⟨st,sm,h⟩;obtain⟨n1,rb⟩:=Ae1 (main:=p.f==0) (b₀:=b₀) (a₀:=a₀) (ops₀:=ops₀) (i₀:=i₀) (rest₀:=rest₀) (k₀:=k₀) (cs:=cs) H w xe;refine Cy (i:=p.f) (p:=p) rb (Dq hp) (Bp (.inl ht)).1 hI fun I1 w1 g1 hr1 ia hi1 ⟨hrun,g2,hst,n2,ue⟩=>⟨hrun,?_⟩;have ht1:I1.tag p.f=.shut:=hr1.tag.trans ht;have hd1:I1.deaf p.f=0:=hr1.deaf.trans hd;have ir:=hr1.live (Bp (.inl ht)).1;have aj:=Kc (P:=P) (Post:=Post) ia hi1 (H7 (.inl rfl)) (.inr (Bp (.inl ht1)).2) (mayWake P g1=true);rw[hd1,Vq] at aj;have hr2:=ir.trans (Nl I1 w1 p.f 1);have ht2:(I1.setDeaf p.f 1).tag p.f=.shut:=ht1;refine .go g2 w1 _ _ hst aj (Mw (i:=p.f) (p:=p) ue (Dq (hr2.ph _ (Dq hp))) (Bp (.inl ht2)).1 aj.inv fun I3 w3 g3 hr3 bq uh=>?_);have dt:=hr2.trans (hr3.live (Bp (.inl ht2)).1);exact Agg H _ (dt.ph _ (Dq hp)) (hr3.tag.trans ht2) (hr3.deaf.trans (Lm _ _ _)) (Nat.le_refl _) bq uh fun I' w' hr'=>hK I' w' (dt.trans hr')
end
end
section
open Go Go.Conc Go.RowKit Go.Conc.Lib Go.ConcR.Gen
open Go.ConcR (KK wgBlock WgAt stA smA rd wr mk DC0)
open Go.ConcN (WgLive)
set_option linter.unusedSimpArgs false
section
variable {L:WgLink} {Wg:Nat}
theorem Ar4 {P:Program} (H:WgLib P L) {c:Frame} {cs:List Frame} (w:World) (hF:WgLive L.tWg Wg w) :
  GM P false L.tWg Wg (Gx P false (.releaseMerge (stA Wg)) (GM P false L.tWg Wg (Gx P false .disable fun _ _=>True)))
   (G ((baseD L.done).at ⟨#[.pointer (some ⟨Wg,0,none⟩),undef,undef,undef],[]⟩ [.code (body_done L)]) (c::cs)) w:=by
 lib_facts
 simp only[body_done,body_add,doneFn,addFn,Option.getD_some];refine⟨60,?_⟩
 u_reg Aa hF
 u_op Aa hF
 u_in Aa hF
 refine goes_call rfl rfl (by k_ne) rfl H.f_add (nm_add L) rfl ⟨by u_nil,?_⟩
 walk_nrmf addFn
 u_c stepG_seq Aa hF
 u_cond true Aa hF
 u_c stepG_seq Aa hF
 u_c stepG_seq Aa hF
 u_reg Aa hF
 u_op Aa hF
 u_op Aa hF
 u_c stepG_region_end Aa hF
 u_cond true Aa hF
 u_reg Aa hF
 u_op Aa hF
 u_conv H.underlying_tWgP H.room_tWg (Go.ConcN.Gen.WgLive.cell0 hF).choose_spec Aa hF
 refine Goes.stop (fun w₁ h₁=>?_);replace hF:=Aa hF h₁;clear h₁;refine⟨rfl,_,stepG_markAt .releaseMerge (by simp) rfl rfl (by k_ne) rfl H.f_relMerge (x_relMerge_n L) (x_relMerge_b L) (x_relMerge_x L) (x_relMerge_f L) (by simp[Act.eval,stA]),10,?_⟩;walk_nrm
 u_c stepG_region_end Aa hF
 u_c stepG_seq Aa hF
 u_reg Aa hF
 refine Goes.stop (fun w₁ h₁=>?_);exact⟨rfl,_,stepG_mark0 .disable (by simp) rfl rfl (by k_ne) rfl H.f_disable (x_disable_n L) (x_disable_b L) (x_disable_x L) (x_disable_f L),trivial⟩
end
end
open Go.ConcR (Payload)
open Go.ConcN (RW DWs Has PayAt AsideCell EvW AtR0 AtK1 AtD1 AtD2 AtD3 AtD4)
section
variable {ty:TypeId} {top:Nat} {I I' I2:Ab} {p:Ph} {c:Ir} {w w' w2:World} {i j k n:Nat} {P:Program} {Post:Value->World->Prop} {es:Array Event} {g g':Goroutine}
theorem Z2 {m:Bool} {R1 R2:World->World->Prop} {D1 D2:World->World->Array Event->Prop} {S1 S2:Goroutine->World->Prop}:∀(n1 n2:Nat) {g:Goroutine} {w:World},Goes P m R1 D1 S1 n1 g w->Goes P m R2 D2 S2 n2 g w ->
  Goes P m (fun a b=>R1 a b/\R2 a b) D2 (fun g w=>S1 g w\/(S2 g w/\∃n w0,R1 w0 w/\Goes P m R1 D1 S1 n g w0)) n1 g w
 | 0,_,_,_,h1,_=>fun w1 hr=>.inl (h1 w1 hr.1)
 | n1+1,0,_,w,h1,h2=>.inl fun w1 hr=>.inr ⟨h2 w1 hr.2,n1+1,w,hr.1,h1⟩
 | n1+1,n2+1,g,w,h1,h2=>by
  rcases h2 with h2|⟨hg,h2⟩
  ·exact .inl fun w1 hr=>.inr ⟨h2 w1 hr.2,n1+1,w,hr.1,h1⟩
  ·rcases h1 with h1|⟨_,h1⟩
   ·exact .inl fun w1 hr=>.inl (h1 w1 hr.1)
   ·refine .inr ⟨hg,fun w1 hr=>?_⟩;have q1:=h1 w1 hr.1;have q2:=h2 w1 hr.2
    revert q1 q2
    cases stepG P m g w1<;>simp only[GStep.goes]<;>first|exact fun q=>q.elim|skip
    exact fun q1 q2=>⟨q2.1,Z2 n1 n2 q1.2 q2.2⟩
theorem Agl {m:Bool} {R1 R2:World->World->Prop} {D1:World->World->Array Event->Prop} {S1 S2:Goroutine->World->Prop} (r1:∀w,R1 w w) (r2:∀w,R2 w w) (hS1:∀g w,S1 g w->∃g' a,stepG P m g w=.go g' w #[mk (.releaseMerge a)]) (hS2:∀g w,S2 g w->∃g',stepG P m g w=.go g' w #[mk .disable])
  (hD:∀w w' es,D1 w w' es->∀e∈es,e.loc≠.mark .disable):∀(n1 n2:Nat) {g:Goroutine} {w:World},Goes P m R1 D1 S1 n1 g w->Goes P m R2 DC0 S2 n2 g w->False:=by
 have two:∀ {g w},S1 g w->S2 g w->False:=fun {g w} h1 h2=>by
  obtain⟨g1,a,e1⟩:=hS1 g w h1;obtain⟨g2,e2⟩:=hS2 g w h2;rw[e1] at e2;simp[mk] at e2
 have oneStep:∀ {g w g' es},S1 g w->stepG P m g w=.go g' w es->es=#[]->False:=fun {g w g' es} h1 h2 h3=>by
  obtain⟨g1,a,e1⟩:=hS1 g w h1;rw[e1,h3] at h2;simp[mk] at h2
 have stop2:∀(n1:Nat) {g w},Goes P m R1 D1 S1 n1 g w->S2 g w->False:=fun n1 {g w} h1 h2=>by
  cases n1 with
  | zero=>exact two (h1 w (r1 w)) h2
  | succ n1 =>
   rcases h1 with h1|⟨_,h1⟩
   ·exact two (h1 w (r1 w)) h2
   ·obtain⟨g2,e2⟩:=hS2 g w h2;have:=h1 w (r1 w);rw[e2] at this;exact hD _ _ _ this.1 (mk .disable) (by simp) rfl
 intro n1 n2
 induction n2 generalizing n1 with
 | zero=>exact fun h1 h2=>stop2 n1 h1 (h2 _ (r2 _))
 | succ n2 ih =>
  intro g w h1 h2;rcases h2 with h2|⟨_,h2⟩
  ·exact stop2 n1 h1 (h2 _ (r2 _))
  ·obtain⟨g',w',es,hst,⟨e1,e2⟩,hG⟩:=Dd (h2 w (r2 w));subst e1;cases n1 with
   | zero=>exact oneStep (h1 _ (r1 _)) hst e2
   | succ n1 =>
    rcases h1 with h1|⟨_,h1⟩
    ·exact oneStep (h1 _ (r1 _)) hst e2
    ·have:=h1 _ (r1 _);rw[hst] at this;exact ih n1 this.2 hG
theorem Ia {R:World->World->Prop} {D:World->World->Array Event->Prop} {Stop:Goroutine->World->Prop} {J:Ab->Prop} (hJ:∀I w I2 w2,J I->G5 i I w I2 w2->J I2) (hg:∀I,J I->I.tag i≠.gone)
  (hR:∀I w I2 w2,J I->Ae ty top I w->Ae ty top I2 w2->G5 i I w I2 w2->R w w2) (hD:∀I w w' es wk,J I->Ae ty top I w->i < I.cnt->D w w' es->(Al P ty top Post).Do i I w I w' wk es) :
  ∀n {g w I},Goes P (i==0) R D Stop n g w->J I->Ae ty top I w->(∀I2 w2 g',J I2->Ae ty top I2 w2->i < I2.cnt->Stop g' w2->g'.status=.running/\NX P ty top Post i I2 w2 g')->LV P ty top Post i I w g:=by
 have lt:∀ {I w},Ae ty top I w->I.tag i≠.gone->i < I.cnt:=fun hI ht=>Nat.lt_of_not_le fun q=>ht (hI.un i q);intro n
 induction n with
 | zero =>
  intro g w I h hj hI hS;refine An (hS I w g hj hI (lt hI (hg I hj)) (h w (hR I w I w hj hI hI (.refl _ _ _)))).1 (hg I hj) fun I2 w2 hrl bi hi=>(hS I2 w2 g (hJ _ _ _ _ hj hrl) bi hi (h w2 (hR _ _ _ _ hj hI bi hrl))).2
 | succ n ih =>
  intro g w I h hj hI hS;rcases h with h|⟨hgr,h⟩
  ·refine An (hS I w g hj hI (lt hI (hg I hj)) (h w (hR I w I w hj hI hI (.refl _ _ _)))).1 (hg I hj) fun I2 w2 hrl bi hi=>(hS I2 w2 g (hJ _ _ _ _ hj hrl) bi hi (h w2 (hR _ _ _ _ hj hI bi hrl))).2
  ·refine An hgr (hg I hj) fun I2 w2 hrl bi hi=>?_;have dc:=hJ _ _ _ _ hj hrl;obtain⟨g',w',es,hst,hd,hG⟩:=Dd (h w2 (hR _ _ _ _ hj hI bi hrl));have aj:=hD I2 w2 w' es (mayWake P g=true) dc bi hi hd;exact .go g' w' es I2 hst aj (ih hG dc aj.inv hS)
structure AtEnd (p:Ph) (i C:Nat) (x:B6) (d:Nat) (I:Ab):Prop where
 ph:I.ph=some p
 tag:I.tag i=x
 deaf:I.deaf i=d
 c:I.F i C
 i0:i≠0
theorem AtEnd.rely {C d:Nat} {x:B6} (hx:x≠.gone) (h:AtEnd p i C x d I) (hr:G5 i I w I2 w2):AtEnd p i C x d I2:=by
 have l:=hr.live (by rw[h.tag];exact hx);exact⟨l.ph _ ⟨h.ph,.inl h.i0⟩,hr.tag.trans h.tag,hr.deaf.trans h.deaf,l.F h.c,h.i0⟩
theorem Zg [Payload] {C d m:Nat} {x:B6} (hx:x≠.gone) (h:AtEnd p i C x d I) (bi:Ae ty top I2 w2) (hr:G5 i I w I2 w2):RW ty p.wg C m 0 0 w w2:=by
 have l:=hr.live (by rw[h.tag];exact hx);have e:w2.heap[C]?=w.heap[C]?:=l.keep _ h.c.1 (.inr h.c.2);refine⟨fun b hb=>absurd hb (Nat.not_lt_zero _),fun _=>?_,fun⟨cs,q1,q2⟩=>⟨cs,by rw[e];exact q1,q2⟩,Go.ConcN.cell_of_block e 0⟩;obtain⟨st,sm,q,_⟩:=(bi.core _ (l.ph _ ⟨h.ph,.inl h.i0⟩)).wgm;exact⟨st,sm,q⟩
theorem Auz {C d:Nat} {x:B6} (hx:x≠.gone) (h:AtEnd p i C x d I) (bi:Ae ty top I2 w2) (hr:G5 i I w I2 w2):Rl ty p.wg w w2:=fun _=>by
 have l:=hr.live (by rw[h.tag];exact hx);obtain⟨st,sm,q,_⟩:=(bi.core _ (l.ph _ ⟨h.ph,.inl h.i0⟩)).wgm;exact⟨st,sm,q⟩
theorem S0 (hI:Ae ty top I w) (hi:i < I.cnt) (h:DC0 w w' es) (wk:Prop):(Al P ty top Post).Do i I w I w' wk es:=by
 obtain⟨e1,e2⟩:=h;subst e1;subst e2;exact Fj hI hi wk
set_option linter.unusedVariables false in
theorem Agf {L:WgLink} {C qt:Nat} {v:Value} {c:Frame} {cs:List Frame} (H:WgLib P L) (hp:I.ph=some p) (hb:p.b<=i) (ht:I.tag i=.out) (hd:I.deaf i=0) (hI:Ae L.tWg top I w) (hC:I.F i C) (hv:w.cell? ⟨C,0,none⟩=some v)
  (hcm:c.mode=.returning) (hT:QuitsD P qt 0 (G c cs)):LV P L.tWg top Post i I w (G ((baseD L.done).at ⟨#[.pointer (some ⟨p.wg,0,none⟩),undef,undef,undef],[]⟩ [.code (body_done L)]) (c::cs)):=by
 have i9:i≠0:=by
  have:=(hI.core _ hp).fd;omega
 have hi0:(i==0)=false:=by simpa using i9
 letI:Payload:=⟨0⟩
 have xe:WgLive L.tWg p.wg w:=let ⟨st,sm,h,_⟩:=(hI.core _ hp).wgm;⟨st,sm,h⟩;have hA:AtEnd p i C .out 0 I:=⟨hp,ht,hd,hC,i9⟩;have h1:=Go.ConcN.Gen.doneN (Own:=fun _ _=>False) (Rd:=fun _ _=>False) (Wg:=p.wg) (C:=C) (n:=0) (Low:=0) (k:=1) (val:=v) H hcm hT w ⟨xe,hv⟩;obtain⟨n2,h2⟩:=Ar4 (Wg:=p.wg) (c:=c) (cs:=cs) H w xe;have hm:=Z2 _ _ h1 h2;rw[<- hi0] at hm;refine Ia (J:=AtEnd p i C .out 0) (fun I w I2 w2 h hr=>h.rely (by simp) hr) (fun I h=>by rw[h.tag];simp) (fun I w I2 w2 h _ bi hr=>⟨Zg (by simp) h bi hr,Auz (by simp) h bi hr⟩) (fun I w w' es wk _ hI hi hD=>S0 hI hi hD wk) _ hm hA hI fun I1 w1 g1 hA1 ia hi1 hS=>?_;have hrel:AtR0 P L.tWg p.wg C 0 0 1 v g1 w1:=by
  rcases hS with hS|⟨⟨_,g2,hst,n3,y9⟩,n,w0,ux,hG⟩
  ·exact hS
  ·have rb:=Goes.rely (fun a b c h h'=>h.trans h') hG ux;cases n with
   | zero=>exact rb w1 (Go.ConcN.RW.refl w1)
   | succ n =>
    rcases rb with q|⟨_,q⟩
    ·exact q w1 (Go.ConcN.RW.refl w1)
    ·exfalso;have:=q w1 (Go.ConcN.RW.refl w1);rw[hst] at this;exact Agl (fun w=>Go.ConcN.RW.refl w) (fun w h=>h) (fun g w h=>let ⟨g',h',_⟩:=h.2.2;⟨g',_,by rw[hi0];exact h'⟩) (fun g w h=>let ⟨g',h',_⟩:=h.2;⟨g',h'⟩) (fun w w' es h e he=>(h.2 e he).2.1) _ _ this.2 y9
 obtain⟨hrun,_,g2,hst,m2,ue⟩:=hrel;refine⟨hrun,?_⟩;have hp1:=hA1.ph;have aj:=Ags (P:=P) (Post:=Post) ia hp1 hb hi1 hA1.tag hA1.deaf (mayWake P g1=true);rw[<- hi0] at hst ue;have hA2:AtEnd p i C .rel 0 (I1.setTag i .rel):=⟨hp1,Dw _ _ _,hA1.deaf,hA1.c,i9⟩;refine .go g2 w1 _ _ hst aj (Ia (J:=AtEnd p i C .rel 0) (fun I w I2 w2 h hr=>h.rely (by simp) hr) (fun I h=>by rw[h.tag];simp) (fun I w I2 w2 h _ bi hr=>Zg (by simp) h bi hr) (fun I w w' es wk _ hI hi hD=>S0 hI hi hD wk) _ ue hA2 aj.inv fun I3 w3 g3 uh bq hi3 ⟨ei,g4,fh,m4,xb⟩=>⟨ei,?_⟩);have dh:=Kc (P:=P) (Post:=Post) bq hi3 (H7 (.inl rfl)) (.inr (by rw[uh.tag];simp)) (mayWake P g3=true);rw[uh.deaf,Vq] at dh;rw[<- hi0] at fh xb;have hA4:AtEnd p i C .rel 1 (I3.setDeaf i 1):=⟨uh.ph,uh.tag,Lm _ _ _,uh.c,i9⟩;refine .go g4 w3 _ _ fh dh (Ia (J:=AtEnd p i C .rel 1) (fun I w I2 w2 h hr=>h.rely (by simp) hr) (fun I h=>by rw[h.tag];simp) (fun I w I2 w2 h _ bi hr=>Zg (by simp) h bi hr) (fun I w w' es wk _ hI hi hD=>S0 hI hi hD wk) _ xb hA4 dh.inv fun I5 w5 g5 ug qo hi5 ⟨nv,h5⟩=>⟨nv,?_⟩);obtain⟨V,wt,a1,a2,a3,kg⟩:=Asg (P:=P) (Post:=Post) qo ug.ph hb hi5 ug.tag (by rw[ug.deaf];exact Nat.one_pos) (mayWake P g5=true);obtain⟨g6,nj,hlast,ja⟩:=h5 V wt a1 a2 (by simpa using a3);rw[<- hi0] at nj;by_cases hl:V=0/\wt=1
 ·rw[if_pos hl] at kg;obtain⟨m6,hG6⟩:=hlast hl;rw[<- hi0] at hG6;have hA6:AtEnd p i C (.last 2) 1 (I5.setTag i (.last 2)):=⟨ug.ph,Dw _ _ _,ug.deaf,ug.c,i9⟩;refine .go g6 _ _ _ nj kg (Ia (J:=AtEnd p i C (.last 2) 1) (fun I w I2 w2 h hr=>h.rely (by simp) hr) (fun I h=>by rw[h.tag];simp) (fun I w I2 w2 h _ bi hr=>Zg (by simp) h bi hr) (fun I w w' es wk _ hI hi hD=>S0 hI hi hD wk) _ hG6 hA6 kg.inv fun I7 w7 g7 zt y8 hi7 ⟨nu,h7⟩=>⟨nu,?_⟩);have hm7:=Nt y8 zt.ph hb zt.tag;obtain⟨g8,rh,m8,hG8⟩:=h7 (by simpa using hm7.2.1);have qp:=Ar9 (P:=P) (Post:=Post) y8 zt.ph hb hi7 zt.tag (by rw[zt.deaf];exact Nat.one_pos) (mayWake P g7=true);rw[<- hi0] at rh hG8;refine .go g8 _ _ _ rh qp (Ia (J:=AtEnd p i C (.last 2) 1) (fun I w I2 w2 h hr=>h.rely (by simp) hr) (fun I h=>by rw[h.tag];simp) (fun I w I2 w2 h _ bi hr=>Zg (by simp) h bi hr) (fun I w w' es wk _ hI hi hD=>S0 hI hi hD wk) _ hG8 zt qp.inv fun I9 w9 g9 xc zo zj ⟨nt,h9⟩=>⟨nt,?_⟩);have hm9:=Nt zo xc.ph hb xc.tag;obtain⟨g10,kj,m10,hG10⟩:=h9 (by simpa using hm9.2.1);have uf:=Ao9 (P:=P) (Post:=Post) zo xc.ph hb zj xc.tag (by rw[xc.deaf];exact Nat.one_pos) (mayWake P g9=true);rw[<- hi0] at kj hG10;have hA10:AtEnd p i C (.last 1) 1 (I9.setTag i (.last 1)):=⟨xc.ph,Dw _ _ _,xc.deaf,xc.c,i9⟩;refine .go g10 _ _ _ kj uf (Ia (J:=AtEnd p i C (.last 1) 1) (fun I w I2 w2 h hr=>h.rely (by simp) hr) (fun I h=>by rw[h.tag];simp) (fun I w I2 w2 h _ bi hr=>Zg (by simp) h bi hr) (fun I w w' es wk _ hI hi hD=>S0 hI hi hD wk) _ hG10 hA10 uf.inv fun I11 w11 g11 ui hI11 hi11 ⟨xn,hmw,h11⟩=>⟨xn,?_⟩);obtain⟨hw11,hDo11⟩:=Ar5 (P:=P) (Post:=Post) hI11 ui.ph hb hi11 ui.tag (by rw[ui.deaf];exact Nat.one_pos) (mayWake P g11=true) hmw;obtain⟨g12,uo,q,hq⟩:=h11 hw11;rw[<- hi0] at uo;refine .go g12 _ _ _ uo hDo11 (By.Lives.quit (q:=q) ?_ ⟨i9,Dw _ _ _⟩);show QuitsD P q (I11.deaf i) g12;rw[ui.deaf];exact hq
 ·rw[if_neg hl] at kg;obtain⟨q,hq⟩:=ja hl;refine .go g6 _ _ _ nj kg (By.Lives.quit (q:=q) ?_ ⟨i9,Dw _ _ _⟩);show QuitsD P q (I5.deaf i) g6;rw[ug.deaf];exact hq
theorem Ie {es:Array Event} (h:∀e∈es,False):es=#[]:=by
 rcases es with⟨l⟩;cases l with
 | nil=>rfl
 | cons a l=>exact(h a (by simp)).elim
theorem Wp (hr:g.status=.running) (ht:I.tag i≠.gone) (h:∀w2,(stepG P (i==0) g w2).goes fun g' w' es=>(w'=w2/\∀e∈es,False)/\LV P ty top Post i I w g'):LV P ty top Post i I w g :=
 An hr ht fun I2 w2 hrl hI hi=>by
  obtain⟨g',w',es,hst,⟨e1,e2⟩,hL⟩:=Dd (h w2);subst e1;obtain rfl:=Ie e2;exact .go g' _ #[] I2 hst (Fj hI hi _) (hL.rely hrl)
theorem Mn (hs:I.hs=w.heap.size):G5 i I w (I.grown i w) w :=
 ⟨rfl,rfl,⟨rfl,rfl⟩,fun _=>⟨by show I.hs<=w.heap.size;omega,fun b hb _=>Ce hb,fun b h1 h2=>by
  have h1':b < w.heap.size:=h1;rw[Ce (by omega)] at h2;exact⟨by omega,h2⟩,fun _ _ _=>rfl,rfl,fun _ h=>h.1,fun h _=>h,rfl,fun _ _ _=>⟨rfl,Nat.le_refl _⟩,fun _ _ _=>⟨rfl,hs.symm,rfl⟩,fun _ _ _ _ _=>⟨fun _ _ _=>rfl,rfl⟩,fun _ _=>Nat.le_refl _,fun _ _ _=>Iff.rfl,fun _ _ h=>h,fun _=>rfl,fun _ _ _=>.of (c1:=rfl) rfl fun _=>rfl⟩⟩
theorem E3 (hr:g.status=.running) (ht:¬(I.tag i).tied) (h:∀I2 w2,G5 i I w I2 w2->Ae ty top I2 w2->(stepG P (i==0) g w2).goes fun g' w' es=>(w'=w2/\∀e∈es,EvS (I2.S i) (I2.F i) e)/\LV P ty top Post i I w g'):LV P ty top Post i I w g :=
 Ns hr ht fun I2 w2 hrl hI=>by
  obtain⟨g',w',es,hst,⟨e1,e2⟩,hL⟩:=Dd (h I2 w2 hrl hI);subst e1;refine⟨g',_,es,hst,⟨Nat.le_refl _,rfl,rfl,rfl,fun _ _ _=>rfl,fun e he=>by rw[Z0];exact e2 e he⟩,hL.rely (hrl.trans (Mn hI.hs))⟩
theorem Ax {fn:FuncId} {a:Act} {o:Oper} (h:(execOp a.eval o).events P w #[]=#[]):∀e∈listed P fn a o w,False:=fun e he=>by
 have:=mem_listed he;rw[h] at this;simp at this
end
section
variable {ty:TypeId} {top:Nat} {I:Ab} {w:World} {i l id:Nat} {P:Program} {Post:Value->World->Prop} {b:Frame} {a:Act} {k:List Item} {cs:List Frame} {ops:Array Oper} {rest:List Nat} {o:Oper} {x y:Code} {c:Operand}
theorem Ai (h:∀(w2:World) (K':Act->World->Prop),(∀a',LV P ty top Post i I w (G (b.at a' (.inRegion ops rest::k)) cs)->(he:(execOp a.eval o).events P w2 #[]=#[]:=by simp[go_sem])->K' a' w2)->uponK o a K' ((execOp a.eval o).run P w2))
  (ho:ops[l]?=some o:=by exact rfl) (hw:Region.wanted o (yielded ops a.tmps)=true:=by exact rfl) (hk:b.kind≠.early:=by first|decide|assumption|exact base_kind _|exact baseD_kind _) (hg:I.tag i≠.gone:=by assumption) :
  LV P ty top Post i I w (G (b.at a (.inRegion ops (l::rest)::k)) cs) :=
 Wp rfl hg fun w2=>goes_oper_k ho hw hk fun K' hK=>h w2 K' fun a' e3 e2=>hK a' w2 ⟨⟨rfl,Ax e2⟩,e3⟩
theorem Yt {ad:Addr} {v:Value} (hs:¬(I.tag i).tied) (F:∀IV wV,G5 i I w IV wV->Ae ty top IV wV->wV.cell? ad=some v/\EvS (IV.S i) (IV.F i) ⟨.cell ad,false,false⟩)
  (h:∀(w2:World) (K':Act->World->Prop),w2.cell? ad=some v->(∀a',LV P ty top Post i I w (G (b.at a' (.inRegion ops rest::k)) cs)->(∀e∈(execOp a.eval o).events P w2 #[],e=⟨.cell ad,false,false⟩)->K' a' w2)->uponK o a K' ((execOp a.eval o).run P w2))
  (ho:ops[l]?=some o:=by exact rfl) (hw:Region.wanted o (yielded ops a.tmps)=true:=by exact rfl) (hk:b.kind≠.early:=by first|decide|assumption|exact base_kind _|exact baseD_kind _) :
  LV P ty top Post i I w (G (b.at a (.inRegion ops (l::rest)::k)) cs) :=
 E3 rfl hs fun IV wV hrl au=>goes_oper_k ho hw hk fun K' hK=>h wV K' (F IV wV hrl au).1 fun a' e3 e2=>hK a' wV ⟨⟨rfl,fun e he=>by rw[e2 e (mem_listed he)];exact(F IV wV hrl au).2⟩,e3⟩
theorem Am (h:LV P ty top Post i I w (G (b.at a (.code x::.code y::k)) cs)) (hg:I.tag i≠.gone:=by assumption):LV P ty top Post i I w (G (b.at a (.code (.seq x y)::k)) cs):=Ak rfl hg (fun _=>stepG_seq) h
theorem len (h:LV P ty top Post i I w (G (b.at a k) cs)) (hg:I.tag i≠.gone:=by assumption):LV P ty top Post i I w (G (b.at a (.inRegion ops []::k)) cs):=Ak rfl hg (fun _=>stepG_region_end) h
theorem Gz (h:LV P ty top Post i I w (G (b.at a k) cs)) (hg:I.tag i≠.gone:=by assumption):LV P ty top Post i I w (G (b.at a (.code .skip::k)) cs):=Ak rfl hg (fun _=>stepG_skip) h
theorem Fg (h:LV P ty top Post i I w (G (b.at (a.put o.dst undef) (.inRegion ops rest::k)) cs)) (ho:ops[l]?=some o:=by exact rfl) (hw:Region.wanted o (yielded ops a.tmps)=false:=by exact rfl) (hg:I.tag i≠.gone:=by assumption):LV P ty top Post i I w (G (b.at a (.inRegion ops (l::rest)::k)) cs):=Ak rfl hg (fun _=>stepG_unwanted ho hw) h
theorem Hd (h:LV P ty top Post i I w (G (b.at a (.code x::k)) cs)) (e:a.eval c=.bool true:=by exact rfl) (hg:I.tag i≠.gone:=by assumption):LV P ty top Post i I w (G (b.at a (.code (.cond c x y)::k)) cs):=Ak rfl hg (fun _=>stepG_cond (t:=true) e) h
theorem Gl (h:LV P ty top Post i I w (G (b.at a (.code y::k)) cs)) (e:a.eval c=.bool false:=by exact rfl) (hg:I.tag i≠.gone:=by assumption):LV P ty top Post i I w (G (b.at a (.code (.cond c x y)::k)) cs):=Ak rfl hg (fun _=>stepG_cond (t:=false) e) h
theorem Bz {g g':Goroutine} (hs:∀w,stepG P (i==0) g w=.go g' w #[]) (h:LV P ty top Post i I w g') (hr:g.status=.running:=by exact rfl) (hg:I.tag i≠.gone:=by assumption):LV P ty top Post i I w g:=Ak hr hg hs h
def ix (n:Nat):List Oper->List Nat
 | []=>[]
 | _::l=>n::ix (n+1) l
theorem Ad6:∀(l:List Oper) (n:Nat),ix n l=List.range' n l.length
 | [],_=>rfl
 | _::l,n=>by rw[ix,Ad6 l (n+1),List.length_cons,List.range'_succ]
theorem Au {l:List Oper} (h:LV P ty top Post i I w (G (b.at a (.inRegion l.toArray (ix 0 l)::k)) cs)) (hg:I.tag i≠.gone:=by assumption):LV P ty top Post i I w (G (b.at a (.code (.region id l.toArray false)::k)) cs) :=
 Ak rfl hg (fun _=>stepG_region) (by rw[List.size_toArray,List.range_eq_range',<- Ad6];exact h)
end
end Go.Proofs.YtbicafgmfgdckaaGreatDoor
