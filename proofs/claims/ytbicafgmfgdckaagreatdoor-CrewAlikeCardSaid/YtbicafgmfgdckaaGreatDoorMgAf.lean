/- A piece. -/
import Derived.Conc.CrowdTrace
set_option maxRecDepth 100000
set_option maxHeartbeats 16000000
set_option linter.all false
namespace Go.Proofs.YtbicafgmfgdckaaGreatDoor
open Go Go.Conc Go.ConcN
structure Atb where
 sh:Loc->Prop
 ro:Loc->Prop
 own:Loc->Nat
 live:Nat->Prop
structure DT (O:Atb) (t:Trace) (j:Nat):Prop where
 quiet:Quiet O.sh t
 own:∀l,¬O.sh l->¬O.ro l->Perm t (O.own l) l
 ro:∀l,¬O.sh l->O.ro l->∀k,O.live k->PermW t k l
 nr:∀said,¬Race said t
 gs:∀(i:Nat) (op:MemOp),t[i]?=some op->op.g<=j
section
variable {O O':Atb} {t u:Trace} {j k g:Nat} {l:Loc}
theorem N6 {said:Bool}:∀(u:List MemOp) {t:Trace},¬Race said t->(∀op∈u,op.act.touch?=none)->¬Race said (t++u.toArray)
 | [],t,h,_=>by simpa using h
 | x::u,t,h,hu=>by
  have e:t++(x::u).toArray=(t++#[x])++u.toArray:=by apply Array.ext';simp
  rw[e];refine N6 u (noRace_append (g:=x.g) h (fun op hop=>by simp at hop;rw[hop]) fun i a _ op hop b hb _=>?_) fun op hop=>hu op (by simp[hop]);simp at hop;rw[hop,hu x (by simp)] at hb;cases hb
theorem Perm.fresh (h:∀i a,touchAt t i=some a->a.loc≠l):Perm t g l:=fun i a ha e=>absurd e (h i a ha)
theorem Perm.silent (h:Perm t g l) (hu:∀op∈u,op.act.touch?=none):Perm (t++u) g l:=h.app fun op hop b hb _=>by rw[hu op hop] at hb;cases hb
theorem Ah (hu:∀op∈u,op.act.touch?=none) {i:Nat} {a:Touch} (ha:touchAt (t++u) i=some a):touchAt t i=some a:=by
 obtain⟨z,hz,jl⟩:=touch_of ha;rcases getElem?_append_cases hz with⟨_,hz'⟩|⟨_,hzu⟩
 ·rw[touchAt_of hz'];exact jl
 ·rw[hu z hzu] at jl;cases jl
theorem Perm.pass {g2:Nat} (h:Perm t g l) (hu:∀op∈u,op.act.touch?=none) (hk:∀i,Knows t g i->Knows (t++u) g2 i):Perm (t++u) g2 l:=fun i a ha e=>hk i (h i a (Ah hu ha) e)
theorem PermW.pass {g2:Nat} (h:PermW t g l) (hu:∀op∈u,op.act.touch?=none) (hk:∀i,Knows t g i->Knows (t++u) g2 i):PermW (t++u) g2 l:=fun i a ha e hw=>hk i (h i a (Ah hu ha) e hw)
theorem P0 {c s:Nat} {a b:Nat} {x1 x2 x3 x4:MemOp} (h1:x1.g=a/\x1.act=.send c s) (h2:x2.g=b/\x2.act=.recv c s 0) (h3:x3.g=a/\x3.act=.sendDone c s) (h4:x4.g=b/\x4.act=.recvDone c s)
  (ha:Deaf t a=0) (hb:Deaf t b=0):(∀i,Knows t a i->Knows (t++#[x1,x2,x3,x4]) b i)/\(∀i,Knows t b i->Knows (t++#[x1,x2,x3,x4]) a i):=by
 have p1:(t++#[x1,x2,x3,x4])[t.size]?=some x1:=by rw[Array.getElem?_append_right (Nat.le_refl _)];simp
 have p2:(t++#[x1,x2,x3,x4])[t.size+1]?=some x2:=by rw[Array.getElem?_append_right (by omega)];simp
 have p3:(t++#[x1,x2,x3,x4])[t.size+2]?=some x3:=by rw[Array.getElem?_append_right (by omega)];simp
 have p4:(t++#[x1,x2,x3,x4])[t.size+3]?=some x4:=by rw[Array.getElem?_append_right (by omega)];simp
 have nd:∀(x:MemOp) (d g:Nat),x.act.touch?=none->(∀m,x.act≠.mark m)->deafStep g d x=d:=fun x d g _ hm=>by
  unfold deafStep;split
  ·rename_i e;exact absurd e (hm _)
  ·rename_i e;exact absurd e (hm _)
  ·rfl
 have D:∀g,(t++#[x1,x2,x3,x4]).deaf g t.size=Deaf t g:=fun g=>deaf_old (Nat.le_refl _);have D1:∀g,(t++#[x1,x2,x3,x4]).deaf g (t.size+1)=Deaf t g:=fun g=>by rw[deaf_succ p1,D,nd x1 _ _ (by rw[h1.2];rfl) (fun m=>by rw[h1.2];simp)]
 have D2:∀g,(t++#[x1,x2,x3,x4]).deaf g (t.size+2)=Deaf t g:=fun g=>by rw[deaf_succ p2,D1,nd x2 _ _ (by rw[h2.2];rfl) (fun m=>by rw[h2.2];simp)]
 have D3:∀g,(t++#[x1,x2,x3,x4]).deaf g (t.size+3)=Deaf t g:=fun g=>by rw[deaf_succ p3,D2,nd x3 _ _ (by rw[h3.2];rfl) (fun m=>by rw[h3.2];simp)]
 have hear:∀ {p:Nat} {x:MemOp} {g:Nat},(t++#[x1,x2,x3,x4])[p]?=some x->x.g=g->(t++#[x1,x2,x3,x4]).deaf g p=0->(t++#[x1,x2,x3,x4]).heard p:=fun {p x g} hp hg hd=>⟨g,by simp[Trace.g?,hp,hg],hd⟩;constructor
 ·intro i hi;have e1:=hi.hb_new (Nat.le_refl _) p1 h1.1;exact⟨t.size+3,x4,p4,h4.1,.inr (e1.trans (.single (.inr ⟨.handOver (c:=c) (k:=s) (by rw[act?_of p1,h1.2]) (by rw[act?_of p4,h4.2]),hear p1 h1.1 (by rw[D];exact ha),hear p4 h4.1 (by rw[D3];exact hb)⟩)))⟩
 ·intro i hi;have e1:=hi.hb_new (Nat.le_succ _) p2 h2.1;exact⟨t.size+2,x3,p3,h3.1,.inr (e1.trans (.single (.inr ⟨.room (c:=c) (k:=s) (cap:=0) (by rw[act?_of p2,h2.2]) (by rw[act?_of p3,h3.2];rfl),hear p2 h2.1 (by rw[D1];exact hb),hear p3 h3.1 (by rw[D2];exact ha)⟩)))⟩
theorem Yg {i r:Nat} (hi:t.g? i=some k) (hr:t.g? r=some k) (hle:i<=r):Before t i r:=by
 rcases Nat.lt_or_ge i r with h|h
 ·exact .inr (.single (.inl ⟨h,k,hi,hr⟩))
 ·exact .inl (by omega)
end
structure Wh where
 sh:Loc->Prop
 say:Loc->Nat
 ro:Loc->Prop
 own:Loc->Option Nat
 lk:Loc->Addr
 live:Nat->Loc->Prop
def Mh (a:Addr) (lv:Nat->Prop) (t:Trace) (l:Loc):Prop:=∀i x,touchAt t i=some x->x.loc=l->(∃r,t.act? r=some (.mark (.releaseMerge a))/\t.heard r/\Before t i r)\/∀k,lv k->Knows t k i
def Hj (o:Option Nat) (a:Addr) (lv:Nat->Prop) (t:Trace) (l:Loc):Prop:=match o with
 | some k=>Perm t k l
 | none=>Mh a lv t l
def Auq (O:Wh) (t:Trace):Prop:=∀(i:Nat) (op:MemOp) (x:Touch),t[i]?=some op->op.act.touch?=some x->O.sh x.loc->x.kind≠.plain/\(x.kind=.said->op.g=O.say x.loc)
structure Vh (O:Wh) (t:Trace) (n:Nat):Prop where
 hush:Auq O t
 own:∀l,¬O.sh l->¬O.ro l->Hj (O.own l) (O.lk l) (fun k=>O.live k l) t l
 ro:∀l,¬O.sh l->O.ro l->∀k,O.live k l->PermW t k l
 nr:∀said,¬Race said t
 pl:∀i a,touchAt t i=some a->¬O.sh a.loc->a.kind≠.atomic/\a.loc.isMemory=true
 gs:∀(i:Nat) (op:MemOp),t[i]?=some op->op.g < n
def OkT (O:Wh) (k:Nat) (op:MemOp):Prop:=op.g=k/\∀x,op.act.touch?=some x ->
 (O.sh x.loc/\x.kind≠.plain/\(x.kind=.said->k=O.say x.loc))\/(¬O.sh x.loc/\x.kind≠.atomic/\x.loc.isMemory=true/\((¬O.ro x.loc/\O.own x.loc=some k)\/(O.ro x.loc/\O.live k x.loc/\x.write=false)))
section
variable {O O':Wh} {t u:Trace} {n k g:Nat} {l:Loc}
theorem Auq.known {said:Bool} {b:Touch} (h:Auq O t) (hb:O.sh b.loc) (hk:b.kind≠.plain) (hs:b.kind=.said->g=O.say b.loc):∀i a,touchAt t i=some a->a.conflicts said b->Knows t g i:=by
 intro i a ha hc;obtain⟨x,hx,xd⟩:=touch_of ha;obtain⟨hloc,_,_,kv⟩:=hc;obtain⟨h1,h2⟩:=h i x a hx xd (by rw[hloc];exact hb);rcases kv with e|e|⟨_,e1,e2⟩
 ·exact absurd e h1
 ·exact absurd e hk
 ·have:=knows_own hx
  rwa [h2 e1,hloc,<- hs e2] at this
theorem Mh.app {a:Addr} {lv:Nat->Prop} (h:Mh a lv t l) (hu:∀op∈u,∀b,op.act.touch?=some b->b.loc≠l):Mh a lv (t++u) l:=fun i x hx hl=>by
 obtain⟨z,hz,jl⟩:=touch_of hx;rcases getElem?_append_cases hz with⟨_,hz'⟩|⟨_,hzu⟩
 ·rcases h i x (by rw[touchAt_of hz'];exact jl) hl with⟨r,q1,q2,q3⟩|q
  ·have hr:r < t.size:=lt_of_act? q1;exact .inl ⟨r,by rw[act?_old hr];exact q1,(heard_old hr).2 q2,q3.app u⟩
  ·exact .inr fun k hk=>(q k hk).app u
 ·exact absurd hl (hu z hzu x jl)
theorem Hj.app {o:Option Nat} {a:Addr} {lv:Nat->Prop} (h:Hj o a lv t l) (hu:∀op∈u,∀b,op.act.touch?=some b->b.loc=l->o=some op.g):Hj o a lv (t++u) l:=by
 cases o with
 | some k=>exact Perm.app (show Perm t k l from h) fun op hop b hb e=>by have:=hu op hop b hb e;injection this with this;exact this.symm
 | none=>exact Mh.app h fun op hop b hb e=>by have:=hu op hop b hb e;cases this
theorem Hj.mono {o:Option Nat} {a:Addr} {lv lv':Nat->Prop} (h:Hj o a lv t l) (hl:∀k,lv' k->lv k):Hj o a lv' t l:=by
 cases o with
 | some k=>exact h
 | none=>exact fun i x hx e=>(h i x hx e).imp id fun q k hk=>q k (hl k hk)
theorem Hj.fresh {o:Option Nat} {a:Addr} {lv:Nat->Prop} (h:∀i x,touchAt t i=some x->x.loc≠l):Hj o a lv t l:=by
 cases o with
 | some k=>exact Perm.fresh h
 | none=>exact fun i x hx e=>absurd e (h i x hx)
theorem Hj.silent {o:Option Nat} {a:Addr} {lv lv':Nat->Prop} (h:Hj o a lv t l) (hu:∀op∈u,op.act.touch?=none) (hl:∀k,lv' k->lv k\/∃k',lv k'/\∀i,Knows t k' i->Knows (t++u) k i):Hj o a lv' (t++u) l:=by
 cases o with
 | some k=>exact Perm.silent h hu
 | none =>
  intro i x hx e;have hx':=Ah hu hx;rcases h i x hx' e with⟨r,q1,q2,q3⟩|q
  ·have hr:r < t.size:=lt_of_act? q1;exact .inl ⟨r,by rw[act?_old hr];exact q1,(heard_old hr).2 q2,q3.app u⟩
  ·refine .inr fun k hk=>?_;rcases hl k hk with r|⟨k',r,r2⟩
   ·exact(q k r).app u
   ·exact r2 i (q k' r)
theorem Vh.app (h:Vh O t n) (hk:k < n) (hu:∀op∈u,OkT O k op):Vh O (t++u) n:=by
 refine⟨fun i op x hi hx hs=>?_,fun l hs hr=>(h.own l hs hr).app fun op hop b hb e=>?_,fun l hs hr k' hk'=>(h.ro l hs hr k' hk').app fun op hop b hb e hw=>?_,fun said=>?_,fun i a ha hs=>?_,fun i op hi=>?_⟩
 ·rcases getElem?_append_cases hi with⟨_,hi'⟩|⟨_,hop⟩
  ·exact h.hush i op x hi' hx hs
  ·rcases (hu op hop).2 x hx with⟨_,q,q2⟩|⟨q,_⟩
   ·exact⟨q,fun e=>(hu op hop).1.trans (q2 e)⟩
   ·exact absurd hs q
 ·subst e;rcases (hu op hop).2 b hb with⟨q,_⟩|⟨_,_,_,⟨_,q⟩|⟨q,_⟩⟩
  ·exact absurd q hs
  ·rw[(hu op hop).1];exact q
  ·exact absurd q hr
 ·subst e;rcases (hu op hop).2 b hb with⟨q,_⟩|⟨_,_,_,⟨q,_⟩|⟨_,_,q⟩⟩
  ·exact absurd q hs
  ·exact absurd hr q
  ·rw[q] at hw;cases hw
 ·refine noRace_append (h.nr said) (fun op hop=>(hu op hop).1) fun i a ha op hop b hb hc=>?_;rcases (hu op hop).2 b hb with⟨q,q2,q3⟩|⟨q1,_,_,⟨q2,q3⟩|⟨q2,q3,q4⟩⟩
  ·exact h.hush.known q q2 q3 i a ha hc
  ·have:=h.own b.loc q1 q2;rw[q3] at this;exact this i a ha hc.1
  ·exact h.ro b.loc q1 q2 k q3 i a ha hc.1 (hc.2.2.1.resolve_right (by simp[q4]))
 ·obtain⟨x,hx,xd⟩:=touch_of ha;rcases getElem?_append_cases hx with⟨_,hx'⟩|⟨_,hop⟩
  ·exact h.pl i a (by rw[touchAt_of hx'];exact xd) hs
  ·rcases (hu x hop).2 a xd with⟨q,_⟩|⟨_,q1,q2,_⟩
   ·exact absurd q hs
   ·exact⟨q1,q2⟩
 ·rcases getElem?_append_cases hi with⟨_,hi'⟩|⟨_,hiu⟩
  ·exact h.gs i op hi'
  ·rw[(hu op hiu).1];exact hk
theorem Vh.silent (h:Vh O t n) {n':Nat} (hn:n<=n') (hu:∀op∈u,op.act.touch?=none/\op.g < n'):Vh O (t++u) n':=by
 have no:∀op∈u,∀b,op.act.touch?=some b->False:=fun op hop b hb=>by rw[(hu op hop).1] at hb;cases hb
 refine⟨fun i op x hi hx hs=>?_,fun l hs hr=>(h.own l hs hr).app fun op hop b hb _=>(no op hop b hb).elim,fun l hs hr k' hk'=>(h.ro l hs hr k' hk').app fun op hop b hb _ _=>(no op hop b hb).elim,fun said=>?_,fun i a ha hs=>h.pl i a (Ah (fun op hop=>(hu op hop).1) ha) hs,fun i op hi=>?_⟩
 ·rcases getElem?_append_cases hi with⟨_,hi'⟩|⟨_,hop⟩
  ·exact h.hush i op x hi' hx hs
  ·exact(no op hop x hx).elim
 ·have:=N6 (said:=said) u.toList (h.nr said) fun op hop=>(hu op (by simpa using hop)).1;simpa using this
 ·rcases getElem?_append_cases hi with⟨_,hi'⟩|⟨_,hiu⟩
  ·exact Nat.lt_of_lt_of_le (h.gs i op hi') hn
  ·exact(hu op hiu).2
theorem Vh.anew (h:Vh O t n) (hq:∀(i:Nat) (op:MemOp) (x:Touch),t[i]?=some op->op.act.touch?=some x->O'.sh x.loc->(O.sh x.loc/\O'.say x.loc=O.say x.loc)\/(x.kind≠.plain/\(x.kind=.said->op.g=O'.say x.loc)))
  (ho:∀l,¬O'.sh l->¬O'.ro l->Hj (O'.own l) (O'.lk l) (fun k=>O'.live k l) t l) (hr:∀l,¬O'.sh l->O'.ro l->∀k,O'.live k l->PermW t k l) (hsh:∀i a,touchAt t i=some a->O.sh a.loc->O'.sh a.loc):Vh O' t n :=
 ⟨fun i op x hi hx hs=>by
  rcases hq i op x hi hx hs with⟨q1,q2⟩|q
  ·rw[q2];exact h.hush i op x hi hx q1
  ·exact q,ho,hr,h.nr,fun i a ha hs=>h.pl i a ha fun q=>hs (hsh i a ha q),h.gs⟩
theorem Vh.counts (h:Vh O t n) {i:Nat} {a:Touch} (ha:touchAt t i=some a) (hs:¬O.sh a.loc):t.counts i:=⟨a,ha,(h.pl i a ha hs).2,.inl (h.pl i a ha hs).1⟩
def Nc (t:Trace):Prop:=∀op∈t,∀a,op.act≠.mark (.release a)
theorem Nc.app (h:Nc t) (hu:∀op∈u,∀a,op.act≠.mark (.release a)):Nc (t++u):=fun op hop a=>(Array.mem_append.1 hop).elim (fun x=>h op x a) fun x=>hu op x a
theorem Nc.at (h:Nc t) (a:Addr):NoRelease a t:=fun i hi=>by
 unfold Trace.act? at hi;obtain⟨op,ho,e⟩:=Option.map_eq_some_iff.1 hi;exact h op (Array.mem_of_getElem? ho) a e
theorem Hs {p c:Nat} {x y:MemOp} (hx:x.g=p/\x.act=.go c) (hy:y.g=c/\y.act=.start) (h0:Deaf t p=0) (hk:Deaf t c=0) {i:Nat} (h:Knows t p i):Knows (t++#[x,y]) c i:=by
 have hxp:(t++#[x,y])[t.size]?=some x:=by rw[Array.getElem?_append_right (Nat.le_refl _)];simp
 have hyp:(t++#[x,y])[t.size+1]?=some y:=by rw[Array.getElem?_append_right (by omega)];simp
 have h1:HappensBefore (t++#[x,y]) i t.size:=h.hb_new (Nat.le_refl _) hxp hx.1;have e0:(t++#[x,y]).heard t.size:=⟨p,by simp[Trace.g?,hx.1],by rw[deaf_old (Nat.le_refl _)];exact h0⟩;have e1:(t++#[x,y]).heard (t.size+1):=⟨c,by simp[Trace.g?,hy.1],by rw[deaf_succ hxp,deaf_old (Nat.le_refl _)];simp only[deafStep,hx.2];exact hk⟩;exact⟨t.size+1,y,hyp,hy.1,.inr (h1.trans (.single (.inr ⟨.spawn (child:=c) (by rw[act?_of hxp,hx.2]) (by rw[act?_of hyp,hy.2]) (by simp[Trace.g?,hy.1]),e0,e1⟩)))⟩
theorem Yi {ad:Addr} {k r p:Nat} {y:MemOp} (h:RelBy ad t k r) (hn:Nc (t++#[y])) (hy:y.g=p/\y.act=.mark (.acquire ad)) (h0:Deaf t p=0):∀i,Before t i r->Knows (t++#[y]) p i:=by
 intro i hi;have p1:(t++#[y])[t.size]?=some y:=by rw[Array.getElem?_append_right (Nat.le_refl _)];simp
 have hr:r < t.size:=lt_of_act? h.act;refine⟨t.size,y,p1,hy.1,.inr ((hi.app _).hb (.single (.inr ⟨.marked (a:=ad) hr (.inr (by rw[act?_old hr];exact h.act)) (by rw[act?_of p1,hy.2]) (fun k _ _=>hn.at ad k),(heard_old hr).2 h.heard,⟨p,by simp[Trace.g?,hy.1],by rw[deaf_old (Nat.le_refl _)];exact h0⟩⟩)))⟩
theorem Mh.acquire {ad:Addr} {p:Nat} {lv:Nat->Prop} {y:MemOp} (h:Mh ad lv t l) (hn:Nc (t++#[y])) (hy:y.g=p/\y.act=.mark (.acquire ad)) (h0:Deaf t p=0) (hl:lv p):Perm (t++#[y]) p l:=fun i x hx e=>by
 have hx':=Ah (fun op hop=>by rw[show op=y by simpa using hop,hy.2];rfl) hx;have p1:(t++#[y])[t.size]?=some y:=by rw[Array.getElem?_append_right (Nat.le_refl _)];simp
 rcases h i x hx' e with⟨r,q1,q2,q3⟩|q
 ·have hr:r < t.size:=lt_of_act? q1;exact⟨t.size,y,p1,hy.1,.inr ((q3.app _).hb (.single (.inr ⟨.marked (a:=ad) hr (.inr (by rw[act?_old hr];exact q1)) (by rw[act?_of p1,hy.2]) (fun k _ _=>hn.at ad k),(heard_old hr).2 q2,⟨p,by simp[Trace.g?,hy.1],by rw[deaf_old (Nat.le_refl _)];exact h0⟩⟩)))⟩
 ·exact(q p hl).app _
theorem Mh.release {ad:Addr} {p:Nat} {lv:Nat->Prop} {y:MemOp} (h:Perm t p l) (hy:y.g=p/\y.act=.mark (.releaseMerge ad)) (h0:Deaf t p=0):Mh ad lv (t++#[y]) l:=fun i x hx e=>by
 have hx':=Ah (fun op hop=>by rw[show op=y by simpa using hop,hy.2];rfl) hx;have p1:(t++#[y])[t.size]?=some y:=by rw[Array.getElem?_append_right (Nat.le_refl _)];simp
 exact .inl ⟨t.size,by rw[act?_of p1,hy.2],⟨p,by simp[Trace.g?,hy.1],by rw[deaf_old (Nat.le_refl _)];exact h0⟩,.inr ((h i x hx' e).hb_new (Nat.le_refl _) p1 hy.1)⟩
theorem R4 {ad:Addr} {k r p:Nat} {y:MemOp} (h:RelBy ad t k r) (hn:Nc (t++#[y])) (hy:y.g=p/\y.act=.mark (.acquire ad)) (h0:Deaf t p=0) {i:Nat} (hi:t.g? i=some k) (hc:t.counts i):Knows (t++#[y]) p i:=by
 refine Yi h hn hy h0 i ?_;have hle:i<=r:=Nat.le_of_not_lt fun hlt=>h.after i hlt hi hc;exact Yg hi h.g hle
end
end Go.Proofs.YtbicafgmfgdckaaGreatDoor
