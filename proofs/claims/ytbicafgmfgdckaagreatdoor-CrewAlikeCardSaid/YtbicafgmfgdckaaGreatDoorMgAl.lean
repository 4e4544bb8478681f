/- A piece. -/
import Derived.Test.YtbicafgmfgdckaaGreatDoorMgAj
import Derived.Test.YtbicafgmfgdckaaGreatDoorMgAk
set_option maxRecDepth 100000
set_option maxHeartbeats 16000000
set_option linter.all false
namespace Go.Proofs.YtbicafgmfgdckaaGreatDoor
open Go Go.Conc
open Go.ConcR (KK wgBlock WgAt stA smA rd wr mk)
open Go.ConcN (sumTo upd upd_same upd_ne RelBy PermW WgLive)
section
variable {ty:TypeId} {top:Nat} {I I':Ab} {p:Ph} {c:Ir} {w w':World} {i j k n:Nat} {t u:Trace} {P:Program} {Post:Value->World->Prop} {es:Array Event} {tag:Nat->B6} {x:B6}
def S9 (I:Ab) (i:Nat) (e:Event):Prop :=
 (∃a wr,e=⟨.cell a,wr,true⟩/\a.block < I.hs/\((∃s,I.bk a.block=.shd s)\/(I.bk a.block=.mix/\I.ow a.block a.off=none)\/(I.bk a.block=.lock/\a.off < 2)))\/((∀x,(MemAct.ofEvent e).touch?=some x->x.kind=.atomic/\blk x.loc < I.hs/\∃s,I.bk (blk x.loc)=.shd s)/\∀a,MemAct.ofEvent e≠.mark (.release a))\/(∃m a,e.loc=.mark m/\(m=.read a\/m=.write a)/\a.block < I.hs/\I.bk a.block=.shd i)
theorem Ht {i:Nat} {m:Mark} (h:m=.disable\/m=.enable\/(∃a,m=.releaseMerge a)\/∃a,m=.acquire a):S9 I i ⟨.mark m,false,true⟩:=by
 refine .inr (.inl ?_);rw[Go.ConcR.ofEvent_loc_mark (e:=⟨.mark m,false,true⟩) rfl];rcases h with rfl|rfl|⟨a,rfl⟩|⟨a,rfl⟩<;>exact⟨(fun x hx=>by cases hx),by simp⟩
theorem Aaq {fn:FuncId} {pos:String} {e:Event} (h:S9 I i e) (hw:I'.wh.sh=I.wh.sh) (hs:I'.wh.say=I.wh.say):OkT I'.wh i { g:=i,fn,pos,act:=.ofEvent e }/\(∀x,(MemAct.ofEvent e).touch?=some x->blk x.loc < I.hs)/\∀a,MemAct.ofEvent e≠.mark (.release a):=by
 rcases h with⟨a,wr,rfl,h1,h2⟩|⟨e2,e3⟩|⟨m,a,hm,h,h1,h2⟩
 ·have e1:∀x,(MemAct.ofEvent ⟨.cell a,wr,true⟩).touch?=some x->x=⟨.cell a,wr,.atomic⟩:=fun x hx=>by
   rw[Go.ConcR.ofEvent_cell] at hx;simpa [MemAct.touch?,eq_comm] using hx
  refine⟨⟨rfl,fun x hx=>?_⟩,fun x hx=>?_,fun b=>by rw[Go.ConcR.ofEvent_cell];simp⟩
  ·obtain rfl:=e1 x hx;exact .inl ⟨by rw[hw];exact h2,by simp,by simp⟩
  ·obtain rfl:=e1 x hx;exact h1
 ·exact⟨⟨rfl,fun x hx=>.inl ⟨by rw[hw];exact .inl (e2 x hx).2.2,by rw[(e2 x hx).1];simp,fun q=>by rw[(e2 x hx).1] at q;cases q⟩⟩,fun x hx=>(e2 x hx).2.1,e3⟩
 ·have e1:MemAct.ofEvent e=.mark m:=Go.ConcR.ofEvent_loc_mark hm;rw[e1];have e2:∀x,(MemAct.mark m).touch?=some x->x.loc=.cell a/\x.kind=.said:=fun x hx=>by
   rcases h with rfl|rfl<;>(simp only[MemAct.touch?,Option.some.injEq] at hx;subst hx;exact⟨rfl,rfl⟩)
  refine⟨⟨rfl,fun x hx=>?_⟩,fun x hx=>?_,fun b=>by rcases h with rfl|rfl<;>simp⟩
  ·obtain⟨q1,q2⟩:=e2 x hx;refine .inl ⟨by rw[hw,q1];exact .inl ⟨i,h2⟩,by rw[q2];simp,fun _=>?_⟩;rw[hs,q1];simp only[Ab.wh,blk,h2]
  ·rw[(e2 x hx).1];exact h1
def Aep (I I':Ab):Prop:=I'={ I with tag:=I'.tag,deaf:=I'.deaf }
theorem Aep.refl (I:Ab):Aep I I:=rfl
theorem Aep.set (I:Ab) (i:Nat) (x:B6):Aep I (I.setTag i x):=rfl
theorem Iq.cells' (hT:Iq I t) (hI:Ae ty top I w) (hp:I.ph≠none) (hi:i < I.cnt) (hwho:i=0\/∃lo,I.lo=some lo/\lo<=i) (hes:∀e∈es,S9 I i e) (e1:I'.bk=I.bk) (e2:I'.ow=I.ow) (e3:I'.hs=I.hs) (e4:I'.cnt=I.cnt) (e5:I'.ph=I.ph) (e9:I'.col=I.col) (e10:I'.sk.lo=I.sk.lo) (e6:∀k,k≠i->I'.tag k=I.tag k) (e7:∀k,k≠i->I'.deaf k=I.deaf k)
  (e8:I'.deaf i=deafBehind (I.deaf i) es) (hl:I'.tag i≠.gone->I.tag i≠.gone) {fn:FuncId} {pos:String}
  (ej:∀p,I.ph=some p->p.b<=i->(I'.tag i).said->∃r,RelBy (stA p.wg) (t++MemOp.ofEvents i fn pos es) i r):Iq I' (t++MemOp.ofEvents i fn pos es):=by
 have hm:I'.mixAt=I.mixAt:=funext (Re e2);have w1:I'.wh.sh=I.wh.sh:=by simp only[Ab.wh,e1,hm]
 have w2:I'.wh.say=I.wh.say:=by simp only[Ab.wh,e1]
 refine Iq.own hT e5 e9 (fun op hop=>by obtain⟨e,_,rfl⟩:=Cc hop;rfl) hwho (fun _ _ q=>absurd q hp) ?_ e7 ?_ (fun op hop a=>?_) (fun m a ha=>?_) (fun k hk h1 h2=>?_) ej (fun _ _ q=>absurd q hp)
 ·rw[e4];refine(hT.d.low hT.low (fun b _=>by rw[e1]) e2 e10 fun k l _ hk=>⟨by have:=hk.1;rwa [e4] at this,fun q=>?_,fun m q=>hk.2.2 m (by rw[e1];exact q)⟩).app hi fun op hop=>?_
  ·by_cases ek:k=i
   ·subst ek;exact hl hk.2.1 q
   ·exact hk.2.1 (by rw[e6 k ek];exact q)
  ·obtain⟨e,he,rfl⟩:=Cc hop;exact(Aaq (hes e he) w1 w2).1
 ·rw[Deaf_own,hT.deaf i,e8]
 ·obtain⟨e,he,rfl⟩:=Cc hop;exact(Aaq (fn:=fn) (pos:=pos) (hes e he) w1 w2).2.2 a
 ·rw[e3];obtain⟨y,hy,ze⟩:=touch_of ha;rcases getElem?_append_cases hy with⟨_,hy'⟩|⟨_,hop⟩
  ·exact hT.low m a (by rw[touchAt_of hy'];exact ze)
  ·obtain⟨e,he,rfl⟩:=Cc hop;exact(Aaq (fn:=fn) (pos:=pos) (hes e he) w1 w2).2.1 a ze
 ·rw[e4] at h1;rw[e6 k hk] at h2;exact⟨h1,h2⟩
theorem Iq.cells (hT:Iq I t) (hI:Ae ty top I w) (hp:I.ph≠none) (hi:i < I.cnt) (hwho:i=0\/∃lo,I.lo=some lo/\lo<=i) (hes:∀e∈es,S9 I i e) (e:Aep I I') (e6:∀k,k≠i->I'.tag k=I.tag k) (e7:∀k,k≠i->I'.deaf k=I.deaf k)
  (e8:I'.deaf i=deafBehind (I.deaf i) es) (hl:I'.tag i≠.gone->I.tag i≠.gone) {fn:FuncId} {pos:String}
  (ej:∀p,I.ph=some p->p.b<=i->(I'.tag i).said->∃r,RelBy (stA p.wg) (t++MemOp.ofEvents i fn pos es) i r):Iq I' (t++MemOp.ofEvents i fn pos es) :=
 Iq.cells' hT hI hp hi hwho hes (by rw[e]) (by rw[e]) (by rw[e]) (by rw[e]) (by rw[e]) (by rw[e]) (by rw[e]) e6 e7 e8 hl ej
theorem Bh (w:World) (a:Addr) (v:Value) {b:Nat} (h:b≠a.block):(w.setCell a v).heap[b]?=w.heap[b]?:=by rw[Bg,if_neg h]
theorem C5 (w:World) (a:Addr) (v:Value):(w.setCell a v).heap.size=w.heap.size:=by simp[World.setCell]
theorem Core.refeed (h:Core ty I p w) (hx:x.feeds) (hst:(I.setTag p.f x).started p=I.started p) (hadd:∀j q,x=.add j q->j<=p.W/\(q=0\/(q=1/\j < p.W))/\I.next=0) (hcl:x.closed=(I.tag p.f).closed)
  (qr:∃st sm,WgAt ty p.wg w' st sm/\Dl (upd I.tag p.f x) p st sm) (hh:∀b,b≠p.wg->w'.heap[b]?=w.heap[b]?) (hx2:x=.feed->I.deaf p.f=0):Core ty (I.setTag p.f x) p w':=by
 have tf:(I.setTag p.f x).tag p.f=x:=upd_same _ _ _;have tn:∀k,k≠p.f->(I.setTag p.f x).tag k=I.tag k:=fun k hk=>upd_ne _ _ hk;have tw:∀k,p.b<=k->(I.setTag p.f x).tag k=I.tag k:=fun k hk=>tn k (by have:=h.fd;omega);have nb:∀n,¬x.at_ n:=fun n q=>by rcases q with q|q<;>(rw[q] at hx;exact hx)
 refine⟨h.bwg,h.bjobs,h.bstop,h.ne,fun b m hb e=>?_,h.fixm,h.fd,by rw[tf];exact hx,by rw[hst];exact h.cnt,fun j q e=>hadd j q (tf.symm.trans e),fun k h1 h2 h3=>(tn k h1).trans (h.rest k h1 h2 h3),fun k hk=>by rw[tw k hk];exact h.wtag k hk,fun hc k h1 h2=>?_,qr,?_,(hh _ h.ne.2.1).trans h.stop,h.stpk,fun y hy=>?_,h.nle,fun hc=>h.full (by rw[<- hcl,<- tf];exact hc),h.busy.of (fun k y e=>?_) rfl fun _=>Iff.rfl,fun k hk=>?_,h.small,h.pos,fun q=>?_,fun q=>(h.seek q).retag (fun y r=>by rw[r] at hx;exact hx) (fun y r=>by have:=h.ftag;rw[r] at this;exact this) (hh _ fun r=>by have:=(h.seek q).bout;rw[r,h.bwg] at this;cases this) (hh _ (h.seek q).ne.1),h.nomix⟩
 ·rw[hh b (fun q=>by have e':I.bk b=.fix m:=e;rw[q,h.bwg] at e';cases e')];exact h.fix b m hb e
 ·rw[tw k h1];exact h.early (by rw[<- hcl,<- tf];exact hc) k h1 h2
 ·obtain⟨s,q⟩:=h.jobs;exact⟨s,by rw[hh _ h.ne.1,tf,hcl];exact q⟩
 ·rcases h.job y hy with q|⟨m,q1,q2⟩
  ·exact .inl q
  ·exact .inr ⟨m,q1,by rw[tw m q1];exact q2⟩
 ·by_cases q:k=p.f
  ·rw[q,tf] at e;exact absurd e (nb y)
  ·rw[tn k q] at e;exact e
 ·by_cases q:k=p.f
  ·subst q;rw[tf] at hk;rcases hk with e|e
   ·rw[e] at hx;exact hx.elim
   ·exact hx2 e
  ·rw[tn k q] at hk;exact h.hear k hk
 ·have hF:=h.fill q;refine⟨hF.bout,?_,fun k y e=>?_,hF.mine,hF.owm,hF.mixo,fun k y e=>?_⟩
  ·obtain⟨cs,q,q2⟩:=hF.out;exact⟨cs,by rw[hh _ (fun e=>by have:=hF.bout;rw[e,h.bwg] at this;cases this)];exact q,q2⟩
  ·by_cases q:k=p.f
   ·rw[q,tf] at e;exact absurd (.inl e) (nb y)
   ·rw[tn k q] at e;exact hF.busy k y e
  ·by_cases q:k=p.f
   ·rw[q,tf] at e;exact absurd (.inr e) (nb y)
   ·rw[tn k q] at e;exact hF.nog k y e
theorem Ae.crew (hI:Ae ty top I w) (hp:I.ph=some p) (h:Core ty (I.setTag i x) p w') (hi:(i=p.f/\x.feeds)\/(p.b<=i/\i < I.cnt)) (hx:∀y,x≠.give y) (hs:w'.heap.size=w.heap.size) (hh:∀b,I.bk b≠.shd p.f->w'.heap[b]?=w.heap[b]?):Ae ty top (I.setTag i x) w':=by
 have hC:=hI.core _ hp;have zk:=hC.fd;have hfc:p.f < I.cnt:=by have:=hC.cnt;omega
 have hic:i < I.cnt:=by rcases hi with⟨e,_⟩|⟨_,e⟩<;>omega
 have hg:i=0->x≠.gone:=fun e q=>by
  rcases hi with⟨_,r⟩|⟨r,_⟩
  ·rw[q] at r;exact r
  ·omega
 have noph:∀ {q:Prop},(I.setTag i x).ph=none->q:=fun q=>by
  have q':I.ph=none:=q;rw[hp] at q';cases q'
 refine⟨by rw[hs];exact hI.hs,hI.cnt,?_,fun k hk=>?_,fun q=>noph q,fun p' hp'=>?_,fun c hc=>?_,fun c _ q=>noph q,hI.mate,hI.alone,hI.top⟩
 ·show upd I.tag i x 0≠_;by_cases e:0=i
  ·rw[<- e,upd_same];exact hg e.symm
  ·rw[upd_ne _ _ e];exact hI.main
 ·show upd I.tag i x k=_;have:I.cnt<=k:=hk;rw[upd_ne _ _ (by omega)];exact hI.un k hk
 ·obtain rfl:=Ag hp hp';exact h
 ·have hK:=hI.coll c hc;have hm:=hI.mate p c hp hc;have pz:=hK.f.1;refine hK.retag hI.hs ((upd_ne _ _ (by omega)).trans hK.tag0) ?_ rfl rfl hK.bdn (fun _ _ q=>q) rfl (fun k y e=>?_) (hh _ (by rw[hK.bdn];intro q;injection q with q;omega)) fun b _ q=>hh b (by rw[q];simp)
  ·show (upd I.tag i x c.f).ended=_;by_cases e:c.f=i
   ·rw[e,upd_same];have h1:=hC.ftag;rw[hm.1,e] at h1;rcases hi with⟨_,r⟩|⟨r,_⟩
    ·cases e1:x<;>rw[e1] at r<;>first|exact r.elim | (cases e2:I.tag i<;>rw[e2] at h1<;>first|exact h1.elim|rfl)
    ·omega
   ·rw[upd_ne _ _ e]
  ·have e':upd I.tag i x k=.give y:=e;by_cases q:k=i
   ·rw[q,upd_same] at e';exact absurd e' (hx y)
   ·rw[upd_ne _ _ q] at e';exact⟨e',rfl,rfl,rfl,fun B _ _ r=>⟨r,hh B (by rw[r];simp)⟩⟩
theorem Am3 (hI:Ae ty top I w) (hp:I.ph=some p) (e:Aep I I') (e6:I'.tag j=I.tag j) (e7:I'.deaf j=I.deaf j) (hv:p.f=j->Et I'.tag p<=Et I.tag p) (ht:w'.tape=w.tape) (hh:∀b,I.bk b≠.shd p.f->w'.heap[b]?=w.heap[b]?):G5 j I w I' w':=by
 have hC:=hI.core _ hp;have e1:I'.bk=I.bk:=by rw[e]
 have e3:I'.hs=I.hs:=by rw[e]
 have e5:I'.ph=I.ph:=by rw[e]
 have noph:∀ {q:Prop},I.ph=none->q:=fun q=>by rw[hp] at q;cases q
 refine⟨e6,e7,⟨by rw[e],by rw[e]⟩,fun _=>⟨by rw[e3];exact Nat.le_refl _,fun _ _ _=>by rw[e1],fun b h1 h2=>by rw[e3] at h1;rw[e1] at h2;exact⟨h1,h2⟩,fun b hb e=>hh b fun q=>?_,ht,fun _ q=>e5.trans q.1,fun q=>noph q,by rw[e],fun p' hp' e'=>⟨by rw[e],?_⟩,fun _ _ q=>noph q,fun _ _ _ _ q=>noph q,(fun _ _=>by rw[e];exact Nat.le_refl _),(fun _ _ x=>by rw[e]),(fun _ _ q=>by rw[e];exact q),(fun _=>by rw[e]),fun p' hp' hk=>.of (c1:=by rw[e]) (by rw[e]) fun _=>by
  obtain rfl:=Ag hp hp'.1;simp only[World.cell?,hh p.out (by rw[(hC.seek hk).bout];simp)]⟩⟩
 ·rw[q] at e;rcases e with e|⟨m,_,e⟩<;>cases e
 ·obtain rfl:=Ag hp hp'.1;exact hv e'
theorem Alv (h:∀i,p.b<=i->i < p.b+n->(tag i).cw=1) (h0:∀i,p.b+n<=i->(tag i).cw=0) (hn:n<=p.W):Et tag p=n:=by
 have key:∀m,sumTo m (fun j=>(tag (p.b+j)).cw)=min m n:=by
  intro m
  induction m with
  | zero=>simp[sumTo]
  | succ m ih =>
   simp only[sumTo,ih];by_cases e:m < n
   ·rw[h (p.b+m) (by omega) (by omega)];omega
   ·rw[h0 (p.b+m) (by omega)];omega
 unfold Et;rw[key];omega
theorem Core.vc_early (h:Core ty I p w) (hI:Ae ty top I w) (hc:(I.tag p.f).closed=false):Et I.tag p=I.started p:=by
 refine Alv (n:=I.started p) (fun i h1 h2=>?_) (fun i hi=>?_) (by have:=h.cntW;have:=h.cnt;omega)
 ·have:=h.early hc i h1 (by rw[h.cnt];exact h2);cases e:I.tag i<;>rw[e] at this<;>first|rfl|exact this.elim
 ·rw[hI.un i (by rw[h.cnt];exact hi)];rfl
theorem Fs (hI:Ae ty top I w) (hp:I.ph=some p) (hwho:i=p.f\/p.b<=i):i=0\/∃lo,I.lo=some lo/\lo<=i:=by
 have h:=hI.core _ hp;have zk:=h.fd;unfold Ab.lo;cases hc:I.col with
 | none =>
  rcases hwho with e|e
  ·left;rw[e,(hI.alone p hp hc).1]
  ·right;exact⟨p.b,by rw[hp];rfl,e⟩
 | some c =>
  have hm:=(hI.mate p c hp hc).1;right;exact⟨c.f,rfl,by rcases hwho with e|e<;>omega⟩
theorem Ip (hI:Ae ty top I w) (hp:I.ph=some p) (hi:i < I.cnt) (hwho:i=p.f\/p.b<=i) (hI':Ae ty top I' w') (hes:∀e∈es,S9 I i e) (e:Aep I I')
  (e6:∀k,k≠i->I'.tag k=I.tag k) (e7:∀k,k≠i->I'.deaf k=I.deaf k) (e8:I'.deaf i=deafBehind (I.deaf i) es) (hl:I'.tag i≠.gone->I.tag i≠.gone) (hv:p.f≠i->Et I'.tag p<=Et I.tag p) (ht:w'.tape=w.tape) (hh:∀b,b≠p.wg->w'.heap[b]?=w.heap[b]?)
  (ej:∀t fn pos,Iq I t->p.b<=i->(I'.tag i).said->∃r,RelBy (stA p.wg) (t++MemOp.ofEvents i fn pos es) i r) {wk:Prop} (na:wk\/i=p.f\/∀j,j≠i->E5 ty j I w->E5 ty j I' w') (hos:Cq w w':=by exact .of rfl rfl):(Al P ty top Post).Do i I w I' w' wk es:=by
 have h:=hI.core _ hp;have e4:I'.cnt=I.cnt:=by rw[e]
 refine⟨hI',fun j' hj'=>Am3 hI hp e (e6 _ hj') (e7 _ hj') (fun e=>hv (by rw[e];exact hj')) ht (fun b hb=>hh b fun q=>hb (by rw[q];exact h.bwg)),fun t fn pos hT=>hT.cells hI (by rw[hp];simp) hi (Fs hI hp hwho) hes e e6 e7 e8 hl fun p' hp' hb hs=>?_,fun j' cases c r hj' hof hc hr=>.inl ?_,?_,e4,hos⟩
 ·obtain rfl:=Ag hp hp';exact ej t fn pos hT hb hs
 ·exact hh _ ((Kx hI hof hc hr).2.2 p hp)
 ·rcases na with q|q|q
  ·exact .inl q
  ·refine .inr fun j' hj' hw=>?_;cases hw with
   | wg p'' st q1 q2 =>
    obtain rfl:=Ag hp q1;exact absurd (q2.trans q.symm) hj'
   | que p'' m q1 q2 q3 q4 q5 =>
    have es:I'.sk=I.sk:=by rw[e]
    exact .que p'' m ((by rw[e]:I'.ph=I.ph).trans q1) q2 q3 (by rw[es];exact q4) (by rw[es];exact q5)
  ·exact .inr q
theorem K7 (hI:Ae ty top I w) (hp:I.ph=some p) (qq:Core ty (I.setTag p.f x) p w') (hx:x.feeds) (hs:w'.heap.size=w.heap.size) (ht:w'.tape=w.tape) (hh:∀b,b≠p.wg->w'.heap[b]?=w.heap[b]?) (hes:∀e∈es,S9 I p.f e) (hd:deafBehind (I.deaf p.f) es=I.deaf p.f) (wk:Prop) (hos:Cq w w':=by exact .of rfl rfl) :
  (Al P ty top Post).Do p.f I w (I.setTag p.f x) w' wk es:=by
 have h:=hI.core _ hp;have hfc:p.f < I.cnt:=by have:=h.fd;have:=h.cnt;omega
 exact Ip hI hp hfc (.inl rfl) (hI.crew hp qq (.inl ⟨rfl,hx⟩) (fun y q=>by rw[q] at hx;exact hx) hs fun b hb=>hh b fun q=>hb (by rw[q];exact h.bwg)) hes (.set _ _ _) (fun k hk=>upd_ne _ _ hk) (fun _ _=>rfl) hd.symm (fun _ q=>by have:=h.ftag;rw[q] at this;exact this) (fun e=>absurd rfl e) ht hh (fun t fn pos _ hb=>by have:=h.fd;omega) (.inr (.inl rfl)) hos
theorem G4 (hI:Ae ty top I w) (hp:I.ph=some p) (a:Addr) (b:Bool) (ha:a.block=p.wg) (i:Nat):S9 I i ⟨.cell a,b,true⟩:=.inl ⟨a,b,rfl,by rw[ha];exact((hI.core _ hp).lts hI.hs).1,.inl ⟨p.f,by rw[ha];exact(hI.core _ hp).bwg⟩⟩
theorem M6 (hI:Ae ty top I w) (hp:I.ph=some p) (hes:∀e∈es,(∃a b,e=⟨.cell a,b,true⟩/\a.block=p.wg)\/∃a,a.block=p.wg/\(e=mk (.read a)\/e=mk (.write a))) (wk:Prop):(Al P ty top Post).Do p.f I w I w wk es:=by
 have h:=hI.core _ hp;have hfc:p.f < I.cnt:=by have:=h.fd;have:=h.cnt;omega
 have hlt:=(h.lts hI.hs).1;have still:deafBehind (I.deaf p.f) es=I.deaf p.f:=deafBehind_still _ fun e he=>by
  rcases hes e he with⟨a,b,rfl,_⟩|⟨a,_,rfl|rfl⟩<;>simp[mk]
 refine Ip hI hp hfc (.inl rfl) hI (fun e he=>?_) (.refl _) (fun _ _=>rfl) (fun _ _=>rfl) still.symm id (fun e=>absurd rfl e) rfl (fun _ _=>rfl) (fun t fn pos _ hb=>by have:=h.fd;omega) (.inr (.inl rfl));rcases hes e he with⟨a,b,rfl,ha⟩|⟨a,ha,rfl|rfl⟩
 ·exact G4 hI hp a b ha _
 ·exact .inr (.inr ⟨_,a,rfl,.inl rfl,by rw[ha];exact hlt,by rw[ha];exact h.bwg⟩)
 ·exact .inr (.inr ⟨_,a,rfl,.inr rfl,by rw[ha];exact hlt,by rw[ha];exact h.bwg⟩)
theorem Apa (hI:Ae ty top I w) (hp:I.ph=some p) (ht:I.tag p.f=.add p.W 0) (hd:I.deaf p.f=0) (wk:Prop):(Al P ty top Post).Do p.f I w (I.setTag p.f .feed) w wk #[]:=by
 have h:=hI.core _ hp;have hcl:(I.tag p.f).closed=false:=by rw[ht];rfl
 have hv:=h.vc_early hI hcl;refine K7 hI hp (h.refeed (x:=.feed) trivial (by unfold Ab.started;rw[show (I.setTag p.f B6.feed).tag p.f=B6.feed from upd_same _ _ _,ht]) (fun _ _ e=>by cases e) (by rw[ht];rfl) ?_ (fun _ _=>rfl) fun _=>hd) trivial rfl rfl (fun _ _=>rfl) (fun e he=>by simp at he) rfl wk;obtain⟨st,sm,q1,q2⟩:=h.wgm;refine⟨st,sm,q1,?_⟩;cases q2 with
 | opn _ q4 =>
  have:=Dl.opn (tag:=upd I.tag p.f .feed) (p:=p) (by rw[upd_same];trivial) fun i hi=>by rw[upd_ne _ _ (by have:=h.fd;omega)];exact q4 i hi
  rw[Mk _ h.fd,upd_same] at this;rw[ht];exact this
 | reg q=>rw[ht] at q;cases q
 | last _ _ q=>rw[ht] at q;cases q
 | sema q=>rw[ht] at q;cases q
 | fin q=>rw[ht] at q;cases q
theorem Core.nolast (h:Core ty I p w) (ht:I.tag p.f=.shut):WgAt ty p.wg w (((Et I.tag p:Nat):Int) * KK) 0/\∀i,p.b<=i->¬(I.tag i).lasts:=by
 obtain⟨st,sm,q1,q2⟩:=h.wgm;cases q2 with
 | opn _ q4=>rw[ht] at q1;exact⟨by simpa [B6.pend] using q1,q4⟩
 | reg q=>rw[ht] at q;cases q
 | last _ _ q=>rw[ht] at q;cases q
 | sema q=>rw[ht] at q;cases q
 | fin q=>rw[ht] at q;cases q
theorem Core.allgone (h:Core ty I p w) (hv:Et I.tag p=0) (hnl:∀i,p.b<=i->¬(I.tag i).lasts) (hI:Ae ty top I w):∀i,p.b<=i->I.tag i=.gone:=by
 intro i hb;by_cases hi:i < I.cnt
 ·have h0:(I.tag i).cw=0:=by
   have:=Go.ConcN.le_sumTo (f:=fun j=>(I.tag (p.b+j)).cw) (i:=i - p.b) (j:=p.W) (by have:=h.cntW;omega);rw[show p.b+(i - p.b)=i by omega] at this;unfold Et at hv;omega
  have h1:=h.wtag i hb;have h2:=hnl i hb;cases e:I.tag i<;>rw[e] at h0 h1 h2<;>first|rfl|exact h1.elim|exact absurd trivial h2 | (simp[B6.cw] at h0)
 ·exact hI.un i (by omega)
theorem Ar7 (hI:Ae ty top I w) (hp:I.ph=some p) (ht:I.tag p.f=.shut) (hv:Et I.tag p=0) (wk:Prop):(Al P ty top Post).Do p.f I w (I.setTag p.f .thru) w wk #[rd (stA p.wg)]:=by
 have h:=hI.core _ hp;obtain⟨q1,q2⟩:=h.nolast ht;have hg:=h.allgone hv q2 hI;refine K7 hI hp (h.refeed (x:=.thru) trivial (by unfold Ab.started;rw[show (I.setTag p.f B6.thru).tag p.f=B6.thru from upd_same _ _ _,ht]) (fun _ _ e=>by cases e) (by rw[ht];rfl) ⟨0,0,by rw[hv] at q1;simpa using q1,?_⟩ (fun _ _=>rfl) fun e=>by cases e) trivial rfl rfl (fun _ _=>rfl) (fun e he=>?_) rfl wk
 ·exact .fin (upd_same _ _ _) fun i hi=>by rw[upd_ne _ _ (by have:=h.fd;omega)];exact hg i hi
 ·simp only[List.mem_toArray,List.mem_singleton] at he;subst he;exact G4 hI hp _ _ rfl _
theorem At9 (hI:Ae ty top I w) (hp:I.ph=some p) (ht:I.tag p.f=.shut) (hv:1<=Et I.tag p) (wk:Prop):(Al P ty top Post).Do p.f I w (I.setTag p.f .reg) (w.setCell (stA p.wg) (.int .u64 (((Et I.tag p:Nat):Int) * KK+1))) wk #[rd (stA p.wg),wr (stA p.wg)]:=by
 have h:=hI.core _ hp;obtain⟨q1,q2⟩:=h.nolast ht;have hsame:∀b,b≠p.wg->(w.setCell (stA p.wg) (.int .u64 (((Et I.tag p:Nat):Int) * KK+1))).heap[b]?=w.heap[b]?:=fun b hb=>Bh _ _ _ hb;refine K7 hI hp (h.refeed (x:=.reg) trivial (by unfold Ab.started;rw[show (I.setTag p.f B6.reg).tag p.f=B6.reg from upd_same _ _ _,ht]) (fun _ _ e=>by cases e) (by rw[ht];rfl) ⟨_,0,q1.setSt _,?_⟩ hsame fun e=>by cases e) trivial (C5 _ _ _) rfl hsame (fun e he=>?_) rfl wk
 ·have:=Dl.reg (tag:=upd I.tag p.f .reg) (p:=p) (upd_same _ _ _) (fun i hi=>by rw[upd_ne _ _ (by have:=h.fd;omega)];exact q2 i hi) (by rw[Mk _ h.fd];exact hv);rw[Mk _ h.fd] at this;exact this
 ·simp only[List.mem_toArray,List.mem_cons,List.not_mem_nil,or_false] at he;rcases he with rfl|rfl<;>exact G4 hI hp _ _ rfl _
theorem Agr (hI:Ae ty top I w) (hp:I.ph=some p) (ht:I.tag p.f=.reg) (hw:WgAt ty p.wg w 0 1) (wk:Prop):(Al P ty top Post).Do p.f I w (I.setTag p.f .thru) (w.setCell (smA p.wg) (.int .u32 0)) wk (semEvents (smA p.wg)):=by
 have h:=hI.core _ hp;obtain⟨st,sm,q1,q2⟩:=h.wgm;obtain⟨e1,e2⟩:=Go.ConcR.WgAt.unique hw q1;have hg:∀i,p.b<=i->I.tag i=.gone:=by
  cases q2 with
  | opn q=>rw[ht] at q;exact q.elim
  | reg=>cases e2
  | last=>cases e2
  | sema _ q=>exact q
  | fin q=>rw[ht] at q;cases q
 have hsame:∀b,b≠p.wg->(w.setCell (smA p.wg) (.int .u32 0)).heap[b]?=w.heap[b]?:=fun b hb=>Bh _ _ _ hb;refine K7 hI hp (h.refeed (x:=.thru) trivial (by unfold Ab.started;rw[show (I.setTag p.f B6.thru).tag p.f=B6.thru from upd_same _ _ _,ht]) (fun _ _ e=>by cases e) (by rw[ht];rfl) ⟨0,0,hw.setSm _,?_⟩ hsame fun e=>by cases e) trivial (C5 _ _ _) rfl hsame (fun e he=>?_) ?_ wk
 ·exact .fin (upd_same _ _ _) fun i hi=>by rw[upd_ne _ _ (by have:=h.fd;omega)];exact hg i hi
 ·simp only[semEvents,List.mem_toArray,List.mem_cons,List.not_mem_nil,or_false] at he;rcases he with rfl|rfl|rfl|rfl
  ·exact Ht (.inl rfl)
  ·exact G4 hI hp _ _ rfl _
  ·exact G4 hI hp _ _ rfl _
  ·exact Ht (.inr (.inl rfl))
 ·simp[semEvents,deafBehind]
theorem Aja (hI:Ae ty top I w) (hp:I.ph=some p) (ht:I.tag p.f=.reg):(E5 ty p.f I w/\∃st,WgAt ty p.wg w st 0)\/WgAt ty p.wg w 0 1:=by
 have h:=hI.core _ hp;obtain⟨st,sm,q1,q2⟩:=h.wgm;cases q2 with
 | opn q=>rw[ht] at q;exact q.elim
 | reg=>exact .inl ⟨.wg p _ hp rfl ht q1,_,q1⟩
 | last=>exact .inl ⟨.wg p _ hp rfl ht q1,_,q1⟩
 | sema=>exact .inr q1
 | fin q=>rw[ht] at q;cases q
theorem Aub (hI:Ae ty top I w) (hp:I.ph=some p) (ht:I.tag p.f=.add j 0) (hj:j < p.W) (wk:Prop):WgAt ty p.wg w ((j:Int) * KK) 0 /\
  (Al P ty top Post).Do p.f I w (I.setTag p.f (.add j 1)) (w.setCell (stA p.wg) (.int .u64 (((j:Int)+1) * KK))) wk #[rd (stA p.wg),wr (stA p.wg)]:=by
 have h:=hI.core _ hp;have hfc:p.f < I.cnt:=by have:=h.fd;have:=h.cnt;omega
 have hcl:(I.tag p.f).closed=false:=by rw[ht];rfl
 have hv:Et I.tag p=j:=by rw[h.vc_early hI hcl];unfold Ab.started;rw[ht]
 have hnl:∀i,p.b<=i->¬(I.tag i).lasts:=fun i hb=>by
  by_cases hi:i < I.cnt
  ·have:=h.early hcl i hb hi;intro q;cases e:I.tag i<;>rw[e] at this q<;>first|exact this|exact q
  ·rw[hI.un i (by omega)];exact id
 have qr:WgAt ty p.wg w ((j:Int) * KK) 0:=by
  obtain⟨st,sm,q1,q2⟩:=h.wgm;cases q2 with
  | opn=>rw[hv,ht] at q1;simpa [B6.pend] using q1
  | reg q=>rw[ht] at q;cases q
  | last _ _ q=>rw[ht] at q;cases q
  | sema q=>rw[ht] at q;cases q
  | fin q=>rw[ht] at q;cases q
 refine⟨qr,?_⟩;have hsame:∀b,b≠p.wg->(w.setCell (stA p.wg) (.int .u64 (((j:Int)+1) * KK))).heap[b]?=w.heap[b]?:=fun b hb=>Bh _ _ _ hb;have hadd:=h.add j 0 ht;have hwg':∃st sm,WgAt ty p.wg (w.setCell (stA p.wg) (.int .u64 (((j:Int)+1) * KK))) st sm/\Dl (upd I.tag p.f (.add j 1)) p st sm:=by
  have hm:Dl (upd I.tag p.f (.add j 1)) p (((Et (upd I.tag p.f (.add j 1)) p+((upd I.tag p.f (.add j 1)) p.f).pend:Nat):Int) * KK) 0 :=
   .opn (by rw[upd_same];trivial) fun i hi=>by rw[upd_ne _ _ (by have:=h.fd;omega)];exact hnl i hi
  rw[Mk _ h.fd,hv,upd_same] at hm;exact⟨_,_,qr.setSt _,by simpa [B6.pend] using hm⟩
 have qq:=h.refeed (x:=.add j 1) (w':=w.setCell (stA p.wg) (.int .u64 (((j:Int)+1) * KK))) trivial (by unfold Ab.started;rw[show (I.setTag p.f (B6.add j 1)).tag p.f=B6.add j 1 from upd_same _ _ _,ht]) (fun j' q' e=>by injection e with e1 e2;subst e1 e2;exact⟨by omega,.inr ⟨rfl,hj⟩,hadd.2.2⟩) (by rw[ht];rfl) hwg' hsame (fun e=>by cases e);obtain⟨l1,_⟩:=h.lts hI.hs;refine K7 hI hp qq trivial (C5 _ _ _) rfl hsame (fun e he=>?_) rfl wk;simp only[List.mem_toArray,List.mem_cons,List.not_mem_nil,or_false] at he;rcases he with rfl|rfl
 ·exact .inl ⟨stA p.wg,false,rfl,l1,.inl ⟨p.f,h.bwg⟩⟩
 ·exact .inl ⟨stA p.wg,true,rfl,l1,.inl ⟨p.f,h.bwg⟩⟩
theorem Ao8 (hI:Ae ty top I w) (hp:I.ph=some p) (ht:I.tag p.f=.feed) (hn:I.next=p.n\/I.stp=true) {s:Nat} (hj:w.heap[p.jobs]?=some (.chan 0 #[] false s s false)) (wk:Prop) (hwk:wk):(Al P ty top Post).Do p.f I w (I.setTag p.f .shut) (w.setChan p.jobs 0 #[] true s s false) wk #[⟨.obj p.jobs,false,true⟩,⟨.obj p.jobs,true,true⟩]:=by
 have h:=hI.core _ hp;have hfc:p.f < I.cnt:=by have:=h.fd;have:=h.cnt;omega
 obtain⟨l1,l2,l3⟩:=h.lts hI.hs;have tf:(I.setTag p.f .shut).tag p.f=.shut:=upd_same _ _ _;have tn:∀k,k≠p.f->(I.setTag p.f .shut).tag k=I.tag k:=fun k hk=>upd_ne _ _ hk;have tw:∀k,p.b<=k->(I.setTag p.f .shut).tag k=I.tag k:=fun k hk=>tn k (by have:=h.fd;omega);have hsz:(w.setChan p.jobs 0 #[] true s s false).heap.size=w.heap.size:=by simp[World.setChan]
 have hsame:∀b,b≠p.jobs->(w.setChan p.jobs 0 #[] true s s false).heap[b]?=w.heap[b]?:=fun b hb=>heap_setChan _ _ _ _ _ _ _ _ hb;have np:∀b,I.bk b≠.shd p.f->(w.setChan p.jobs 0 #[] true s s false).heap[b]?=w.heap[b]?:=fun b hb=>hsame b fun q=>hb (by rw[q];exact h.bjobs);have noph:∀ {q:Prop},I.ph=none->q:=fun q=>by rw[hp] at q;cases q
 have hC:Core ty (I.setTag p.f .shut) p (w.setChan p.jobs 0 #[] true s s false):=by
  refine⟨h.bwg,h.bjobs,h.bstop,h.ne,fun b m hb e=>?_,h.fixm,h.fd,by rw[tf];trivial,?_,(fun j q e=>by rw[tf] at e;cases e),fun k h1 h2 h3=>(tn k h1).trans (h.rest k h1 h2 h3),fun k hk=>by rw[tw k hk];exact h.wtag k hk,(fun hc=>by rw[tf] at hc;cases hc),?_,⟨s,?_⟩,(hsame _ (Ne.symm h.ne.2.2)).trans h.stop,h.stpk,fun y hy=>?_,h.nle,fun _=>hn,h.busy.of (fun k y e=>?_) rfl fun _=>Iff.rfl,fun k hk=>?_,h.small,h.pos,fun q=>?_,fun q=>(h.seek q).retag (fun y r=>by cases r) (fun y r=>by rw[ht] at r;cases r) (hsame _ fun r=>by have:=(h.seek q).bout;rw[r,h.bjobs] at this;cases this) (hsame _ (h.seek q).ne.2.1),h.nomix⟩
  ·rw[hsame b (fun q=>by have e':I.bk b=.fix m:=e;rw[q,h.bjobs] at e';cases e')];exact h.fix b m hb e
  ·show I.cnt=p.b+(I.setTag p.f .shut).started p;have:=h.cnt;unfold Ab.started at this ⊢;rw[tf];rw[ht] at this;exact this
  ·obtain⟨st,sm,q1,q2⟩:=h.wgm;refine⟨st,sm,q1.of_block (hsame _ (Ne.symm h.ne.1)),?_⟩;cases q2 with
   | opn _ q4 =>
    have:=Dl.opn (tag:=upd I.tag p.f .shut) (p:=p) (by rw[upd_same];trivial) fun i hi=>by rw[upd_ne _ _ (by have:=h.fd;omega)];exact q4 i hi
    rw[Mk _ h.fd,upd_same] at this;rw[ht];exact this
   | reg q=>rw[ht] at q;cases q
   | last _ _ q=>rw[ht] at q;cases q
   | sema q=>rw[ht] at q;cases q
   | fin q=>rw[ht] at q;cases q
  ·rw[Dj _ _ _ _ _ _ _ _ (by rw[<- hI.hs];exact l2),tf];rfl
  ·rcases h.job y hy with q|⟨m,q1,q2⟩
   ·exact .inl q
   ·exact .inr ⟨m,q1,by rw[tw m q1];exact q2⟩
  ·by_cases q:k=p.f
   ·rw[q,tf] at e;rcases e with e|e<;>cases e
   ·rw[tn k q] at e;exact e
  ·by_cases q:k=p.f
   ·rw[q,tf] at hk;rcases hk with e|e<;>cases e
   ·rw[tn k q] at hk;exact h.hear k hk
  ·have hF:=h.fill q;refine⟨hF.bout,?_,fun k y e=>?_,hF.mine,hF.owm,hF.mixo,fun k y e=>?_⟩
   ·obtain⟨cs,q,q2⟩:=hF.out;exact⟨cs,by rw[hsame _ (fun e=>by have:=hF.bout;rw[e,h.bjobs] at this;cases this)];exact q,q2⟩
   ·by_cases q:k=p.f
    ·rw[q,tf] at e;cases e
    ·rw[tn k q] at e;exact hF.busy k y e
   ·by_cases q:k=p.f
    ·rw[q,tf] at e;cases e
    ·rw[tn k q] at e;exact hF.nog k y e
 refine⟨hI.crew hp hC (.inl ⟨rfl,trivial⟩) (fun y q=>by cases q) hsz np,fun j' hj'=>Am3 hI hp (.set _ _ _) (upd_ne _ _ hj') rfl (fun e=>absurd e.symm hj') rfl np,fun t fn pos hT=>?_,fun _ _ _ _ _ _ _ _=>.inr hwk,.inl hwk,rfl,.of rfl rfl⟩;have h1:Iq I (t++MemOp.ofEvents p.f fn pos #[⟨.obj p.jobs,false,true⟩,⟨.obj p.jobs,true,true⟩]):=hT.cells hI (by rw[hp];simp) hfc (Fs hI hp (.inl rfl)) (fun e he=>by
    simp only[List.mem_toArray,List.mem_cons,List.not_mem_nil,or_false] at he;rcases he with rfl|rfl
    ·refine .inr (.inl ⟨fun x hx=>?_,by simp[MemAct.ofEvent]⟩);simp only[MemAct.ofEvent,MemAct.touch?,Option.some.injEq] at hx;subst hx;exact⟨rfl,l2,_,h.bjobs⟩
    ·exact .inr (.inl ⟨fun x hx=>by simp[MemAct.ofEvent,MemAct.touch?] at hx,by simp[MemAct.ofEvent]⟩)) (.refl _) (fun _ _=>rfl) (fun _ _=>rfl) rfl id fun p' hp' hb=>by
     obtain rfl:=Ag hp hp';exact absurd hb (Nat.not_le_of_lt h.fd)
 exact h1.retag (by rw[hp];simp) (fun k l hk=>⟨hk.1,fun e=>hk.2.1 (by
   show upd I.tag p.f _ k=_;rw[upd_ne _ _ (fun q=>by subst q;rw[ht] at e;cases e)];exact e),hk.2.2⟩) fun _ _ _ _ q=>q.elim
theorem Core.rework (h:Core ty I p w) (hb:p.b<=i) (hcl:(I.tag p.f).closed=true) (hx:x.works) (hid:x≠.idle/\x≠.feed) (hbz:∀n,¬x.at_ n) (qd:∀n,¬(I.tag i).at_ n) (qr:∃st sm,WgAt ty p.wg w' st sm/\Dl (upd I.tag i x) p st sm) (hh:∀b,b≠p.wg->w'.heap[b]?=w.heap[b]?):Core ty (I.setTag i x) p w':=by
 have hfi:p.f≠i:=by have:=h.fd;omega
 have tf:(I.setTag i x).tag p.f=I.tag p.f:=upd_ne _ _ hfi;refine⟨h.bwg,h.bjobs,h.bstop,h.ne,fun b m hb e=>?_,h.fixm,h.fd,by rw[tf];exact h.ftag,?_,fun j q e=>by rw[tf] at e;exact h.add j q e,fun k h1 h2 h3=>?_,fun k hk=>?_,(fun hc=>by rw[tf,hcl] at hc;cases hc),qr,?_,(hh _ h.ne.2.1).trans h.stop,h.stpk,fun y hy=>?_,h.nle,by rw[tf];exact h.full,h.busy.of (fun k y e=>?_) rfl fun _=>Iff.rfl,fun k hk=>?_,h.small,h.pos,fun q=>?_,fun q=>(h.seek q).retag (fun y r=>hbz y (.inr r)) (fun y r=>qd y (.inl r)) (hh _ fun r=>by have:=(h.seek q).bout;rw[r,h.bwg] at this;cases this) (hh _ (h.seek q).ne.1),h.nomix⟩
 ·rw[hh b (fun q=>by have e':I.bk b=.fix m:=e;rw[q,h.bwg] at e';cases e')];exact h.fix b m hb e
 ·show I.cnt=p.b+(I.setTag i x).started p;have:=h.cnt;unfold Ab.started at this ⊢;rw[tf];exact this
 ·show upd I.tag i _ k=_;rw[upd_ne _ _ (by omega)];exact h.rest k h1 h2 h3
 ·show (upd I.tag i _ k).works;by_cases q:k=i
  ·subst q;rw[upd_same];exact hx
  ·rw[upd_ne _ _ q];exact h.wtag k hk
 ·obtain⟨s,q⟩:=h.jobs;exact⟨s,by rw[hh _ h.ne.1,tf];exact q⟩
 ·rcases h.job y hy with q|⟨m,q1,q2⟩
  ·exact .inl q
  ·refine .inr ⟨m,q1,?_⟩;show (upd I.tag i _ m).at_ y;rw[upd_ne _ _ (fun q=>by subst q;exact qd y q2)];exact q2
 ·have e':(upd I.tag i x k).at_ y:=e;by_cases q:k=i
  ·subst q;rw[upd_same] at e';exact absurd e' (hbz y)
  ·rw[upd_ne _ _ q] at e';exact e'
 ·refine h.hear k (hk.imp (fun e=>?_) fun e=>?_) <;>
   (have e':upd I.tag i x k=_:=e
    by_cases q:k=i
    ·subst q;rw[upd_same] at e';first|exact absurd e' hid.1|exact absurd e' hid.2
    ·rwa [upd_ne _ _ q] at e')
 ·have hF:=h.fill q;refine⟨hF.bout,?_,fun k y e=>?_,hF.mine,hF.owm,hF.mixo,fun k y e=>?_⟩
  ·obtain⟨cs,q,q2⟩:=hF.out;exact⟨cs,by rw[hh _ (fun e=>by have:=hF.bout;rw[e,h.bwg] at this;cases this)];exact q,q2⟩
  ·have e':upd I.tag i x k=.busy y:=e;by_cases q:k=i
   ·subst q;rw[upd_same] at e';exact absurd (.inl e') (hbz y)
   ·rw[upd_ne _ _ q] at e';exact hF.busy k y e'
  ·have e':upd I.tag i x k=.give y:=e;by_cases q:k=i
   ·subst q;rw[upd_same] at e';exact absurd (.inr e') (hbz y)
   ·rw[upd_ne _ _ q] at e';exact hF.nog k y e'
theorem Ae.rework (hI:Ae ty top I w) (hp:I.ph=some p) (hb:p.b<=i) (hi:i < I.cnt) (h:Core ty (I.setTag i x) p w') (hx:∀y,x≠.give y) (hs:w'.heap.size=w.heap.size) (hh:∀b,b≠p.wg->w'.heap[b]?=w.heap[b]?):Ae ty top (I.setTag i x) w' :=
 hI.crew hp h (.inr ⟨hb,hi⟩) hx hs fun b hb=>hh b fun q=>hb (by rw[q];exact(hI.core _ hp).bwg)
theorem Core.shutTag (h:Core ty I p w) (hc:(I.tag p.f).closed=true):I.tag p.f=.shut\/I.tag p.f=.reg\/I.tag p.f=.thru:=by
 have:=h.ftag;cases e:I.tag p.f<;>rw[e] at this hc<;>first|exact this.elim | (cases hc;done) | simp
theorem Nz (hI:Ae ty top I w) (hp:I.ph=some p) (hb:p.b<=i) (hi:i < I.cnt) (hn:¬(I.tag i).early):(I.tag p.f).closed=true:=by
 cases e:(I.tag p.f).closed with
 | true=>rfl
 | false=>exact absurd ((hI.core _ hp).early e i hb hi) hn
theorem Ahc (hp:I.ph=some p) (hw:E5 ty j I w) (e0:I'.ph=I.ph) (e1:I'.tag j=I.tag j) {st:Int} (h:WgAt ty p.wg w' st 0) (es:I'.sk=I.sk:=by rfl):E5 ty j I' w':=by
 cases hw with
 | wg p' st' h1 h2 h3 _ =>
  obtain rfl:=Ag hp h1;exact .wg p st (e0.trans hp) h2 (e1.trans h3) h
 | que p' m h1 h2 h3 h4 h5=>exact .que p' m (e0.trans h1) h2 h3 (by rw[es];exact h4) (by rw[es];exact h5)
theorem Ags (hI:Ae ty top I w) (hp:I.ph=some p) (hb:p.b<=i) (hi:i < I.cnt) (ht:I.tag i=.out) (hd:I.deaf i=0) (wk:Prop):(Al P ty top Post).Do i I w (I.setTag i .rel) w wk #[mk (.releaseMerge (stA p.wg))]:=by
 have h:=hI.core _ hp;have hcl:=Nz hI hp hb hi (by rw[ht];exact id);have hI':Ae ty top (I.setTag i .rel) w:=Wa hI hp hb hi trivial id (by rw[ht];exact⟨rfl,rfl⟩) (.inl hcl) (by simp) (by simp[B6.at_]) (by rw[ht];simp[B6.at_]) (by rw[ht];simp);refine Ip hI hp hi (.inr hb) hI' (fun e he=>?_) (.set _ _ _) (fun k hk=>upd_ne _ _ hk) (fun _ _=>rfl) rfl (fun _=>by rw[ht];simp) (fun _=>?_) rfl (fun _ _=>rfl) (fun t fn pos hT _ _=>?_) (.inr (.inr fun j hj hw=>Fw hw rfl (upd_ne _ _ hj) fun _ _=>rfl))
 ·simp only[List.mem_toArray,List.mem_singleton] at he;subst he;exact Ht (.inr (.inr (.inl ⟨_,rfl⟩)))
 ·show Et (upd I.tag i .rel) p<=_;have:=Gq (tag:=I.tag) .rel hb (by have:=h.cntW;omega);rw[ht] at this;simp only[B6.cw] at this;omega
 ·exact⟨t.size,Go.ConcN.RelBy.new (by rw[hT.deaf];exact hd) fn pos⟩
theorem Oo (hT:Iq I t) (hp:I.ph=some p) (hb:p.b<=i) (hi:i < I.cnt) (hs:(I.tag i).said) (hd:0 < I.deaf i) (hes:∀e∈es,∃a b,e=⟨.cell a,b,true⟩) (fn:FuncId) (pos:String):∃r,RelBy (stA p.wg) (t++MemOp.ofEvents i fn pos es) i r:=by
 obtain⟨r,hr⟩:=hT.rel p hp i hb hi hs;refine⟨r,Go.ConcN.RelBy.appOwn hr fn pos es fun j e he=>.inr ?_⟩;obtain⟨a,b,rfl⟩:=hes e (Array.mem_of_getElem? he);refine⟨⟨a,b,rfl⟩,?_⟩;rw[deafBehind_still _ fun e he'=>by
  obtain⟨a,b,rfl⟩:=hes e (by
   have:=Array.mem_extract_iff_getElem.1 he';obtain⟨k,hk,e1⟩:=this;rw[<- e1];exact Array.getElem_mem _)
  simp,hT.deaf]
 exact hd
theorem Asg (hI:Ae ty top I w) (hp:I.ph=some p) (hb:p.b<=i) (hi:i < I.cnt) (ht:I.tag i=.rel) (hd:0 < I.deaf i) (wk:Prop) :
  ∃v wt:Nat,wt<=1/\v < 2147483647/\WgAt ty p.wg w (((v+1:Nat):Int) * KK+wt) 0 /\
   (Al P ty top Post).Do i I w (I.setTag i (if v=0/\wt=1 then .last 2 else .gone)) (w.setCell (stA p.wg) (.int .u64 ((v:Int) * KK+wt))) wk #[rd (stA p.wg),wr (stA p.wg)]:=by
 have h:=hI.core _ hp;have hcl:=Nz hI hp hb hi (by rw[ht];exact id);have hfi:p.f≠i:=by have:=h.fd;omega
 have hiW:i < p.b+p.W:=by have:=h.cntW;omega
 have ru:=fun x=>Gq (tag:=I.tag) (i:=i) x hb hiW;have hcw:(I.tag i).cw=1:=by rw[ht];rfl
 have hpos:1<=Et I.tag p:=by
  have:=Go.ConcN.le_sumTo (f:=fun j=>(I.tag (p.b+j)).cw) (i:=i - p.b) (j:=p.W) (by omega);rw[show p.b+(i - p.b)=i by omega,hcw] at this;exact this
 have hle:Et I.tag p<=p.W:=by
  have:=Go.ConcN.sumTo_le (f:=fun j=>(I.tag (p.b+j)).cw) (c:=1) (j:=p.W) fun k _=>by cases (I.tag (p.b+k))<;>simp[B6.cw]
  unfold Et;omega
 have hsm:=h.small;have fin:∀(x:B6) (V wt:Nat),(x=.gone\/x=.last 2)->WgAt ty p.wg w (((V+1:Nat):Int) * KK+wt) 0->(∃st sm,WgAt ty p.wg (w.setCell (stA p.wg) (.int .u64 ((V:Int) * KK+wt))) st sm/\Dl (upd I.tag i x) p st sm) ->
   (Al P ty top Post).Do i I w (I.setTag i x) (w.setCell (stA p.wg) (.int .u64 ((V:Int) * KK+wt))) wk #[rd (stA p.wg),wr (stA p.wg)]:=by
  intro x V wt hx hw qr;have hsame:∀b,b≠p.wg->(w.setCell (stA p.wg) (.int .u64 ((V:Int) * KK+wt))).heap[b]?=w.heap[b]?:=fun b hb=>Bh _ _ _ hb;have hxw:x.works:=by rcases hx with rfl|rfl<;>trivial
  have qq:=h.rework (i:=i) (x:=x) (w':=w.setCell (stA p.wg) (.int .u64 ((V:Int) * KK+wt))) hb hcl hxw (by rcases hx with rfl|rfl<;>simp) (by rcases hx with rfl|rfl<;>simp[B6.at_]) (by rw[ht];simp[B6.at_]) qr hsame;refine Ip hI hp hi (.inr hb) (hI.rework hp hb hi qq (by rcases hx with rfl|rfl<;>simp) (C5 _ _ _) hsame) (fun e he=>?_) (.set _ _ _) (fun k hk=>upd_ne _ _ hk) (fun _ _=>rfl) rfl (fun _=>by rw[ht];simp) (fun _=>?_) rfl hsame (fun t fn pos hT _ _=>?_) (.inr (.inr fun j hj hwt=>Ahc hp hwt rfl (upd_ne _ _ hj) (hw.setSt _)))
  ·simp only[List.mem_toArray,List.mem_cons,List.not_mem_nil,or_false] at he;rcases he with rfl|rfl<;>exact G4 hI hp _ _ rfl _
  ·show Et (upd I.tag i x) p<=_;have:=ru x;have h0:x.cw=0:=by rcases hx with rfl|rfl<;>rfl
   omega
  ·refine Oo hT hp hb hi (by rw[ht];trivial) hd (fun e he=>?_) fn pos;simp only[List.mem_toArray,List.mem_cons,List.not_mem_nil,or_false] at he;rcases he with rfl|rfl
   ·exact⟨_,_,rfl⟩
   ·exact⟨_,_,rfl⟩
 have lastOf:∀(hnl:∀k,p.b<=k->¬(I.tag k).lasts) (x:B6),¬x.lasts->∀k,p.b<=k->¬(upd I.tag i x k).lasts:=fun hnl x hx k hk=>by
  by_cases q:k=i
  ·subst q;rw[upd_same];exact hx
  ·rw[upd_ne _ _ q];exact hnl k hk
 obtain⟨V,hV⟩:∃V,Et I.tag p=V+1:=⟨Et I.tag p - 1,by omega⟩;have hv0:∀x:B6,x.cw=0->Et (upd I.tag i x) p=V:=fun x hx=>by have:=ru x;omega
 obtain⟨st,sm,q1,q2⟩:=h.wgm;cases q2 with
 | opn q3 q4 =>
  have uz:(I.tag p.f).pend=0:=by
   rcases h.shutTag hcl with e|e|e<;>rw[e]<;>rfl
  rw[uz,hV] at q1;have hw:WgAt ty p.wg w (((V+1:Nat):Int) * KK+(0:Nat)) 0:=by simpa using q1
  refine⟨V,0,by omega,by omega,hw,?_⟩;rw[if_neg (by omega)];refine fin .gone V 0 (.inl rfl) hw ⟨_,_,hw.setSt _,?_⟩;have hm:=Dl.opn (tag:=upd I.tag i .gone) (p:=p) (by rw[upd_ne _ _ hfi];exact q3) (lastOf q4 .gone id);rw[upd_ne _ _ hfi,uz,hv0 .gone rfl] at hm;simpa using hm
 | reg q3 q4 q5 =>
  rw[hV] at q1;have hw:WgAt ty p.wg w (((V+1:Nat):Int) * KK+(1:Nat)) 0:=by simpa using q1
  refine⟨V,1,by omega,by omega,hw,?_⟩;by_cases e:V=0
  ·rw[if_pos ⟨e,rfl⟩];refine fin (.last 2) V 1 (.inr rfl) hw ⟨_,_,hw.setSt _,?_⟩;subst e;have hm:=Dl.last (tag:=upd I.tag i (.last 2)) (p:=p) i 2 (by rw[upd_ne _ _ hfi];exact q3) hb (upd_same _ _ _) fun k hk sw=>by
    rw[upd_ne _ _ sw];by_cases hkc:k < I.cnt
    ·have h0:(I.tag k).cw=0:=by
      have h1:=Go.ConcN.le_sumTo (f:=fun j=>(upd I.tag i (.last 2) (p.b+j)).cw) (i:=k - p.b) (j:=p.W) (by have:=h.cntW;omega);rw[show p.b+(k - p.b)=k by omega,upd_ne _ _ sw] at h1;have h2:=hv0 (.last 2) rfl;unfold Et at h2;omega
     have h1:=h.wtag k hk;have h2:=q4 k hk;cases e:I.tag k<;>rw[e] at h0 h1 h2<;>first|rfl|exact h1.elim|exact absurd trivial h2 | (simp[B6.cw] at h0)
    ·exact hI.un k (by omega)
   simpa using hm
  ·rw[if_neg (by omega)];refine fin .gone V 1 (.inl rfl) hw ⟨_,_,hw.setSt _,?_⟩;have hm:=Dl.reg (tag:=upd I.tag i .gone) (p:=p) (by rw[upd_ne _ _ hfi];exact q3) (lastOf q4 .gone id) (by rw[hv0 .gone rfl];omega);rw[hv0 .gone rfl] at hm;simpa using hm
 | last L k q3 q4 q5 q6 =>
  exfalso;by_cases e:i=L
  ·subst e;rw[ht] at q5;cases q5
  ·have:=q6 i hb e;rw[ht] at this;cases this
 | sema q3 q4=>have:=q4 i hb;rw[ht] at this;cases this
 | fin q3 q4=>have:=q4 i hb;rw[ht] at this;cases this
theorem Nt (hI:Ae ty top I w) (hp:I.ph=some p) (hb:p.b<=i) (ht:I.tag i=.last k):I.tag p.f=.reg/\WgAt ty p.wg w (if k=1 then 0 else 1) 0/\∀m,p.b<=m->m≠i->I.tag m=.gone:=by
 have h:=hI.core _ hp;obtain⟨st,sm,q1,q2⟩:=h.wgm;cases q2 with
 | opn _ q=>exact absurd trivial (by have:=q i hb;rw[ht] at this;exact this)
 | reg _ q=>exact absurd trivial (by have:=q i hb;rw[ht] at this;exact this)
 | last L k' q3 q4 q5 q6 =>
  by_cases e:i=L
  ·subst e;rw[ht] at q5;injection q5 with q5;subst q5;exact⟨q3,q1,q6⟩
  ·have:=q6 i hb e;rw[ht] at this;cases this
 | sema q3 q4=>have:=q4 i hb;rw[ht] at this;cases this
 | fin q3 q4=>have:=q4 i hb;rw[ht] at this;cases this
theorem Ar9 (hI:Ae ty top I w) (hp:I.ph=some p) (hb:p.b<=i) (hi:i < I.cnt) (ht:I.tag i=.last 2) (hd:0 < I.deaf i) (wk:Prop):(Al P ty top Post).Do i I w I w wk #[rd (stA p.wg)]:=by
 refine Ip hI hp hi (.inr hb) hI (fun e he=>?_) (.refl _) (fun _ _=>rfl) (fun _ _=>rfl) rfl id (fun _=>Nat.le_refl _) rfl (fun _ _=>rfl) (fun t fn pos hT _ _=>?_) (.inr (.inr fun _ _ h=>h))
 ·simp only[List.mem_toArray,List.mem_singleton] at he;subst he;exact G4 hI hp _ _ rfl _
 ·refine Oo hT hp hb hi (by rw[ht];trivial) hd (fun e he=>?_) fn pos;simp only[List.mem_toArray,List.mem_singleton] at he;subst he;exact⟨_,_,rfl⟩
theorem Ao9 (hI:Ae ty top I w) (hp:I.ph=some p) (hb:p.b<=i) (hi:i < I.cnt) (ht:I.tag i=.last 2) (hd:0 < I.deaf i) (wk:Prop):(Al P ty top Post).Do i I w (I.setTag i (.last 1)) (w.setCell (stA p.wg) (.int .u64 0)) wk #[wr (stA p.wg)]:=by
 have h:=hI.core _ hp;have hcl:=Nz hI hp hb hi (by rw[ht];exact id);have hfi:p.f≠i:=by have:=h.fd;omega
 obtain⟨q1,q2,q3⟩:=Nt hI hp hb ht;rw[if_neg (by omega)] at q2;have hsame:∀b,b≠p.wg->(w.setCell (stA p.wg) (.int .u64 0)).heap[b]?=w.heap[b]?:=fun b hb=>Bh _ _ _ hb;have hm:=Dl.last (tag:=upd I.tag i (.last 1)) (p:=p) i 1 (by rw[upd_ne _ _ hfi];exact q1) hb (upd_same _ _ _) fun k hk sw=>by rw[upd_ne _ _ sw];exact q3 k hk sw
 rw[if_pos rfl] at hm;have qq:=h.rework (i:=i) (x:=.last 1) (w':=w.setCell (stA p.wg) (.int .u64 0)) hb hcl trivial (by simp) (by simp[B6.at_]) (by rw[ht];simp[B6.at_]) ⟨_,_,q2.setSt _,hm⟩ hsame;refine Ip hI hp hi (.inr hb) (hI.rework hp hb hi qq (by simp) (C5 _ _ _) hsame) (fun e he=>?_) (.set _ _ _) (fun k hk=>upd_ne _ _ hk) (fun _ _=>rfl) rfl (fun _=>by rw[ht];simp) (fun _=>?_) rfl hsame (fun t fn pos hT _ _=>?_) (.inr (.inr fun j hj hwt=>Ahc hp hwt rfl (upd_ne _ _ hj) (q2.setSt _)))
 ·simp only[List.mem_toArray,List.mem_singleton] at he;subst he;exact G4 hI hp _ _ rfl _
 ·show Et (upd I.tag i _) p<=_;have:=Gq (tag:=I.tag) (.last 1) hb (by have:=h.cntW;omega);rw[ht] at this;simp only[B6.cw] at this;omega
 ·refine Oo hT hp hb hi (by rw[ht];trivial) hd (fun e he=>?_) fn pos;simp only[List.mem_toArray,List.mem_singleton] at he;subst he;exact⟨_,_,rfl⟩
theorem Ar5 (hI:Ae ty top I w) (hp:I.ph=some p) (hb:p.b<=i) (hi:i < I.cnt) (ht:I.tag i=.last 1) (hd:0 < I.deaf i) (wk:Prop) (hwk:wk):WgAt ty p.wg w 0 0/\(Al P ty top Post).Do i I w (I.setTag i .gone) (w.setCell (smA p.wg) (.int .u32 1)) wk (semEvents (smA p.wg)):=by
 have h:=hI.core _ hp;have hcl:=Nz hI hp hb hi (by rw[ht];exact id);have hfi:p.f≠i:=by have:=h.fd;omega
 obtain⟨q1,q2,q3⟩:=Nt hI hp hb ht;rw[if_pos rfl] at q2;refine⟨q2,?_⟩;have hsame:∀b,b≠p.wg->(w.setCell (smA p.wg) (.int .u32 1)).heap[b]?=w.heap[b]?:=fun b hb=>Bh _ _ _ hb;have hm:=Dl.sema (tag:=upd I.tag i .gone) (p:=p) (by rw[upd_ne _ _ hfi];exact q1) fun k hk=>by
  by_cases e:k=i
  ·subst e;exact upd_same _ _ _
  ·rw[upd_ne _ _ e];exact q3 k hk e
 have qq:=h.rework (i:=i) (x:=.gone) (w':=w.setCell (smA p.wg) (.int .u32 1)) hb hcl trivial (by simp) (by simp[B6.at_]) (by rw[ht];simp[B6.at_]) ⟨_,_,q2.setSm _,hm⟩ hsame;refine Ip hI hp hi (.inr hb) (hI.rework hp hb hi qq (by simp) (C5 _ _ _) hsame) (fun e he=>?_) (.set _ _ _) (fun k hk=>upd_ne _ _ hk) (fun _ _=>rfl) ?_ (fun q=>absurd (upd_same _ _ _) q) (fun _=>?_) rfl hsame (fun t fn pos hT _ _=>?_) (.inl hwk)
 ·simp only[semEvents,List.mem_toArray,List.mem_cons,List.not_mem_nil,or_false] at he;rcases he with rfl|rfl|rfl|rfl
  ·exact Ht (.inl rfl)
  ·exact G4 hI hp _ _ rfl _
  ·exact G4 hI hp _ _ rfl _
  ·exact Ht (.inr (.inl rfl))
 ·show I.deaf i=_;simp[semEvents,deafBehind]
 ·show Et (upd I.tag i _) p<=_;have:=Gq (tag:=I.tag) .gone hb (by have:=h.cntW;omega);rw[ht] at this;simp only[B6.cw] at this;omega
 ·obtain⟨r,hr⟩:=hT.rel p hp i hb hi (by rw[ht];trivial);refine⟨r,Go.ConcN.RelBy.appOwn hr fn pos _ fun j e he=>?_⟩;simp only[semEvents] at he ⊢
  match j,he with
  | 0,he=>obtain rfl:=Option.some.inj he.symm;exact .inl rfl
  | 1,he =>
   obtain rfl:=Option.some.inj he.symm;exact .inr ⟨⟨_,_,rfl⟩,by rw[hT.deaf];simp[deafBehind]⟩
  | 2,he =>
   obtain rfl:=Option.some.inj he.symm;exact .inr ⟨⟨_,_,rfl⟩,by rw[hT.deaf];simp[deafBehind]⟩
  | 3,he=>obtain rfl:=Option.some.inj he.symm;exact .inl rfl
  | n+4,he=>simp at he
def Ab.put (I:Ab) (i y:Nat):Ab:={ I with tag:=upd I.tag i .idle,done:=fun z=>I.done z\/z=y }
structure Apu (p:Ph) (y:Nat) (w w':World):Prop where
 size:w'.heap.size=w.heap.size
 tape:w'.tape=w.tape
 os:Cq w w'
 old:∀b,b≠p.out->w'.heap[b]?=w.heap[b]?
 new:∀cs,w.heap[p.out]?=some (.cells cs p.oty (0,0))->∃cs',w'.heap[p.out]?=some (.cells cs' p.oty (0,0))/\cs'.size=cs.size/\(∀o,o < 32->cs'[32 * y+o]?=some (p.val y o))/\∀k,k / 32≠y->cs'[k]?=cs[k]?
theorem Aua {y:Nat} (hI:Ae ty top I w) (hp:I.ph=some p) (hk:p.kind=.fill) (hb:p.b<=i) (hi:i < I.cnt) (ht:I.tag i=.busy y) (hd:I.deaf i=0) (hw:Apu p y w w') (hes:∀e∈es,∃a:Addr,e=⟨.cell a,true,false⟩/\a.block=p.out/\a.off / 32=y) (wk:Prop):(Al P ty top Post).Do i I w (I.put i y) w' wk es:=by
 have h:=hI.core _ hp;have hF:=h.fill hk;obtain⟨l1,l2,l3⟩:=h.lts hI.hs;have l4:=hF.lt hI.hs;have hfi:p.f≠i:=by have:=h.fd;omega
 have hi0:i≠0:=by have:=h.fd;omega
 have tf:(I.put i y).tag p.f=I.tag p.f:=upd_ne _ _ hfi;have hyn:=(h.busy.1 i y (.inl ht)).1;have zu:=hF.busy i y ht;have nocol:I.col=none:=by
  cases hc:I.col with
  | none=>rfl
  | some c=>have:=(hI.mate p c hp hc).2.1;rw[hk] at this;cases this
 have n1:p.wg≠p.out:=fun e=>by have:=hF.bout;rw[<- e,h.bwg] at this;cases this
 have n2:p.jobs≠p.out:=fun e=>by have:=hF.bout;rw[<- e,h.bjobs] at this;cases this
 have n3:p.stop≠p.out:=fun e=>by have:=hF.bout;rw[<- e,h.bstop] at this;cases this
 have noph:∀ {q:Prop},I.ph=none->q:=fun q=>by rw[hp] at q;cases q
 have hv:Et (upd I.tag i .idle) p=Et I.tag p:=by
  have:=Gq (tag:=I.tag) .idle hb (by have:=h.cntW;omega);rw[ht] at this;simp only[B6.cw] at this;omega
 have hC:Core ty (I.put i y) p w':=by
  refine⟨h.bwg,h.bjobs,h.bstop,h.ne,fun b m hb e=>?_,h.fixm,h.fd,by rw[tf];exact h.ftag,?_,fun j q e=>by rw[tf] at e;exact h.add j q e,fun k h1 h2 h3=>?_,fun k hk=>?_,fun hc k h1 h2=>?_,?_,by rw[tf,hw.old _ n2];exact h.jobs,(hw.old _ n3).trans h.stop,h.stpk,fun z hz=>?_,h.nle,by rw[tf];exact h.full,⟨fun k z e=>?_,fun z hz=>hz.elim (h.busy.2 z) fun q=>by rw[q];exact hyn⟩,fun k hk=>?_,h.small,h.pos,fun _=>?_,(fun q=>by rw[hk] at q;cases q),h.nomix⟩
  ·rw[hw.old b (fun q=>by have e':I.bk b=.fix m:=e;rw[q,hF.bout] at e';cases e')];exact h.fix b m hb e
  ·show I.cnt=p.b+(I.put i y).started p;have:=h.cnt;unfold Ab.started at this ⊢;rw[tf];exact this
  ·show upd I.tag i _ k=_;rw[upd_ne _ _ (by omega)];exact h.rest k h1 h2 h3
  ·show (upd I.tag i _ k).works;by_cases q:k=i
   ·subst q;rw[upd_same];trivial
   ·rw[upd_ne _ _ q];exact h.wtag k hk
  ·rw[tf] at hc;show (upd I.tag i _ k).early;by_cases q:k=i
   ·subst q;rw[upd_same];trivial
   ·rw[upd_ne _ _ q];exact h.early hc k h1 h2
  ·obtain⟨st,sm,q1,q2⟩:=h.wgm;refine⟨st,sm,q1.of_block (hw.old _ n1),?_⟩;have hlast:(∀k,p.b<=k->¬(I.tag k).lasts)->∀k,p.b<=k->¬(upd I.tag i .idle k).lasts:=fun hnl k hk=>by
    by_cases q:k=i
    ·subst q;rw[upd_same];exact id
    ·rw[upd_ne _ _ q];exact hnl k hk
   cases q2 with
   | opn q3 q4 =>
    have hm:=Dl.opn (tag:=upd I.tag i .idle) (p:=p) (by rw[upd_ne _ _ hfi];exact q3) (hlast q4);rw[upd_ne _ _ hfi,hv] at hm;exact hm
   | reg q3 q4 q5 =>
    have hm:=Dl.reg (tag:=upd I.tag i .idle) (p:=p) (by rw[upd_ne _ _ hfi];exact q3) (hlast q4) (by rw[hv];exact q5);rw[hv] at hm;exact hm
   | last L k q3 q4 q5 q6 =>
    exfalso;by_cases e:i=L
    ·subst e;rw[ht] at q5;cases q5
    ·have:=q6 i hb e;rw[ht] at this;cases this
   | sema q3 q4=>have:=q4 i hb;rw[ht] at this;cases this
   | fin q3 q4=>have:=q4 i hb;rw[ht] at this;cases this
  ·by_cases e:z=y
   ·exact .inl (.inr e)
   ·rcases h.job z hz with q|⟨m,q1,q2⟩
    ·exact .inl (.inl q)
    ·refine .inr ⟨m,q1,?_⟩;show (upd I.tag i _ m).at_ z;rw[upd_ne _ _ (fun q=>by
      subst q;rw[ht] at q2;rcases q2 with q2|q2
      ·injection q2 with q2;exact e q2.symm
      ·cases q2)]
     exact q2
  ·have e':(upd I.tag i .idle k).at_ z:=e;by_cases q:k=i
   ·subst q;rw[upd_same] at e';rcases e' with e' | e'<;>cases e'
   ·rw[upd_ne _ _ q] at e';obtain⟨b1,b2,b3⟩:=h.busy.1 k z e';refine⟨b1,fun r=>r.elim b2 fun r=>q ?_,fun j e2=>?_⟩
    ·subst r;exact((h.busy.1 i z (.inl ht)).2.2 k e')
    ·have e3:(upd I.tag i .idle j).at_ z:=e2;by_cases q2:j=i
     ·subst q2;rw[upd_same] at e3;rcases e3 with e3|e3<;>cases e3
     ·rw[upd_ne _ _ q2] at e3;exact b3 j e3
  ·by_cases q:k=i
   ·subst q;exact hd
   ·refine h.hear k (hk.imp (fun e=>?_) fun e=>?_)<;>(have e':upd I.tag i .idle k=_:=e;rwa [upd_ne _ _ q] at e')
  ·refine⟨hF.bout,?_,fun k z e=>?_,hF.mine,hF.owm,hF.mixo,fun k z e=>?_⟩
   ·obtain⟨cs,q1,q2,q3⟩:=hF.out;obtain⟨cs',r1,r2,r3,r4⟩:=hw.new cs q1;refine⟨cs',r1,r2.trans q2,fun z hz zl o ho=>?_⟩;by_cases e:z=y
    ·subst e;exact r3 o ho
    ·rw[r4 _ (by omega)];exact q3 z hz (zl.resolve_right e) o ho
   ·have e':upd I.tag i .idle k=.busy z:=e;by_cases q:k=i
    ·subst q;rw[upd_same] at e';cases e'
    ·rw[upd_ne _ _ q] at e';exact hF.busy k z e'
   ·have e':upd I.tag i .idle k=.give z:=e;by_cases q:k=i
    ·subst q;rw[upd_same] at e';cases e'
    ·rw[upd_ne _ _ q] at e';exact hF.nog k z e'
 refine⟨⟨by rw[hw.size];exact hI.hs,hI.cnt,?_,fun k hk=>?_,fun q=>noph q,fun p' hp'=>?_,(fun c hc=>by have hc':I.col=some c:=hc;rw[nocol] at hc';cases hc'),fun c _ q=>noph q,hI.mate,hI.alone,hI.top⟩,fun j hj=>⟨upd_ne _ _ hj,rfl,⟨rfl,rfl⟩,fun _=>⟨Nat.le_refl _,fun _ _ _=>rfl,fun _ h1 h2=>⟨h1,h2⟩,fun b hb e=>hw.old b fun q=>?_,hw.tape,fun _ h=>h.1,fun h _=>h,rfl,fun p' hp' _=>⟨rfl,?_⟩,fun _ _ q=>noph q,fun _ _ _ _ q=>noph q,fun _ _=>Nat.le_refl _,(fun _ q=>absurd nocol q),(fun _ _ h=>h),(fun _=>rfl),fun p' hp' hk'=>by obtain rfl:=Ag hp hp'.1;rw[hk] at hk';cases hk'⟩⟩,fun t fn pos hT=>?_,fun j cases c r hj hof hc hr=>.inl ?_,.inr fun j hj hwt=>Fw hwt rfl (upd_ne _ _ hj) fun p' hp'=>?_,rfl,hw.os⟩
 ·show upd I.tag i _ 0≠_;rw[upd_ne _ _ (Ne.symm hi0)];exact hI.main
 ·show upd I.tag i _ k=_;rw[upd_ne _ _ (by have:I.cnt<=k:=hk;omega)];exact hI.un k hk
 ·obtain rfl:=Ag hp hp';exact hC
 ·subst q;rw[hF.bout] at e;rcases e with e|⟨m,_,e⟩<;>cases e
 ·obtain rfl:=Ag hp hp'.1;exact Nat.le_of_eq hv
 ·have ar:∀k l,(I.put i y).live k l->I.live k l:=fun k l hk=>⟨hk.1,fun e=>hk.2.1 (by
   show upd I.tag i _ k=_;rw[upd_ne _ _ (fun q=>by subst q;rw[ht] at e;cases e)];exact e),hk.2.2⟩
  have evt:∀e∈es,∀z,(MemAct.ofEvent e).touch?=some z->∃a:Addr,z=⟨.cell a,true,.plain⟩/\a.block=p.out/\a.off / 32=y:=fun e he z hz=>by
   obtain⟨a,rfl,h1,h2⟩:=hes e he;have:MemAct.ofEvent ⟨.cell a,true,false⟩=.access ⟨.cell a,true,false⟩:=rfl;rw[this] at hz;simp only[MemAct.touch?,Option.some.injEq] at hz;exact⟨a,hz.symm,h1,h2⟩
  refine Iq.own (I':=I.put i y) hT rfl rfl (fun op hop=>by obtain⟨e,_,rfl⟩:=Cc hop;rfl) (Fs hI hp (.inr hb)) (fun _ _ q=>noph q) ((hT.d.low (I':=I.put i y) hT.low (fun _ _=>rfl) rfl rfl fun k l _=>ar k l).app hi fun op hop=>?_) (fun _ _=>rfl) ?_ (fun op hop a e=>?_) (fun m a ha=>?_) (fun k hk h1 h2=>⟨h1,by have h2':(upd I.tag i .idle k).said:=h2;rwa [upd_ne _ _ hk] at h2'⟩) (fun p' hp' _ hs=>by have hs':(upd I.tag i .idle i).said:=hs;rw[upd_same] at hs';exact hs'.elim) (fun _ _ q=>noph q)
  ·obtain⟨e,he,rfl⟩:=Cc hop;refine⟨rfl,fun z hz=>?_⟩;obtain⟨a,rfl,h1,h2⟩:=evt e he z hz;have how:I.ow a.block a.off=some i:=by
    have:=zu (a.off % 32) (Nat.mod_lt _ (by omega));rw[show 32 * y+a.off % 32=a.off by omega] at this;rw[h1];exact this
   have gy:I.bk a.block=.mix:=by rw[h1];exact hF.bout
   refine .inr ⟨?_,by simp,rfl,.inl ⟨?_,?_⟩⟩
   ·rintro(⟨s,q⟩|⟨_,q⟩|⟨q,_⟩)
    ·have q':I.bk a.block=.shd s:=q;rw[gy] at q';cases q'
    ·have q':I.ow a.block a.off=none:=q;rw[how] at q';cases q'
    ·have q':I.bk a.block=.lock:=q;rw[gy] at q';cases q'
   ·rintro⟨m,q⟩;have q':I.bk a.block=.fix m:=q;rw[gy] at q';cases q'
   ·show (match I.bk a.block with | .priv i=>some i | .mix=>some ((I.ow a.block a.off).getD 0) | .lock=>I.sk.lo a.block|_=>some 0)=some i;rw[gy,how];rfl
  ·rw[Deaf_own,deafBehind_still _ fun e he=>by obtain⟨a,rfl,_⟩:=hes e he;simp];exact hT.deaf i
  ·obtain⟨e',he,rfl⟩:=Cc hop;obtain⟨a',rfl,_⟩:=hes e' he;simp[MemAct.ofEvent] at e
  ·obtain⟨z,hz,jl⟩:=touch_of ha;rcases getElem?_append_cases hz with⟨_,hz'⟩|⟨_,hop⟩
   ·exact hT.low m a (by rw[touchAt_of hz'];exact jl)
   ·obtain⟨e,he,rfl⟩:=Cc hop;obtain⟨a',rfl,h1,_⟩:=evt e he a jl;show a'.block < I.hs;rw[h1];exact l4
 ·obtain⟨_,⟨s,q⟩,_⟩:=Kx hI hof hc hr;exact hw.old _ fun e=>by rw[e,hF.bout] at q;cases q
 ·obtain rfl:=Ag hp hp';exact hw.old _ n1
def Ab.spawn (I:Ab) (p:Ph) (j:Nat):Ab:={ I with cnt:=I.cnt+1,tag:=upd (upd I.tag p.f (.add (j+1) 0)) I.cnt .idle,deaf:=upd I.deaf I.cnt 0 }
theorem Ao4 (hI:Ae ty top I w) (hp:I.ph=some p) (ht:I.tag p.f=.add j 1) (hd:I.deaf p.f=0):(Al P ty top Post).Spawns p.f I w (I.spawn p j):=by
 have h:=hI.core _ hp;have zk:=h.fd;have hfc:p.f < I.cnt:=by have:=h.cnt;omega
 have hcl:(I.tag p.f).closed=false:=by rw[ht];rfl
 obtain⟨a1,a2,a3⟩:=h.add j 1 ht;have hjW:j < p.W:=by rcases a2 with q|⟨_,q⟩<;>omega
 have ak:I.cnt=p.b+j:=by have:=h.cnt;unfold Ab.started at this;rw[ht] at this;exact this
 have hne:p.f≠I.cnt:=by omega
 have noph:∀ {q:Prop},I.ph=none->q:=fun q=>by rw[hp] at q;cases q
 have tf:(I.spawn p j).tag p.f=.add (j+1) 0:=by
  show upd (upd I.tag p.f _) I.cnt _ p.f=_;rw[upd_ne _ _ hne,upd_same]
 have tc:(I.spawn p j).tag I.cnt=.idle:=upd_same _ _ _;have tn:∀k,k≠p.f->k≠I.cnt->(I.spawn p j).tag k=I.tag k:=fun k h1 h2=>by
  show upd (upd I.tag p.f _) I.cnt _ k=_;rw[upd_ne _ _ h2,upd_ne _ _ h1]
 have hv:Et I.tag p=j:=by rw[h.vc_early hI hcl];unfold Ab.started;rw[ht]
 have hv':Et (I.spawn p j).tag p=j+1:=by
  have h1:=Gq (p:=p) (tag:=upd I.tag p.f (.add (j+1) 0)) (i:=I.cnt) .idle (by omega) (by omega);rw[Mk _ h.fd,upd_ne _ _ (Ne.symm hne),hI.un I.cnt (Nat.le_refl _),hv] at h1;simp only[B6.cw] at h1;exact h1
 have nat:∀k z,((I.spawn p j).tag k).at_ z->k≠I.cnt/\k≠p.f/\(I.tag k).at_ z:=fun k z e=>by
  by_cases q:k=I.cnt
  ·rw[q,tc] at e;rcases e with e|e<;>cases e
  ·by_cases q2:k=p.f
   ·rw[q2,tf] at e;rcases e with e|e<;>cases e
   ·rw[tn k q2 q] at e;exact⟨q,q2,e⟩
 have hC:Core ty (I.spawn p j) p w:=by
  refine⟨h.bwg,h.bjobs,h.bstop,h.ne,h.fix,h.fixm,h.fd,by rw[tf];trivial,?_,fun j' q e=>?_,fun k h1 h2 h3=>(tn k h1 (by omega)).trans (h.rest k h1 h2 h3),fun k hk=>?_,fun _ k h1 h2=>?_,?_,by rw[tf];have:=h.jobs;rw[hcl] at this;exact this,h.stop,h.stpk,fun z hz=>?_,h.nle,(fun e=>by rw[tf] at e;cases e),h.busy.of (fun k z e=>(nat k z e).2.2) rfl fun _=>Iff.rfl,fun k hk=>?_,h.small,h.pos,fun q=>?_,fun q=>(h.seek q).keep rfl rfl rfl rfl rfl rfl (fun k y e=>(tn k (fun r=>by subst r;rw[ht] at e;cases e) (fun r=>by subst r;rw[hI.un _ (Nat.le_refl _)] at e;cases e)).trans e) (fun k y e=>by
   rcases (nat k y (.inr e)) with⟨q1,q2,_⟩;rw[tn k q2 q1] at e;exact e) rfl rfl,h.nomix⟩
  ·show I.cnt+1=p.b+(I.spawn p j).started p;unfold Ab.started;rw[tf];dsimp only;omega
  ·rw[tf] at e;injection e with e1 e2;subst e1 e2;exact⟨by omega,.inl rfl,a3⟩
  ·by_cases q:k=I.cnt
   ·rw[q,tc];trivial
   ·rw[tn k (by omega) q];exact h.wtag k hk
  ·by_cases q:k=I.cnt
   ·rw[q,tc];trivial
   ·have h2':k < I.cnt+1:=h2;rw[tn k (by omega) q];exact h.early hcl k h1 (by omega)
  ·obtain⟨st,sm,q1,q2⟩:=h.wgm;refine⟨st,sm,q1,?_⟩;cases q2 with
   | opn q3 q4 =>
    have hm:=Dl.opn (tag:=(I.spawn p j).tag) (p:=p) (by rw[tf];trivial) fun k hk=>by
     by_cases q:k=I.cnt
     ·rw[q,tc];exact id
     ·rw[tn k (by omega) q];exact q4 k hk
    rw[hv',tf] at hm;rw[hv,ht];exact hm
   | reg q=>rw[ht] at q;cases q
   | last _ _ q=>rw[ht] at q;cases q
   | sema q=>rw[ht] at q;cases q
   | fin q=>rw[ht] at q;cases q
  ·have hz':z < I.next:=hz
   omega
  ·show upd I.deaf I.cnt 0 k=0;by_cases q:k=I.cnt
   ·rw[q,upd_same]
   ·rw[upd_ne _ _ q];by_cases q2:k=p.f
    ·rw[q2];exact hd
    ·rw[tn k q2 q] at hk;exact h.hear k hk
  ·have hF:=h.fill q;exact⟨hF.bout,hF.out,fun k z e=>hF.busy k z ((nat k z (.inl e)).2.2.resolve_right (hF.nog k z)),hF.mine,hF.owm,hF.mixo,fun k z e=>by
    rcases (nat k z (.inr e)) with⟨q1,q2,_⟩;rw[tn k q2 q1] at e;exact hF.nog k z e⟩
 refine⟨⟨hI.hs,by show 1<=I.cnt+1;omega,?_,fun k hk=>?_,fun q=>noph q,fun p' hp'=>?_,fun c hc=>?_,fun c _ q=>noph q,hI.mate,hI.alone,hI.top⟩,fun j' h1 h2=>⟨tn j' h1 h2,upd_ne _ _ h2,⟨rfl,rfl⟩,fun _=>⟨Nat.le_refl _,fun _ _ _=>rfl,fun _ h1 h2=>⟨h1,h2⟩,fun _ _ _=>rfl,rfl,fun _ h=>h.1,fun h _=>h,rfl,fun p' hp' e=>?_,fun _ _ q=>noph q,fun _ _ _ _ q=>noph q,fun _ _=>Nat.le_refl _,fun _ _ _=>Iff.rfl,fun _ _ h=>h,fun _=>rfl,fun _ _ _=>.of (c1:=rfl) rfl fun _=>rfl⟩⟩,fun t x y hx hy hT=>?_,fun j' h1 hw=>?_,rfl,?_⟩
 ·by_cases q:0=p.f
  ·rw[q,tf];simp
  ·rw[tn 0 q (by have:=hI.cnt;omega)];exact hI.main
 ·have hk':I.cnt+1<=k:=hk;rw[tn k (by omega) (by omega)];exact hI.un k (by omega)
 ·obtain rfl:=Ag hp hp';exact hC
 ·have hK:=hI.coll c hc;have hm:=hI.mate p c hp hc;have pz:=hK.f.1;have hfc2:=hK.f.2.1;have hcw:I.cnt+1<=c.f+1+c.W:=by
   have q1:=hm.2.2.2.1;have q2:=hm.2.2.2.2;have q3:=h.cnt;unfold Ab.started at q3;rw[ht] at q3;dsimp only at q3;omega
  refine⟨(tn 0 (by omega) (by omega)).trans hK.tag0,⟨pz,Nat.lt_succ_of_lt hfc2,hcw⟩,hK.bdn,?_,hK.fix,(upd_ne _ _ (by omega)).trans hK.deaf,fun k z e=>?_⟩
  ·obtain⟨s,q⟩:=hK.dn;refine⟨s,q.trans ?_⟩;rw[<- hm.1,tf,ht];rfl
  ·rcases (nat k z (.inr e)) with⟨q1,q2,_⟩;have e':I.tag k=.give z:=by rw[tn k q2 q1] at e;exact e
   obtain⟨r1,r2⟩:=hK.give k z e';exact⟨(upd_ne _ _ q1).trans r1,r2⟩
 ·obtain rfl:=Ag hp hp'.1;exact absurd e.symm h1
 ·have hmem:∀op∈#[x,y],op.act.touch?=none/\op.g < I.cnt+1/\∀m,op.act≠.mark m:=by
   intro op hop;simp only[List.mem_toArray,List.mem_cons,List.not_mem_nil,or_false] at hop;rcases hop with rfl|rfl
   ·exact⟨by rw[hx.2];rfl,by rw[hx.1];omega,fun m=>by rw[hx.2];simp⟩
   ·exact⟨by rw[hy.2];rfl,by rw[hy.1];exact Nat.lt_succ_self _,fun m=>by rw[hy.2];simp⟩
  have hs:∀op∈#[x,y],op.act.touch?=none:=fun op hop=>(hmem op hop).1;have hD:Vh I.wh (t++#[x,y]) (I.cnt+1):=hT.d.silent (Nat.le_succ _) fun op hop=>⟨(hmem op hop).1,(hmem op hop).2.1⟩;have ke:Deaf t I.cnt=0:=Go.ConcN.Deaf_absent fun m op hm e=>by have:=hT.d.gs m op hm;omega
  have old:∀ {m},(t++#[x,y]).counts m->m < t.size:=fun {m} hc=>by
   obtain⟨x,hx,_⟩:=hc;obtain⟨_,q,_⟩:=touch_of (Ah hs hx);exact lt_size_of_getElem? q
  refine⟨hD.anew (fun m op z hm hz hsh=>.inl ⟨hsh,rfl⟩) (fun l h1 h2=>(hT.d.own l h1 h2).silent hs fun k hk=>?_) (fun l h1 h2 k hk=>?_) fun _ _ _ q=>q,fun k=>?_,hT.nrel.app fun op hop a=>(hmem op hop).2.2 _,fun m a ha=>hT.low m a (Ah hs ha),fun p' hp' k hk hk2 rx=>?_,fun m hc=>?_,fun c _ q=>noph q,fun c _ q=>noph q⟩
  ·by_cases q:k=I.cnt
   ·subst q;exact .inr ⟨p.f,⟨hfc,by rw[ht];simp,fun m hm=>absurd ⟨m,hm⟩ h2⟩,fun m hm=>Hs hx hy (by rw[hT.deaf];exact hd) ke hm⟩
   ·refine .inl ⟨by have:k < I.cnt+1:=hk.1;omega,fun e=>hk.2.1 ?_,hk.2.2⟩;rw[tn k (fun q2=>by subst q2;rw[ht] at e;cases e) q];exact e
  ·by_cases q:k=I.cnt
   ·subst q;by_cases hlt:blk l < I.hs
    ·have hf:PermW t p.f l:=hT.d.ro l h1 h2 p.f ⟨hfc,by rw[ht];simp,fun m hm=>h.fixm _ m hlt hm⟩;exact PermW.pass hf hs fun m hm=>Hs hx hy (by rw[hT.deaf];exact hd) ke hm
    ·exact fun i a ha e=>absurd (hT.low i a (Ah hs ha)) (by rw[e];exact hlt)
   ·refine hD.ro l h1 h2 k ⟨by have:k < I.cnt+1:=hk.1;omega,fun e=>hk.2.1 ?_,hk.2.2⟩;rw[tn k (fun q2=>by subst q2;rw[ht] at e;cases e) q];exact e
  ·rw[Go.ConcN.Deaf_still t k _ fun op hop=>⟨(hmem op hop).2.2 _,(hmem op hop).2.2 _⟩];show _=upd I.deaf I.cnt 0 k;by_cases q:k=I.cnt
   ·rw[q,upd_same,ke]
   ·rw[upd_ne _ _ q];exact hT.deaf k
  ·obtain rfl:=Ag hp hp';exfalso;have hk2':k < I.cnt+1:=hk2;by_cases q:k=I.cnt
   ·rw[q,tc] at rx;exact rx
   ·rw[tn k (by omega) q] at rx;have:=h.early hcl k hk (by omega);cases e:I.tag k<;>rw[e] at this rx<;>first|exact this|exact rx
  ·have hlt:=old hc;rcases hT.old m ((counts_old hlt).1 hc) with q|⟨lo,q1,k,q2,q3⟩
   ·exact .inl (q.app _)
   ·exact .inr ⟨lo,q1,k,q2,by rw[g?_old hlt];exact q3⟩
 ·cases hw with
  | wg p' st q1 q2 =>
   obtain rfl:=Ag hp q1;exact absurd q2 h1
  | que p' m q1 q2 q3 q4 q5=>exact .que p' m q1 q2 q3 q4 q5
 ·show I.cnt+1<=top;have:=hI.top.1 p hp;omega
def Tc (i:Nat) (I:Ab):Prop:=I.ph=none/\((i=0/\I.col=none)\/(i≠0/\∃c,I.col=some c/\c.f=i/\I.tag i=.pre))
theorem Tc.only (h:Tc i I) (hI:Ae ty top I w) (dx:j≠i) (hj:I.tag j≠.gone):j=0/\∃c,I.col=some c/\c.f=i/\i≠0:=by
 obtain⟨hp,⟨e,hc⟩|⟨hi,c,hc,hf,ht⟩⟩:=h
 ·exact absurd ((hI.free hp hc).2.1 j (by omega)) hj
 ·refine⟨Classical.byContradiction fun q=>hj ((hI.lull c hc hp).rest j q (by omega)),c,hc,hf,hi⟩
def Ab.mk1 (I:Ab) (y:BK):Ab:={ I with hs:=I.hs+1,bk:=upd I.bk I.hs y }
abbrev Ab.share (I:Ab) (i:Nat):Ab:=I.mk1 (.shd i)
theorem As9 {y:BK} (hy:(∃s,y=.shd s)\/y=.lock) (hI:Ae ty top I w) (hl:Tc i I) (hsz:w'.heap.size=w.heap.size+1) (ht:w'.tape=w.tape) (hh:∀b,b < w.heap.size->w'.heap[b]?=w.heap[b]?) (hos:Cq w w') (wk:Prop):(Al P ty top Post).Do i I w (I.mk1 y) w' wk #[]:=by
 have hlt:∀b,b < I.hs->(I.mk1 y).bk b=I.bk b:=fun b hb=>upd_ne _ _ (by omega);have hnew:(I.mk1 y).bk I.hs=y:=upd_same _ _ _;have hh':∀b,b < I.hs->w'.heap[b]?=w.heap[b]?:=fun b hb=>hh b (by rw[<- hI.hs];exact hb);have last:∀b,I.hs<=b->b < (I.mk1 y).hs->b=I.hs:=fun b h1 h2=>by have h2':b < I.hs+1:=h2;omega
 refine⟨hI.frame (by rw[hsz,<- hI.hs];rfl) ⟨rfl,rfl,rfl,rfl,rfl,rfl,rfl,rfl,rfl,rfl,rfl,hlt,fun b h1 h2=>?_,Nat.le_succ _,fun _ _=>rfl,fun b hb _=>hh' b hb,fun b _ _ hb _ _=>hh' b hb⟩ (fun _ _ b h1 h2=>?_),fun j hj=>⟨rfl,rfl,⟨rfl,rfl⟩,fun e=>?_⟩,fun t fn pos hT=>?_,fun j cases c r hj hof hc hr=>.inl (hh' _ (Kx hI hof hc hr).1),.inr fun j hj hw=>?_,rfl,hos⟩
 ·rw[last b h1 h2,hnew];rcases hy with⟨s,rfl⟩|rfl<;>exact⟨fun m=>by simp,by simp⟩
 ·rw[last b h1 h2,hnew];exact hy.imp id .inr
 ·obtain⟨rfl,c,hc,hf,hi⟩:=hl.only hI hj e;refine⟨Nat.le_succ _,fun b hb _=>hlt b hb,fun b h1 h2=>?_,fun b hb _=>hh' b hb,ht,fun _ h=>h.1,fun h _=>h,rfl,fun _ _ _=>⟨rfl,Nat.le_refl _⟩,(fun _ q=>by rw[hc] at q;cases q),(fun q=>absurd rfl q),fun _ _=>Nat.le_refl _,fun _ _ _=>Iff.rfl,(fun _ _ h=>h),fun _=>rfl,fun p' hp'=>by have:=hp'.1;rw[hl.1] at this;cases this⟩;by_cases q:b < I.hs
  ·exact⟨q,(hlt b q).symm.trans h2⟩
  ·rw[last b (by omega) h1,hnew] at h2;rcases hy with⟨s,rfl⟩|rfl<;>cases h2
 ·rw[Hr];exact⟨hT.d.low hT.low hlt rfl rfl fun k l hl hk=>⟨hk.1,hk.2.1,fun m q=>hk.2.2 m ((hlt _ hl).trans q)⟩,hT.deaf,hT.nrel,fun m a ha=>Nat.lt_succ_of_lt (hT.low m a ha),hT.rel,hT.old,hT.fin,hT.shut⟩
 ·obtain⟨p',q⟩:=hw.phase;rw[hl.1] at q;cases q
theorem Ao6 (hI:Ae ty top I w) (hl:Tc i I) (hsz:w'.heap.size=w.heap.size+1) (ht:w'.tape=w.tape) (hh:∀b,b < w.heap.size->w'.heap[b]?=w.heap[b]?) (hos:Cq w w') (wk:Prop):(Al P ty top Post).Do i I w (I.share i) w' wk #[] :=
 As9 (.inl ⟨i,rfl⟩) hI hl hsz ht hh hos wk
open Classical in
noncomputable def Ab.enter (I:Ab) (p:Ph) (Fx:Nat->Prop):Ab :=
 { I with tag:=upd I.tag p.f (.add 0 0),ph:=some p,next:=0,done:=fun _=>False,ow:=fun _ _=>some p.f,stp:=false,sk:=if p.kind=.seek then ⟨fun _ _=>.off,fun _=>⟨false,false,false,0,0⟩,p.n,fun _=>False,false,upd I.sk.lo p.out none⟩ else I.sk,bk:=fun b=>if Fx b then .fix p.f else if p.kind=.fill/\b=p.out then .mix else I.bk b }
structure Ate (I:Ab) (w:World) (p:Ph):Prop where
 out:p.out < I.hs/\I.bk p.out=.lock
 outm:w.heap[p.out]?=some (.cells #[.int .i32 0,.int .u32 0,.int .i64 (-1)] p.oty (0,0))
 once:p.once < I.hs/\I.bk p.once=.shd p.f
 oncem:w.heap[p.once]?=some (.cells #[.int .u32 0,.int .i32 0,.int .u32 0] p.onty (0,0))
 ne:p.once≠p.wg/\p.once≠p.jobs/\p.once≠p.stop
 W:p.W<=16
structure Ap4 (ty:TypeId) (top:Nat) (I:Ab) (w:World) (p:Ph) (Fx:Nat->Prop):Prop where
 lone:Tc p.f I
 kind:(I.col=none/\p.kind≠.hand)\/∃c,I.col=some c/\p.kind=.hand/\p.n=c.n/\p.W<=c.W
 seek:p.kind=.seek->Ate I w p
 b:p.b=I.cnt
 W:1<=p.W
 small:p.W < 2147483647
 top:I.cnt+p.W<=top
 wg:p.wg < I.hs/\I.bk p.wg=.shd p.f
 jobs:p.jobs < I.hs/\I.bk p.jobs=.shd p.f
 stop:p.stop < I.hs/\I.bk p.stop=.shd p.f
 ne:p.jobs≠p.wg/\p.stop≠p.wg/\p.jobs≠p.stop
 out:p.kind=.fill->p.out < I.hs/\I.bk p.out=.priv p.f
 fx:∀b,Fx b->b < I.hs/\I.bk b=.priv p.f/\(p.kind=.fill->b≠p.out)
 H:∀b,Fx b->w.heap[b]?=p.H b
 H0:∀b m,b < I.hs->I.bk b=.fix m->w.heap[b]?=p.H b
 wgm:WgAt ty p.wg w 0 0
 jobsm:w.heap[p.jobs]?=some (.chan 0 #[] false 0 0 false)
 stopm:w.heap[p.stop]?=some (.chan 0 #[] false 0 0 false)
 outm:p.kind=.fill->∃cs,w.heap[p.out]?=some (.cells cs p.oty (0,0))/\cs.size=32 * p.n
 deaf:I.deaf p.f=0
theorem Ao7 {Fx:Nat->Prop} (hI:Ae ty top I w) (B:Ap4 ty top I w p Fx) (wk:Prop):(Al P ty top Post).Do p.f I w (I.enter p Fx) w wk #[]:=by
 have hp:I.ph=none:=B.lone.1;have S:(p.f=0/\I.col=none/\p.kind≠.hand)\/∃c,I.col=some c/\p.f=c.f/\0 < p.f/\p.kind=.hand/\(p.n=c.n/\p.W<=c.W)/\I.tag p.f=.pre/\Y3 I w c/\Apz I c:=by
  rcases B.lone.2 with⟨e,hc⟩|⟨e,c,hc,hf,ht⟩
  ·rcases B.kind with⟨_,q⟩|⟨c,q,_⟩
   ·exact .inl ⟨e,hc,q⟩
   ·rw[hc] at q;cases q
  ·rcases B.kind with⟨q,_⟩|⟨c',q,q2,q3⟩
   ·rw[hc] at q;cases q
   ·obtain rfl:=Cv hc q;exact .inr ⟨c,hc,hf.symm,by omega,q2,q3,ht,hI.coll c hc,hI.lull c hc hp⟩
 have others:∀k,k≠p.f->k≠0->I.tag k=.gone:=fun k h1 h2=>by
  rcases S with⟨_,hc,_⟩|⟨c,hc,hf,_,_,_,_,_,hL⟩
  ·exact(hI.free hp hc).2.1 k h2
  ·exact hL.rest k h2 (by omega)
 have bks:∀b,b < I.hs->I.bk b≠.mix:=fun b hb q=>by
  rcases S with⟨_,hc,_⟩|⟨c,hc,hf,_,_,_,_,_,hL⟩
  ·rcases (hI.free hp hc).2.2.1 b hb with⟨s,r⟩|r|r<;>(rw[q] at r;cases r)
  ·exact hL.nomix b hb q
 have fixs:∀b m,b < I.hs->I.bk b=.fix m->m=0:=fun b m hb q=>by
  rcases S with⟨_,hc,_⟩|⟨c,hc,hf,_,_,_,ht,_,hL⟩
  ·rcases (hI.free hp hc).2.2.1 b hb with⟨s,r⟩|r|r<;>(rw[q] at r;cases r)
  ·exact(hL.top (by rw[<- hf];exact ht)).2 b m hb q
 have flt:p.f < I.cnt:=by
  rcases S with⟨e,_⟩|⟨c,_,e,_,_,_,_,hK,_⟩
  ·rw[e];exact hI.cnt
  ·rw[e];exact hK.f.2.1
 have jz:∀b,Fx b->(I.enter p Fx).bk b=.fix p.f:=fun b h=>by simp only[Ab.enter];rw[if_pos h]
 have hout:p.kind=.fill->(I.enter p Fx).bk p.out=.mix:=fun hk=>by
  simp only[Ab.enter];rw[if_neg (fun q=>(B.fx _ q).2.2 hk rfl)];simp[hk]
 have hrest:∀b,¬Fx b->¬(p.kind=.fill/\b=p.out)->(I.enter p Fx).bk b=I.bk b:=fun b h1 h2=>by simp only[Ab.enter];rw[if_neg h1,if_neg h2]
 have af:∀b y,I.bk b=y->y≠.priv p.f->(I.enter p Fx).bk b=y:=fun b y e hy=>(hrest b (fun q=>hy (by rw[<- e];exact(B.fx b q).2.1)) fun q=>hy (by rw[<- e,q.2];exact(B.out q.1).2)).trans e;have hback:∀b y,(I.enter p Fx).bk b=y->y≠.fix p.f->y≠.mix->I.bk b=y:=fun b y e h1 h2=>by
  by_cases q:Fx b
  ·rw[jz b q] at e;exact absurd e.symm h1
  ·by_cases q2:p.kind=.fill/\b=p.out
   ·rw[q2.2,hout q2.1] at e;exact absurd e.symm h2
   ·rwa [hrest b q q2] at e
 have bz:∀b s,I.bk b=.shd s->(I.enter p Fx).bk b=.shd s:=fun b s e=>af b _ e (by simp);have im:∀b s,(I.enter p Fx).bk b=.shd s->I.bk b=.shd s:=fun b s e=>hback b _ e (by simp) (by simp);have tz:(I.enter p Fx).tag p.f=.add 0 0:=by show upd I.tag p.f (B6.add 0 0) p.f=_;exact upd_same _ _ _
 have tn:∀k,k≠p.f->(I.enter p Fx).tag k=I.tag k:=fun k hk=>by show upd I.tag p.f (B6.add 0 0) k=_;exact upd_ne _ _ hk
 have tg:∀k,k≠p.f->k≠0->(I.enter p Fx).tag k=.gone:=fun k h1 h2=>(tn k h1).trans (others k h1 h2);have hb0:p.f < p.b:=by rw[B.b];exact flt
 have tb:∀k,p.b<=k->(I.enter p Fx).tag k=.gone:=fun k hk=>tg k (by omega) (by have:=hI.cnt;have:=B.b;omega);have t0:∀x,(I.enter p Fx).tag 0=x->0=p.f\/I.tag 0=x:=fun x e=>by
  by_cases q:0=p.f
  ·exact .inl q
  ·exact .inr (by rwa [tn 0 q] at e)
 have main0:0≠p.f->I.tag 0=.coll:=fun q=>by
  rcases S with⟨e,_⟩|⟨c,_,_,_,_,_,_,hK,_⟩
  ·exact absurd e.symm q
  ·exact hK.tag0
 have tall:∀k,(I.enter p Fx).tag k=.add 0 0\/(I.enter p Fx).tag k=.coll\/(I.enter p Fx).tag k=.gone:=fun k=>by
  by_cases q:k=p.f
  ·rw[q];exact .inl tz
  ·by_cases q0:k=0
   ·subst q0;exact .inr (.inl ((tn 0 q).trans (main0 q)))
   ·exact .inr (.inr (tg k q q0))
 have wa:∀b m,b < I.hs->(I.enter p Fx).bk b=.fix m->w.heap[b]?=p.H b/\m<=p.f:=fun b m hb e=>by
  by_cases q:Fx b
  ·rw[jz b q] at e;injection e with e;exact⟨B.H b q,by omega⟩
  ·by_cases q2:p.kind=.fill/\b=p.out
   ·rw[q2.2,hout q2.1] at e;cases e
   ·rw[hrest b q q2] at e;exact⟨B.H0 b m hb e,by rw[fixs b m hb e];exact Nat.zero_le _⟩
 have hC:Core ty (I.enter p Fx) p w:=by
  refine⟨bz _ _ B.wg.2,bz _ _ B.jobs.2,bz _ _ B.stop.2,B.ne,fun b m hb e=>(wa b m hb e).1,fun b m hb e=>(wa b m hb e).2,hb0,by rw[tz];trivial,?_,fun j q e=>?_,fun k h1 h2 h3=>tg k h1 h3,fun k hk=>by rw[tb k hk];trivial,fun _ k h1 h2=>?_,⟨0,0,B.wgm,?_⟩,⟨0,by rw[tz];exact B.jobsm⟩,B.stopm,fun _=>rfl,fun z hz=>absurd hz (Nat.not_lt_zero _),Nat.zero_le _,(fun e=>by rw[tz] at e;cases e),⟨fun k z e=>?_,fun z hz=>hz.elim⟩,fun k hk=>?_,B.small,B.W,fun hk=>?_,fun hk=>?_,fun hk b hb e=>?_⟩
  ·show I.cnt=p.b+(I.enter p Fx).started p;unfold Ab.started;rw[tz];exact B.b.symm
  ·rw[tz] at e;injection e with e1 e2;subst e1 e2;exact⟨Nat.zero_le _,.inl rfl,rfl⟩
  ·have h2':k < I.cnt:=h2;rw[B.b] at h1;omega
  ·have hm:=Dl.opn (tag:=(I.enter p Fx).tag) (p:=p) (by rw[tz];trivial) fun k hk=>by rw[tb k hk];exact id
   have hv:Et (I.enter p Fx).tag p=0:=Alv (n:=0) (fun k h1 h2=>by omega) (fun k hk=>by rw[tb k (by omega)];rfl) (Nat.zero_le _);rw[hv,tz] at hm;simpa [B6.pend] using hm
  ·rcases tall k with q|q|q<;>(rw[q] at e;rcases e with e|e<;>cases e)
  ·rcases tall k with q|q|q<;>(rw[q] at hk;rcases hk with e|e<;>cases e)
  ·obtain⟨cs,q1,q2⟩:=B.outm hk;refine⟨hout hk,⟨cs,q1,q2,fun x _ hd=>hd.elim⟩,fun k z e=>?_,fun _ _ _ _=>rfl,fun _=>by simp[Ab.enter],fun b hb e=>?_,fun k z e=>?_⟩
   ·rcases tall k with q|q|q<;>(rw[q] at e;cases e)
   ·refine Classical.byContradiction fun q2=>?_;by_cases q:Fx b
    ·rw[jz b q] at e;cases e
    ·rw[hrest b q fun r=>q2 r.2] at e;exact bks b hb e
   ·rcases tall k with q|q|q<;>(rw[q] at e;cases e)
  ·have D:=B.seek hk;have hsk:(I.enter p Fx).sk=⟨fun _ _=>.off,fun _=>⟨false,false,false,0,0⟩,p.n,fun _=>False,false,upd I.sk.lo p.out none⟩:=by simp only[Ab.enter];rw[if_pos hk]
   refine⟨af _ _ D.out.2 (by simp),bz _ _ D.once.2,D.ne,D.W,?_,?_,?_,?_,?_,?_,?_,?_,?_,?_,?_,?_,?_,fun k z e=>?_⟩
   case refine_14=>rcases tall k with q|q|q<;>(rw[q] at e;cases e)
   all_goals rw[hsk]
   ·exact⟨-1,D.outm,.inl ⟨rfl,fun _ q=>q⟩⟩
   ·exact D.oncem
   ·exact fun _ _=>Fe.start _ _
   ·exact fun _ _ _ q=>absurd rfl q
   ·rfl
   ·exact fun _ q=>by cases q
   ·exact fun _=>upd_same _ _ _
   ·exact fun _=>.inl rfl
   ·exact fun _ q=>q.elim
   ·exact fun _ q=>q.elim
   ·exact fun q=>by cases q
   ·exact fun _ q=>by cases q
   ·exact fun q=>by cases q
  ·by_cases q:Fx b
   ·rw[jz b q] at e;cases e
   ·rw[hrest b q fun r=>hk r.1] at e;exact bks b hb e
 have nohand:∀ {q:Prop},(I.enter p Fx).ph=none->q:=fun q=>by cases q
 refine⟨⟨hI.hs,hI.cnt,?_,fun k hk=>?_,fun q=>nohand q,fun p' hp'=>?_,fun c hc=>?_,fun c _ q=>nohand q,fun p' c hp' hc=>?_,fun p' hp' hc=>?_,⟨fun p' hp'=>?_,hI.top.2⟩⟩,fun j hj=>⟨tn j hj,rfl,⟨rfl,rfl⟩,fun e=>?_⟩,fun t fn pos hT=>?_,fun _ _ _ _ _ _ _ _=>.inl rfl,.inr fun j hj hw=>?_,rfl,.refl _⟩
 ·intro q;rcases t0 _ q with e|e
  ·rw[e,tz] at q;cases q
  ·exact hI.main e
 ·have hk':I.cnt<=k:=hk;exact tb k (by rw[B.b];exact hk')
 ·obtain rfl:p=p':=Option.some.inj hp';exact hC
 ·rcases S with⟨_,q,_⟩|⟨c',hc',hf,pz,hk,hn,ht,hK,hL⟩
  ·have hc'':I.col=some c:=hc;rw[q] at hc'';cases hc''
  ·obtain rfl:=Cv hc' hc;refine hK.retag hI.hs ((tn 0 (by omega)).trans hK.tag0) (by rw[<- hf,tz,ht];rfl) rfl rfl (bz _ _ hK.bdn) (fun b _ q=>hback b _ q (by intro r;injection r with r;omega) (by simp)) rfl (fun k y e=>?_) rfl fun _ _ _=>rfl;rcases tall k with q|q|q<;>(rw[q] at e;cases e)
 ·obtain rfl:p=p':=Option.some.inj hp';rcases S with⟨_,q,_⟩|⟨c',hc',hf,pz,hk,hn,ht,hK,hL⟩
  ·have hc'':I.col=some c:=hc;rw[q] at hc'';cases hc''
  ·obtain rfl:=Cv hc' hc;exact⟨hf,hk,hn.1,by rw[B.b];exact(hL.top (by rw[<- hf];exact ht)).1,hn.2⟩
 ·obtain rfl:p=p':=Option.some.inj hp';rcases S with⟨e,_,q⟩|⟨c',hc',_⟩
  ·exact⟨e,q⟩
  ·have hc'':I.col=none:=hc;rw[hc'] at hc'';cases hc''
 ·obtain rfl:p=p':=Option.some.inj hp';rw[B.b];exact B.top
 ·-- main collects
  have i7:j=0:=Classical.byContradiction fun q=>e (others j hj q);subst i7;rcases S with⟨q,_⟩|⟨c,hc,hf,pz,hk,hn,ht,hK,hL⟩
  ·exact absurd q.symm hj
  ·have nc:∀ {q:Prop},I.nc 0->q:=fun q=>by
    rcases q with q|q
    ·exact absurd rfl q
    ·rw[hc] at q;cases q
   refine⟨Nat.le_refl _,fun b hb h=>hrest b (fun q=>h p.f (by omega) (B.fx b q).2.1) (fun q=>by rw[hk] at q;exact absurd q.1 (by simp)),fun b hb q=>⟨hb,hback b _ q (by simp) (by simp)⟩,fun _ _ _=>rfl,rfl,(fun _ q=>by have:=q.1;rw[hp] at this;cases this),fun _ q=>nc q,rfl,(fun _ q=>by have:=q.1;rw[hp] at this;cases this),(fun _ q=>by rw[hc] at q;cases q),(fun q=>absurd rfl q),(fun _ q=>by have:=q.1;rw[hp] at this;cases this),fun _ _ x=>?_,(fun _ q=>by have:=q.1;rw[hp] at this;cases this),(fun m=>by simp only[Ab.enter];rw[if_neg (by rw[hk];simp)]),fun _ q=>by have:=q.1;rw[hp] at this;cases this⟩;rcases hL.at_ with⟨_,q⟩|⟨q|q,_⟩
   ·exact⟨fun r=>r.elim,fun r=>absurd r (q x)⟩
   ·rw[<- hf,ht] at q;cases q
   ·rw[<- hf,ht] at q;cases q
 ·rw[Hr];have hsh:∀l,(I.enter p Fx).wh.sh l->I.wh.sh l:=fun l h=>by
   rcases h with⟨s,e⟩|⟨_,e⟩|⟨e,e2⟩
   ·exact .inl ⟨s,im _ s e⟩
   ·exfalso;cases l<;>simp[Ab.mixAt,Ab.enter] at e
   ·exact .inr (.inr ⟨hback _ _ e (by simp) (by simp),e2⟩)
  have fresh:∀l,¬blk l < I.hs->∀i a,touchAt t i=some a->a.loc≠l:=fun l hl i a ha e=>hl (e ▸ hT.low i a ha);have nsh:∀l,¬(I.enter p Fx).wh.sh l->blk l < I.hs->¬I.wh.sh l:=fun l hs hl q=>by
   rcases q with⟨s,e⟩|⟨e,_⟩|⟨e,e2⟩
   ·exact hs (.inl ⟨s,bz _ s e⟩)
   ·exact bks _ hl e
   ·exact hs (.inr (.inr ⟨af _ _ e (by simp),e2⟩))
  have ownf:∀l,¬(I.enter p Fx).wh.sh l->blk l < I.hs->I.bk (blk l)=.priv p.f->Perm t p.f l:=fun l hs hl e=>by
   have h2:¬I.wh.ro l:=by rintro⟨m,q⟩;rw[e] at q;cases q
   have h3:I.wh.own l=some p.f:=by simp only[Ab.wh,e]
   have:=hT.d.own l (nsh l hs hl) h2
   rwa [h3] at this
  have ar:∀k l,blk l < I.hs->¬Fx (blk l)->(I.enter p Fx).live k l->I.live k l:=fun k l hl hn hk=>by
   refine⟨hk.1,fun e=>hk.2.1 ?_,fun m e=>hk.2.2 m (af _ _ e (by simp))⟩;by_cases q:k=p.f
   ·exfalso;rw[q] at e;rcases S with⟨r,hc,_⟩|⟨c,_,_,_,_,_,r,_⟩
    ·rw[r] at e;exact hI.main e
    ·rw[r] at e;cases e
   ·rw[tn k q];exact e
  refine⟨hT.d.anew (fun m op z hm hz hs=>.inl ⟨hsh _ hs,?_⟩) (fun l hs hr=>?_) (fun l hs hr k hk=>?_) fun m a ha hs=>?_,hT.deaf,hT.nrel,hT.low,fun p' hp' k hk hk2=>?_,fun m hc=>?_,fun c _ q=>nohand q,fun c _ q=>nohand q⟩
  ·simp only[Ab.wh];rcases hs with⟨s,e⟩|⟨_,e⟩|⟨e,_⟩
   ·rw[e,im _ s e]
   ·exfalso;cases hzl:z.loc<;>simp[Ab.mixAt,Ab.enter,hzl] at e
   ·rw[e,hback _ _ e (by simp) (by simp)]
  ·by_cases hl:blk l < I.hs
   ·by_cases q:Fx (blk l)
    ·exact absurd ⟨p.f,jz _ q⟩ hr
    ·by_cases q2:p.kind=.fill/\blk l=p.out
     ·have e0:p.f=0:=by
       rcases S with⟨e,_⟩|⟨c,_,_,_,hk,_⟩
       ·exact e
       ·rw[hk] at q2;exact absurd q2.1 (by simp)
      have:(I.enter p Fx).wh.own l=some p.f:=by
       simp only[Ab.wh];rw[q2.2,hout q2.1];cases l<;>first|rfl|exact congrArg some e0.symm
      rw[this];exact ownf l hs hl (by rw[q2.2];exact(B.out q2.1).2)
     ·have e1:=hrest _ q q2;have hO:=hT.d.own l (nsh l hs hl) fun⟨m,r⟩=>hr ⟨m,e1.trans r⟩;by_cases q3:p.kind=.seek/\blk l=p.out
      ·have D:=B.seek q3.1;have hc:I.col=none:=by
        rcases S with⟨_,q,_⟩|⟨c,_,_,_,q,_⟩
        ·exact q
        ·rw[q] at q3;exact absurd q3.1 (by simp)
       have e0:p.f=0:=by
        rcases S with⟨e,_⟩|⟨c,_,_,_,hk,_⟩
        ·exact e
        ·rw[hk] at q3;exact absurd q3.1 (by simp)
       have n1:I.wh.own l=some 0:=by
        simp only[Ab.wh,q3.2,D.out.2];exact(hI.free hp hc).2.2.2 _
       have n2:(I.enter p Fx).wh.own l=none:=by
        have e5:(I.enter p Fx).bk (blk l)=.lock:=e1.trans (by rw[q3.2];exact D.out.2);simp only[Ab.wh,e5];simp only[Ab.enter];rw[if_pos q3.1,q3.2];exact upd_same _ _ _
       rw[n1] at hO;rw[n2];refine fun m a ha e=>.inr fun k hk=>?_;have jk:k=0:=Classical.byContradiction fun r=>hk.2.1 (tg k (by rw[e0];exact r) r);rw[jk];exact(show Perm t 0 l from hO) m a ha e
      ·have:(I.enter p Fx).wh.own l=I.wh.own l:=by
        simp only[Ab.wh];rw[e1];split
        ·rfl
        ·rename_i r;exact absurd r (bks _ hl)
        ·simp only[Ab.enter];by_cases q4:p.kind=.seek
         ·rw[if_pos q4];exact upd_ne _ _ fun r=>q3 ⟨q4,r⟩
         ·rw[if_neg q4]
        ·rfl
       rw[this];exact hO.mono fun k hk=>ar k l hl q hk
   ·exact Hj.fresh (fresh l hl)
  ·by_cases hl:blk l < I.hs
   ·by_cases q:Fx (blk l)
    ·have jk:k=p.f:=Classical.byContradiction fun r=>by
      by_cases r0:k=0
      ·have:=hk.2.2 p.f (jz _ q);omega
      ·exact hk.2.1 (tg k r r0)
     subst jk;exact PermW.of (ownf l hs hl (B.fx _ q).2.1)
    ·obtain⟨m,r⟩:=hr;by_cases q2:p.kind=.fill/\blk l=p.out
     ·rw[q2.2,hout q2.1] at r;cases r
     ·exact hT.d.ro l (nsh l hs hl) ⟨m,(hrest _ q q2).symm.trans r⟩ k (ar k l hl q hk)
   ·exact fun i a ha e=>absurd e (fresh l hl i a ha)
  ·rcases hs with⟨s,e⟩|⟨e,_⟩|⟨e,e2⟩
   ·exact .inl ⟨s,bz _ s e⟩
   ·exact absurd e (bks _ (hT.low m a ha))
   ·exact .inr (.inr ⟨af _ _ e (by simp),e2⟩)
  ·obtain rfl:p=p':=Option.some.inj hp';have hk2':k < I.cnt:=hk2;rw[B.b] at hk;omega
  ·rcases hT.old m hc with q|⟨lo,q,k,q2,q3⟩
   ·exact .inl q
   ·refine .inr ⟨lo,?_,k,q2,q3⟩;rcases S with⟨_,r,_⟩|⟨c,r,_⟩
    ·unfold Ab.lo at q;rw[r,hp] at q;cases q
    ·unfold Ab.lo at q ⊢;rw[show (I.enter p Fx).col=some c from r];rw[r] at q;exact q
 ·obtain⟨p',q⟩:=hw.phase;rw[hp] at q;cases q
end
end Go.Proofs.YtbicafgmfgdckaaGreatDoor
