/- The crew's pact: the group's steps. For any program. The crew's pact: the feeder's other steps. For any program. -/
import Derived.Test.YtbicafgmfgdckaaDoorMgAh
import Derived.Test.YtbicafgmfgdckaaDoorMgAi
namespace Go.Proofs.YtbicafgmfgdckaaDoor
open Go Go.Conc
open Go.ConcR (KK wgBlock WgAt stA smA rd wr mk)
open Go.ConcN (sumTo upd upd_same upd_ne RelBy PermW WgLive)

section
variable {ty:TypeId} {top:Nat} {γ γ':Gho} {p:Ph} {c:Col} {w w':World} {i j k n:Nat} {t u:Trace} {P:Program} {Post:Value->World->Prop} {es:Array Event} {tag:Nat->Tag} {x:Tag}
def ShEv (γ:Gho) (i:Nat) (e:Event):Prop :=
 (∃a wr,e=⟨.cell a,wr,true⟩/\a.block < γ.hs/\((∃s,γ.bk a.block=.shd s)\/(γ.bk a.block=.mix/\γ.ow a.block a.off=none)\/(γ.bk a.block=.lock/\a.off < 2)))\/((∀x,(MemAct.ofEvent e).touch?=some x->x.kind=.atomic/\blk x.loc < γ.hs/\∃s,γ.bk (blk x.loc)=.shd s)/\∀a,MemAct.ofEvent e≠.mark (.release a))\/(∃m a,e.loc=.mark m/\(m=.read a\/m=.write a)/\a.block < γ.hs/\γ.bk a.block=.shd i)
theorem ev_word {i:Nat} {m:Mark} (h:m=.disable\/m=.enable\/(∃a,m=.releaseMerge a)\/∃a,m=.acquire a):ShEv γ i ⟨.mark m,false,true⟩:=by
 refine .inr (.inl ?_)
 rw[Go.ConcR.ofEvent_loc_mark (e:=⟨.mark m,false,true⟩) rfl]
 rcases h with rfl|rfl|⟨a,rfl⟩|⟨a,rfl⟩<;>exact⟨(fun x hx=>by cases hx),by simp⟩
theorem shEv_ok {fn:FuncId} {pos:String} {e:Event} (h:ShEv γ i e) (hw:γ'.wh.sh=γ.wh.sh) (hs:γ'.wh.say=γ.wh.say):OkT γ'.wh i { g:=i,fn,pos,act:=.ofEvent e }/\(∀x,(MemAct.ofEvent e).touch?=some x->blk x.loc < γ.hs)/\∀a,MemAct.ofEvent e≠.mark (.release a):=by
 rcases h with⟨a,wr,rfl,h1,h2⟩|⟨e2,e3⟩|⟨m,a,hm,h,h1,h2⟩
 ·have e1:∀x,(MemAct.ofEvent ⟨.cell a,wr,true⟩).touch?=some x->x=⟨.cell a,wr,.atomic⟩:=fun x hx=>by
   rw[Go.ConcR.ofEvent_cell] at hx
   simpa [MemAct.touch?,eq_comm] using hx
  refine⟨⟨rfl,fun x hx=>?_⟩,fun x hx=>?_,fun b=>by rw[Go.ConcR.ofEvent_cell];simp⟩
  ·obtain rfl:=e1 x hx
   exact .inl ⟨by rw[hw];exact h2,by simp,by simp⟩
  ·obtain rfl:=e1 x hx
   exact h1
 ·exact⟨⟨rfl,fun x hx=>.inl ⟨by rw[hw];exact .inl (e2 x hx).2.2,by rw[(e2 x hx).1];simp,fun q=>by rw[(e2 x hx).1] at q;cases q⟩⟩,fun x hx=>(e2 x hx).2.1,e3⟩
 ·have e1:MemAct.ofEvent e=.mark m:=Go.ConcR.ofEvent_loc_mark hm
  rw[e1]
  have e2:∀x,(MemAct.mark m).touch?=some x->x.loc=.cell a/\x.kind=.said:=fun x hx=>by
   rcases h with rfl|rfl<;>(simp only[MemAct.touch?,Option.some.injEq] at hx;subst hx;exact⟨rfl,rfl⟩)
  refine⟨⟨rfl,fun x hx=>?_⟩,fun x hx=>?_,fun b=>by rcases h with rfl|rfl<;>simp⟩
  ·obtain⟨q1,q2⟩:=e2 x hx
   refine .inl ⟨by rw[hw,q1];exact .inl ⟨i,h2⟩,by rw[q2];simp,fun _=>?_⟩
   rw[hs,q1]
   simp only[Gho.wh,blk,h2]
  ·rw[(e2 x hx).1];exact h1
def Tags (γ γ':Gho):Prop:=γ'={ γ with tag:=γ'.tag,deaf:=γ'.deaf }
theorem Tags.refl (γ:Gho):Tags γ γ:=rfl
theorem Tags.set (γ:Gho) (i:Nat) (x:Tag):Tags γ (γ.setTag i x):=rfl
theorem GTr.cells' (hT:GTr γ t) (hI:GInv ty top γ w) (hp:γ.ph≠none) (hi:i < γ.cnt) (hwho:i=0\/∃lo,γ.lo=some lo/\lo<=i) (hes:∀e∈es,ShEv γ i e) (e1:γ'.bk=γ.bk) (e2:γ'.ow=γ.ow) (e3:γ'.hs=γ.hs) (e4:γ'.cnt=γ.cnt) (e5:γ'.ph=γ.ph) (e9:γ'.col=γ.col) (e10:γ'.sk.lo=γ.sk.lo) (e6:∀k,k≠i->γ'.tag k=γ.tag k) (e7:∀k,k≠i->γ'.deaf k=γ.deaf k)
  (e8:γ'.deaf i=deafBehind (γ.deaf i) es) (hl:γ'.tag i≠.gone->γ.tag i≠.gone) {fn:FuncId} {pos:String}
  (hreli:∀p,γ.ph=some p->p.b<=i->(γ'.tag i).said->∃r,RelBy (stA p.wg) (t++MemOp.ofEvents i fn pos es) i r):GTr γ' (t++MemOp.ofEvents i fn pos es):=by
 have hm:γ'.mixAt=γ.mixAt:=funext (mix_same e2)
 have w1:γ'.wh.sh=γ.wh.sh:=by simp only[Gho.wh,e1,hm]
 have w2:γ'.wh.say=γ.wh.say:=by simp only[Gho.wh,e1]
 refine GTr.own hT e5 e9 (fun op hop=>by obtain⟨e,_,rfl⟩:=mem_ofEv hop;rfl) hwho (fun _ _ q=>absurd q hp) ?_ e7 ?_ (fun op hop a=>?_) (fun m a ha=>?_) (fun k hk h1 h2=>?_) hreli (fun _ _ q=>absurd q hp)
 ·rw[e4]
  refine(hT.d.low hT.low (fun b _=>by rw[e1]) e2 e10 fun k l _ hk=>⟨by have:=hk.1;rwa [e4] at this,fun q=>?_,fun m q=>hk.2.2 m (by rw[e1];exact q)⟩).app hi fun op hop=>?_
  ·by_cases ek:k=i
   ·subst ek;exact hl hk.2.1 q
   ·exact hk.2.1 (by rw[e6 k ek];exact q)
  ·obtain⟨e,he,rfl⟩:=mem_ofEv hop
   exact(shEv_ok (hes e he) w1 w2).1
 ·rw[Deaf_own,hT.deaf i,e8]
 ·obtain⟨e,he,rfl⟩:=mem_ofEv hop
  exact(shEv_ok (fn:=fn) (pos:=pos) (hes e he) w1 w2).2.2 a
 ·rw[e3]
  obtain⟨y,hy,hya⟩:=touch_of ha
  rcases getElem?_append_cases hy with⟨_,hy'⟩|⟨_,hop⟩
  ·exact hT.low m a (by rw[touchAt_of hy'];exact hya)
  ·obtain⟨e,he,rfl⟩:=mem_ofEv hop
   exact(shEv_ok (fn:=fn) (pos:=pos) (hes e he) w1 w2).2.1 a hya
 ·rw[e4] at h1;rw[e6 k hk] at h2;exact⟨h1,h2⟩
theorem GTr.cells (hT:GTr γ t) (hI:GInv ty top γ w) (hp:γ.ph≠none) (hi:i < γ.cnt) (hwho:i=0\/∃lo,γ.lo=some lo/\lo<=i) (hes:∀e∈es,ShEv γ i e) (e:Tags γ γ') (e6:∀k,k≠i->γ'.tag k=γ.tag k) (e7:∀k,k≠i->γ'.deaf k=γ.deaf k)
  (e8:γ'.deaf i=deafBehind (γ.deaf i) es) (hl:γ'.tag i≠.gone->γ.tag i≠.gone) {fn:FuncId} {pos:String}
  (hreli:∀p,γ.ph=some p->p.b<=i->(γ'.tag i).said->∃r,RelBy (stA p.wg) (t++MemOp.ofEvents i fn pos es) i r):GTr γ' (t++MemOp.ofEvents i fn pos es) :=
 GTr.cells' hT hI hp hi hwho hes (by rw[e]) (by rw[e]) (by rw[e]) (by rw[e]) (by rw[e]) (by rw[e]) (by rw[e]) e6 e7 e8 hl hreli
theorem heap_cell_ne (w:World) (a:Addr) (v:Value) {b:Nat} (h:b≠a.block):(w.setCell a v).heap[b]?=w.heap[b]?:=by rw[heap_setCell,if_neg h]
theorem size_cell (w:World) (a:Addr) (v:Value):(w.setCell a v).heap.size=w.heap.size:=by simp[World.setCell]
theorem Core.refeed (h:Core ty γ p w) (hx:x.feeds) (hst:(γ.setTag p.f x).started p=γ.started p) (hadd:∀j q,x=.add j q->j<=p.W/\(q=0\/(q=1/\j < p.W))/\γ.next=0) (hcl:x.closed=(γ.tag p.f).closed)
  (hwg:∃st sm,WgAt ty p.wg w' st sm/\WMode (upd γ.tag p.f x) p st sm) (hh:∀b,b≠p.wg->w'.heap[b]?=w.heap[b]?) (hx2:x=.feed->γ.deaf p.f=0):Core ty (γ.setTag p.f x) p w':=by
 have tf:(γ.setTag p.f x).tag p.f=x:=upd_same _ _ _
 have tn:∀k,k≠p.f->(γ.setTag p.f x).tag k=γ.tag k:=fun k hk=>upd_ne _ _ hk
 have tw:∀k,p.b<=k->(γ.setTag p.f x).tag k=γ.tag k:=fun k hk=>tn k (by have:=h.fd;omega)
 have nb:∀n,¬x.at_ n:=fun n q=>by rcases q with q|q<;>(rw[q] at hx;exact hx)
 refine⟨h.bwg,h.bjobs,h.bstop,h.ne,fun b m hb e=>?_,h.fixm,h.fd,by rw[tf];exact hx,by rw[hst];exact h.cnt,fun j q e=>hadd j q (tf.symm.trans e),fun k h1 h2 h3=>(tn k h1).trans (h.rest k h1 h2 h3),fun k hk=>by rw[tw k hk];exact h.wtag k hk,fun hc k h1 h2=>?_,hwg,?_,(hh _ h.ne.2.1).trans h.stop,h.stpk,fun y hy=>?_,h.nle,fun hc=>h.full (by rw[<- hcl,<- tf];exact hc),h.busy.of (fun k y e=>?_) rfl fun _=>Iff.rfl,fun k hk=>?_,h.small,h.pos,fun q=>?_,fun q=>(h.seek q).retag (fun y r=>by rw[r] at hx;exact hx) (fun y r=>by have:=h.ftag;rw[r] at this;exact this) (hh _ fun r=>by have:=(h.seek q).bout;rw[r,h.bwg] at this;cases this) (hh _ (h.seek q).ne.1),h.nomix⟩
 ·rw[hh b (fun q=>by have e':γ.bk b=.fix m:=e;rw[q,h.bwg] at e';cases e')];exact h.fix b m hb e
 ·rw[tw k h1];exact h.early (by rw[<- hcl,<- tf];exact hc) k h1 h2
 ·obtain⟨s,q⟩:=h.jobs
  exact⟨s,by rw[hh _ h.ne.1,tf,hcl];exact q⟩
 ·rcases h.job y hy with q|⟨m,q1,q2⟩
  ·exact .inl q
  ·exact .inr ⟨m,q1,by rw[tw m q1];exact q2⟩
 ·by_cases q:k=p.f
  ·rw[q,tf] at e;exact absurd e (nb y)
  ·rw[tn k q] at e;exact e
 ·by_cases q:k=p.f
  ·subst q
   rw[tf] at hk
   rcases hk with e|e
   ·rw[e] at hx;exact hx.elim
   ·exact hx2 e
  ·rw[tn k q] at hk;exact h.hear k hk
 ·have hF:=h.fill q
  refine⟨hF.bout,?_,fun k y e=>?_,hF.mine,hF.owm,hF.mixo,fun k y e=>?_⟩
  ·obtain⟨cs,q,q2⟩:=hF.out
   exact⟨cs,by rw[hh _ (fun e=>by have:=hF.bout;rw[e,h.bwg] at this;cases this)];exact q,q2⟩
  ·by_cases q:k=p.f
   ·rw[q,tf] at e;exact absurd (.inl e) (nb y)
   ·rw[tn k q] at e;exact hF.busy k y e
  ·by_cases q:k=p.f
   ·rw[q,tf] at e;exact absurd (.inr e) (nb y)
   ·rw[tn k q] at e;exact hF.nog k y e
theorem GInv.crew (hI:GInv ty top γ w) (hp:γ.ph=some p) (h:Core ty (γ.setTag i x) p w') (hi:(i=p.f/\x.feeds)\/(p.b<=i/\i < γ.cnt)) (hx:∀y,x≠.give y) (hs:w'.heap.size=w.heap.size) (hh:∀b,γ.bk b≠.shd p.f->w'.heap[b]?=w.heap[b]?):GInv ty top (γ.setTag i x) w':=by
 have hC:=hI.core _ hp
 have hfd:=hC.fd
 have hfc:p.f < γ.cnt:=by have:=hC.cnt;omega
 have hic:i < γ.cnt:=by rcases hi with⟨e,_⟩|⟨_,e⟩<;>omega
 have hg:i=0->x≠.gone:=fun e q=>by
  rcases hi with⟨_,r⟩|⟨r,_⟩
  ·rw[q] at r;exact r
  ·omega
 have noph:∀ {q:Prop},(γ.setTag i x).ph=none->q:=fun q=>by
  have q':γ.ph=none:=q
  rw[hp] at q';cases q'
 refine⟨by rw[hs];exact hI.hs,hI.cnt,?_,fun k hk=>?_,fun q=>noph q,fun p' hp'=>?_,fun c hc=>?_,fun c _ q=>noph q,hI.mate,hI.alone,hI.top⟩
 ·show upd γ.tag i x 0≠_
  by_cases e:0=i
  ·rw[<- e,upd_same];exact hg e.symm
  ·rw[upd_ne _ _ e];exact hI.main
 ·show upd γ.tag i x k=_
  have:γ.cnt<=k:=hk
  rw[upd_ne _ _ (by omega)];exact hI.un k hk
 ·obtain rfl:=same_ph hp hp'
  exact h
 ·have hK:=hI.coll c hc
  have hm:=hI.mate p c hp hc
  have hf0:=hK.f.1
  refine hK.retag hI.hs ((upd_ne _ _ (by omega)).trans hK.tag0) ?_ rfl rfl hK.bdn (fun _ _ q=>q) rfl (fun k y e=>?_) (hh _ (by rw[hK.bdn];intro q;injection q with q;omega)) fun b _ q=>hh b (by rw[q];simp)
  ·show (upd γ.tag i x c.f).ended=_
   by_cases e:c.f=i
   ·rw[e,upd_same]
    have h1:=hC.ftag
    rw[hm.1,e] at h1
    rcases hi with⟨_,r⟩|⟨r,_⟩
    ·cases e1:x<;>rw[e1] at r<;>first|exact r.elim | (cases e2:γ.tag i<;>rw[e2] at h1<;>first|exact h1.elim|rfl)
    ·omega
   ·rw[upd_ne _ _ e]
  ·have e':upd γ.tag i x k=.give y:=e
   by_cases q:k=i
   ·rw[q,upd_same] at e';exact absurd e' (hx y)
   ·rw[upd_ne _ _ q] at e'
    exact⟨e',rfl,rfl,rfl,fun B _ _ r=>⟨r,hh B (by rw[r];simp)⟩⟩
theorem rel_wg (hI:GInv ty top γ w) (hp:γ.ph=some p) (e:Tags γ γ') (e6:γ'.tag j=γ.tag j) (e7:γ'.deaf j=γ.deaf j) (hv:p.f=j->vcT γ'.tag p<=vcT γ.tag p) (ht:w'.tape=w.tape) (hh:∀b,γ.bk b≠.shd p.f->w'.heap[b]?=w.heap[b]?):Rel j γ w γ' w':=by
 have hC:=hI.core _ hp
 have e1:γ'.bk=γ.bk:=by rw[e]
 have e3:γ'.hs=γ.hs:=by rw[e]
 have e5:γ'.ph=γ.ph:=by rw[e]
 have noph:∀ {q:Prop},γ.ph=none->q:=fun q=>by rw[hp] at q;cases q
 refine⟨e6,e7,⟨by rw[e],by rw[e]⟩,fun _=>⟨by rw[e3];exact Nat.le_refl _,fun _ _ _=>by rw[e1],fun b h1 h2=>by rw[e3] at h1;rw[e1] at h2;exact⟨h1,h2⟩,fun b hb e=>hh b fun q=>?_,ht,fun _ q=>e5.trans q.1,fun q=>noph q,by rw[e],fun p' hp' e'=>⟨by rw[e],?_⟩,fun _ _ q=>noph q,fun _ _ _ _ q=>noph q,(fun _ _=>by rw[e];exact Nat.le_refl _),(fun _ _ x=>by rw[e]),(fun _ _ q=>by rw[e];exact q),(fun _=>by rw[e]),fun p' hp' hk=>.of (c1:=by rw[e]) (by rw[e]) fun _=>by
  obtain rfl:=same_ph hp hp'.1
  simp only[World.cell?,hh p.out (by rw[(hC.seek hk).bout];simp)]⟩⟩
 ·rw[q] at e;rcases e with e|⟨m,_,e⟩<;>cases e
 ·obtain rfl:=same_ph hp hp'.1
  exact hv e'
theorem vc_all (h:∀i,p.b<=i->i < p.b+n->(tag i).cw=1) (h0:∀i,p.b+n<=i->(tag i).cw=0) (hn:n<=p.W):vcT tag p=n:=by
 have key:∀m,sumTo m (fun j=>(tag (p.b+j)).cw)=min m n:=by
  intro m
  induction m with
  | zero=>simp[sumTo]
  | succ m ih =>
   simp only[sumTo,ih]
   by_cases e:m < n
   ·rw[h (p.b+m) (by omega) (by omega)];omega
   ·rw[h0 (p.b+m) (by omega)];omega
 unfold vcT
 rw[key];omega
theorem Core.vc_early (h:Core ty γ p w) (hI:GInv ty top γ w) (hc:(γ.tag p.f).closed=false):vcT γ.tag p=γ.started p:=by
 refine vc_all (n:=γ.started p) (fun i h1 h2=>?_) (fun i hi=>?_) (by have:=h.cntW;have:=h.cnt;omega)
 ·have:=h.early hc i h1 (by rw[h.cnt];exact h2)
  cases e:γ.tag i<;>rw[e] at this<;>first|rfl|exact this.elim
 ·rw[hI.un i (by rw[h.cnt];exact hi)];rfl
end
end Go.Proofs.YtbicafgmfgdckaaDoor
namespace Go.Proofs.YtbicafgmfgdckaaDoor
open Go Go.Conc
open Go.ConcR (KK wgBlock WgAt stA smA rd wr mk)
open Go.ConcN (sumTo upd upd_same upd_ne RelBy PermW WgLive)

section
variable {ty:TypeId} {top:Nat} {γ γ':Gho} {p:Ph} {c:Col} {w w':World} {i j k n:Nat} {t u:Trace} {P:Program} {Post:Value->World->Prop} {es:Array Event} {tag:Nat->Tag} {x:Tag}
theorem crew_place (hI:GInv ty top γ w) (hp:γ.ph=some p) (hwho:i=p.f\/p.b<=i):i=0\/∃lo,γ.lo=some lo/\lo<=i:=by
 have h:=hI.core _ hp
 have hfd:=h.fd
 unfold Gho.lo
 cases hc:γ.col with
 | none =>
  rcases hwho with e|e
  ·left;rw[e,(hI.alone p hp hc).1]
  ·right;exact⟨p.b,by rw[hp];rfl,e⟩
 | some c =>
  have hm:=(hI.mate p c hp hc).1
  right
  exact⟨c.f,rfl,by rcases hwho with e|e<;>omega⟩
theorem do_cells (hI:GInv ty top γ w) (hp:γ.ph=some p) (hi:i < γ.cnt) (hwho:i=p.f\/p.b<=i) (hI':GInv ty top γ' w') (hes:∀e∈es,ShEv γ i e) (e:Tags γ γ')
  (e6:∀k,k≠i->γ'.tag k=γ.tag k) (e7:∀k,k≠i->γ'.deaf k=γ.deaf k) (e8:γ'.deaf i=deafBehind (γ.deaf i) es) (hl:γ'.tag i≠.gone->γ.tag i≠.gone) (hv:p.f≠i->vcT γ'.tag p<=vcT γ.tag p) (ht:w'.tape=w.tape) (hh:∀b,b≠p.wg->w'.heap[b]?=w.heap[b]?)
  (hreli:∀t fn pos,GTr γ t->p.b<=i->(γ'.tag i).said->∃r,RelBy (stA p.wg) (t++MemOp.ofEvents i fn pos es) i r) {wk:Prop} (hwait:wk\/i=p.f\/∀j,j≠i->GWait ty j γ w->GWait ty j γ' w') (hos:Passed w w':=by exact .of rfl rfl):(crewPact P ty top Post).Do i γ w γ' w' wk es:=by
 have h:=hI.core _ hp
 have e4:γ'.cnt=γ.cnt:=by rw[e]
 refine⟨hI',fun j' hj'=>rel_wg hI hp e (e6 _ hj') (e7 _ hj') (fun e=>hv (by rw[e];exact hj')) ht (fun b hb=>hh b fun q=>hb (by rw[q];exact h.bwg)),fun t fn pos hT=>hT.cells hI (by rw[hp];simp) hi (crew_place hI hp hwho) hes e e6 e7 e8 hl fun p' hp' hb hs=>?_,fun j' cases c r hj' hof hc hr=>.inl ?_,?_,e4,hos⟩
 ·obtain rfl:=same_ph hp hp'
  exact hreli t fn pos hT hb hs
 ·exact hh _ ((offer_shd hI hof hc hr).2.2 p hp)
 ·rcases hwait with q|q|q
  ·exact .inl q
  ·refine .inr fun j' hj' hw=>?_
   cases hw with
   | wg p'' st q1 q2 =>
    obtain rfl:=same_ph hp q1
    exact absurd (q2.trans q.symm) hj'
   | que p'' m q1 q2 q3 q4 q5 =>
    have es:γ'.sk=γ.sk:=by rw[e]
    exact .que p'' m ((by rw[e]:γ'.ph=γ.ph).trans q1) q2 q3 (by rw[es];exact q4) (by rw[es];exact q5)
  ·exact .inr q
theorem do_feeder (hI:GInv ty top γ w) (hp:γ.ph=some p) (hC':Core ty (γ.setTag p.f x) p w') (hx:x.feeds) (hs:w'.heap.size=w.heap.size) (ht:w'.tape=w.tape) (hh:∀b,b≠p.wg->w'.heap[b]?=w.heap[b]?) (hes:∀e∈es,ShEv γ p.f e) (hd:deafBehind (γ.deaf p.f) es=γ.deaf p.f) (wk:Prop) (hos:Passed w w':=by exact .of rfl rfl) :
  (crewPact P ty top Post).Do p.f γ w (γ.setTag p.f x) w' wk es:=by
 have h:=hI.core _ hp
 have hfc:p.f < γ.cnt:=by have:=h.fd;have:=h.cnt;omega
 exact do_cells hI hp hfc (.inl rfl) (hI.crew hp hC' (.inl ⟨rfl,hx⟩) (fun y q=>by rw[q] at hx;exact hx) hs fun b hb=>hh b fun q=>hb (by rw[q];exact h.bwg)) hes (.set _ _ _) (fun k hk=>upd_ne _ _ hk) (fun _ _=>rfl) hd.symm (fun _ q=>by have:=h.ftag;rw[q] at this;exact this) (fun e=>absurd rfl e) ht hh (fun t fn pos _ hb=>by have:=h.fd;omega) (.inr (.inl rfl)) hos
theorem ev_cell (hI:GInv ty top γ w) (hp:γ.ph=some p) (a:Addr) (b:Bool) (ha:a.block=p.wg) (i:Nat):ShEv γ i ⟨.cell a,b,true⟩:=.inl ⟨a,b,rfl,by rw[ha];exact((hI.core _ hp).lts hI.hs).1,.inl ⟨p.f,by rw[ha];exact(hI.core _ hp).bwg⟩⟩
theorem do_looks (hI:GInv ty top γ w) (hp:γ.ph=some p) (hes:∀e∈es,(∃a b,e=⟨.cell a,b,true⟩/\a.block=p.wg)\/∃a,a.block=p.wg/\(e=mk (.read a)\/e=mk (.write a))) (wk:Prop):(crewPact P ty top Post).Do p.f γ w γ w wk es:=by
 have h:=hI.core _ hp
 have hfc:p.f < γ.cnt:=by have:=h.fd;have:=h.cnt;omega
 have hlt:=(h.lts hI.hs).1
 have still:deafBehind (γ.deaf p.f) es=γ.deaf p.f:=deafBehind_still _ fun e he=>by
  rcases hes e he with⟨a,b,rfl,_⟩|⟨a,_,rfl|rfl⟩<;>simp[mk]
 refine do_cells hI hp hfc (.inl rfl) hI (fun e he=>?_) (.refl _) (fun _ _=>rfl) (fun _ _=>rfl) still.symm id (fun e=>absurd rfl e) rfl (fun _ _=>rfl) (fun t fn pos _ hb=>by have:=h.fd;omega) (.inr (.inl rfl))
 rcases hes e he with⟨a,b,rfl,ha⟩|⟨a,ha,rfl|rfl⟩
 ·exact ev_cell hI hp a b ha _
 ·exact .inr (.inr ⟨_,a,rfl,.inl rfl,by rw[ha];exact hlt,by rw[ha];exact h.bwg⟩)
 ·exact .inr (.inr ⟨_,a,rfl,.inr rfl,by rw[ha];exact hlt,by rw[ha];exact h.bwg⟩)
theorem do_begin (hI:GInv ty top γ w) (hp:γ.ph=some p) (ht:γ.tag p.f=.add p.W 0) (hd:γ.deaf p.f=0) (wk:Prop):(crewPact P ty top Post).Do p.f γ w (γ.setTag p.f .feed) w wk #[]:=by
 have h:=hI.core _ hp
 have hcl:(γ.tag p.f).closed=false:=by rw[ht];rfl
 have hv:=h.vc_early hI hcl
 refine do_feeder hI hp (h.refeed (x:=.feed) trivial (by unfold Gho.started;rw[show (γ.setTag p.f Tag.feed).tag p.f=Tag.feed from upd_same _ _ _,ht]) (fun _ _ e=>by cases e) (by rw[ht];rfl) ?_ (fun _ _=>rfl) fun _=>hd) trivial rfl rfl (fun _ _=>rfl) (fun e he=>by simp at he) rfl wk
 obtain⟨st,sm,q1,q2⟩:=h.wgm
 refine⟨st,sm,q1,?_⟩
 cases q2 with
 | opn _ q4 =>
  have:=WMode.opn (tag:=upd γ.tag p.f .feed) (p:=p) (by rw[upd_same];trivial) fun i hi=>by rw[upd_ne _ _ (by have:=h.fd;omega)];exact q4 i hi
  rw[vc_out _ h.fd,upd_same] at this
  rw[ht]
  exact this
 | reg q=>rw[ht] at q;cases q
 | last _ _ q=>rw[ht] at q;cases q
 | sema q=>rw[ht] at q;cases q
 | fin q=>rw[ht] at q;cases q
theorem Core.nolast (h:Core ty γ p w) (ht:γ.tag p.f=.shut):WgAt ty p.wg w (((vcT γ.tag p:Nat):Int) * KK) 0/\∀i,p.b<=i->¬(γ.tag i).lasts:=by
 obtain⟨st,sm,q1,q2⟩:=h.wgm
 cases q2 with
 | opn _ q4=>rw[ht] at q1;exact⟨by simpa [Tag.pend] using q1,q4⟩
 | reg q=>rw[ht] at q;cases q
 | last _ _ q=>rw[ht] at q;cases q
 | sema q=>rw[ht] at q;cases q
 | fin q=>rw[ht] at q;cases q
theorem Core.allgone (h:Core ty γ p w) (hv:vcT γ.tag p=0) (hnl:∀i,p.b<=i->¬(γ.tag i).lasts) (hI:GInv ty top γ w):∀i,p.b<=i->γ.tag i=.gone:=by
 intro i hb
 by_cases hi:i < γ.cnt
 ·have h0:(γ.tag i).cw=0:=by
   have:=Go.ConcN.le_sumTo (f:=fun j=>(γ.tag (p.b+j)).cw) (i:=i - p.b) (j:=p.W) (by have:=h.cntW;omega)
   rw[show p.b+(i - p.b)=i by omega] at this
   unfold vcT at hv
   omega
  have h1:=h.wtag i hb
  have h2:=hnl i hb
  cases e:γ.tag i<;>rw[e] at h0 h1 h2<;>first|rfl|exact h1.elim|exact absurd trivial h2 | (simp[Tag.cw] at h0)
 ·exact hI.un i (by omega)
theorem do_seen (hI:GInv ty top γ w) (hp:γ.ph=some p) (ht:γ.tag p.f=.shut) (hv:vcT γ.tag p=0) (wk:Prop):(crewPact P ty top Post).Do p.f γ w (γ.setTag p.f .thru) w wk #[rd (stA p.wg)]:=by
 have h:=hI.core _ hp
 obtain⟨q1,q2⟩:=h.nolast ht
 have hg:=h.allgone hv q2 hI
 refine do_feeder hI hp (h.refeed (x:=.thru) trivial (by unfold Gho.started;rw[show (γ.setTag p.f Tag.thru).tag p.f=Tag.thru from upd_same _ _ _,ht]) (fun _ _ e=>by cases e) (by rw[ht];rfl) ⟨0,0,by rw[hv] at q1;simpa using q1,?_⟩ (fun _ _=>rfl) fun e=>by cases e) trivial rfl rfl (fun _ _=>rfl) (fun e he=>?_) rfl wk
 ·exact .fin (upd_same _ _ _) fun i hi=>by rw[upd_ne _ _ (by have:=h.fd;omega)];exact hg i hi
 ·simp only[List.mem_toArray,List.mem_singleton] at he
  subst he
  exact ev_cell hI hp _ _ rfl _
theorem do_reg (hI:GInv ty top γ w) (hp:γ.ph=some p) (ht:γ.tag p.f=.shut) (hv:1<=vcT γ.tag p) (wk:Prop):(crewPact P ty top Post).Do p.f γ w (γ.setTag p.f .reg) (w.setCell (stA p.wg) (.int .u64 (((vcT γ.tag p:Nat):Int) * KK+1))) wk #[rd (stA p.wg),wr (stA p.wg)]:=by
 have h:=hI.core _ hp
 obtain⟨q1,q2⟩:=h.nolast ht
 have hsame:∀b,b≠p.wg->(w.setCell (stA p.wg) (.int .u64 (((vcT γ.tag p:Nat):Int) * KK+1))).heap[b]?=w.heap[b]?:=fun b hb=>heap_cell_ne _ _ _ hb
 refine do_feeder hI hp (h.refeed (x:=.reg) trivial (by unfold Gho.started;rw[show (γ.setTag p.f Tag.reg).tag p.f=Tag.reg from upd_same _ _ _,ht]) (fun _ _ e=>by cases e) (by rw[ht];rfl) ⟨_,0,q1.setSt _,?_⟩ hsame fun e=>by cases e) trivial (size_cell _ _ _) rfl hsame (fun e he=>?_) rfl wk
 ·have:=WMode.reg (tag:=upd γ.tag p.f .reg) (p:=p) (upd_same _ _ _) (fun i hi=>by rw[upd_ne _ _ (by have:=h.fd;omega)];exact q2 i hi) (by rw[vc_out _ h.fd];exact hv)
  rw[vc_out _ h.fd] at this
  exact this
 ·simp only[List.mem_toArray,List.mem_cons,List.not_mem_nil,or_false] at he
  rcases he with rfl|rfl<;>exact ev_cell hI hp _ _ rfl _
theorem do_through (hI:GInv ty top γ w) (hp:γ.ph=some p) (ht:γ.tag p.f=.reg) (hw:WgAt ty p.wg w 0 1) (wk:Prop):(crewPact P ty top Post).Do p.f γ w (γ.setTag p.f .thru) (w.setCell (smA p.wg) (.int .u32 0)) wk (semEvents (smA p.wg)):=by
 have h:=hI.core _ hp
 obtain⟨st,sm,q1,q2⟩:=h.wgm
 obtain⟨e1,e2⟩:=Go.ConcR.WgAt.unique hw q1
 have hg:∀i,p.b<=i->γ.tag i=.gone:=by
  cases q2 with
  | opn q=>rw[ht] at q;exact q.elim
  | reg=>cases e2
  | last=>cases e2
  | sema _ q=>exact q
  | fin q=>rw[ht] at q;cases q
 have hsame:∀b,b≠p.wg->(w.setCell (smA p.wg) (.int .u32 0)).heap[b]?=w.heap[b]?:=fun b hb=>heap_cell_ne _ _ _ hb
 refine do_feeder hI hp (h.refeed (x:=.thru) trivial (by unfold Gho.started;rw[show (γ.setTag p.f Tag.thru).tag p.f=Tag.thru from upd_same _ _ _,ht]) (fun _ _ e=>by cases e) (by rw[ht];rfl) ⟨0,0,hw.setSm _,?_⟩ hsame fun e=>by cases e) trivial (size_cell _ _ _) rfl hsame (fun e he=>?_) ?_ wk
 ·exact .fin (upd_same _ _ _) fun i hi=>by rw[upd_ne _ _ (by have:=h.fd;omega)];exact hg i hi
 ·simp only[semEvents,List.mem_toArray,List.mem_cons,List.not_mem_nil,or_false] at he
  rcases he with rfl|rfl|rfl|rfl
  ·exact ev_word (.inl rfl)
  ·exact ev_cell hI hp _ _ rfl _
  ·exact ev_cell hI hp _ _ rfl _
  ·exact ev_word (.inr (.inl rfl))
 ·simp[semEvents,deafBehind]
theorem reg_modes (hI:GInv ty top γ w) (hp:γ.ph=some p) (ht:γ.tag p.f=.reg):(GWait ty p.f γ w/\∃st,WgAt ty p.wg w st 0)\/WgAt ty p.wg w 0 1:=by
 have h:=hI.core _ hp
 obtain⟨st,sm,q1,q2⟩:=h.wgm
 cases q2 with
 | opn q=>rw[ht] at q;exact q.elim
 | reg=>exact .inl ⟨.wg p _ hp rfl ht q1,_,q1⟩
 | last=>exact .inl ⟨.wg p _ hp rfl ht q1,_,q1⟩
 | sema=>exact .inr q1
 | fin q=>rw[ht] at q;cases q
theorem do_add (hI:GInv ty top γ w) (hp:γ.ph=some p) (ht:γ.tag p.f=.add j 0) (hj:j < p.W) (wk:Prop):WgAt ty p.wg w ((j:Int) * KK) 0 /\
  (crewPact P ty top Post).Do p.f γ w (γ.setTag p.f (.add j 1)) (w.setCell (stA p.wg) (.int .u64 (((j:Int)+1) * KK))) wk #[rd (stA p.wg),wr (stA p.wg)]:=by
 have h:=hI.core _ hp
 have hfc:p.f < γ.cnt:=by have:=h.fd;have:=h.cnt;omega
 have hcl:(γ.tag p.f).closed=false:=by rw[ht];rfl
 have hv:vcT γ.tag p=j:=by rw[h.vc_early hI hcl];unfold Gho.started;rw[ht]
 have hnl:∀i,p.b<=i->¬(γ.tag i).lasts:=fun i hb=>by
  by_cases hi:i < γ.cnt
  ·have:=h.early hcl i hb hi
   intro q
   cases e:γ.tag i<;>rw[e] at this q<;>first|exact this|exact q
  ·rw[hI.un i (by omega)];exact id
 have hwg:WgAt ty p.wg w ((j:Int) * KK) 0:=by
  obtain⟨st,sm,q1,q2⟩:=h.wgm
  cases q2 with
  | opn=>rw[hv,ht] at q1;simpa [Tag.pend] using q1
  | reg q=>rw[ht] at q;cases q
  | last _ _ q=>rw[ht] at q;cases q
  | sema q=>rw[ht] at q;cases q
  | fin q=>rw[ht] at q;cases q
 refine⟨hwg,?_⟩
 have hsame:∀b,b≠p.wg->(w.setCell (stA p.wg) (.int .u64 (((j:Int)+1) * KK))).heap[b]?=w.heap[b]?:=fun b hb=>heap_cell_ne _ _ _ hb
 have hadd:=h.add j 0 ht
 have hwg':∃st sm,WgAt ty p.wg (w.setCell (stA p.wg) (.int .u64 (((j:Int)+1) * KK))) st sm/\WMode (upd γ.tag p.f (.add j 1)) p st sm:=by
  have hm:WMode (upd γ.tag p.f (.add j 1)) p (((vcT (upd γ.tag p.f (.add j 1)) p+((upd γ.tag p.f (.add j 1)) p.f).pend:Nat):Int) * KK) 0 :=
   .opn (by rw[upd_same];trivial) fun i hi=>by rw[upd_ne _ _ (by have:=h.fd;omega)];exact hnl i hi
  rw[vc_out _ h.fd,hv,upd_same] at hm
  exact⟨_,_,hwg.setSt _,by simpa [Tag.pend] using hm⟩
 have hC':=h.refeed (x:=.add j 1) (w':=w.setCell (stA p.wg) (.int .u64 (((j:Int)+1) * KK))) trivial (by unfold Gho.started;rw[show (γ.setTag p.f (Tag.add j 1)).tag p.f=Tag.add j 1 from upd_same _ _ _,ht]) (fun j' q' e=>by injection e with e1 e2;subst e1 e2;exact⟨by omega,.inr ⟨rfl,hj⟩,hadd.2.2⟩) (by rw[ht];rfl) hwg' hsame (fun e=>by cases e)
 obtain⟨l1,_⟩:=h.lts hI.hs
 refine do_feeder hI hp hC' trivial (size_cell _ _ _) rfl hsame (fun e he=>?_) rfl wk
 simp only[List.mem_toArray,List.mem_cons,List.not_mem_nil,or_false] at he
 rcases he with rfl|rfl
 ·exact .inl ⟨stA p.wg,false,rfl,l1,.inl ⟨p.f,h.bwg⟩⟩
 ·exact .inl ⟨stA p.wg,true,rfl,l1,.inl ⟨p.f,h.bwg⟩⟩
theorem do_close (hI:GInv ty top γ w) (hp:γ.ph=some p) (ht:γ.tag p.f=.feed) (hn:γ.next=p.n\/γ.stp=true) {s:Nat} (hj:w.heap[p.jobs]?=some (.chan 0 #[] false s s false)) (wk:Prop) (hwk:wk):(crewPact P ty top Post).Do p.f γ w (γ.setTag p.f .shut) (w.setChan p.jobs 0 #[] true s s false) wk #[⟨.obj p.jobs,false,true⟩,⟨.obj p.jobs,true,true⟩]:=by
 have h:=hI.core _ hp
 have hfc:p.f < γ.cnt:=by have:=h.fd;have:=h.cnt;omega
 obtain⟨l1,l2,l3⟩:=h.lts hI.hs
 have tf:(γ.setTag p.f .shut).tag p.f=.shut:=upd_same _ _ _
 have tn:∀k,k≠p.f->(γ.setTag p.f .shut).tag k=γ.tag k:=fun k hk=>upd_ne _ _ hk
 have tw:∀k,p.b<=k->(γ.setTag p.f .shut).tag k=γ.tag k:=fun k hk=>tn k (by have:=h.fd;omega)
 have hsz:(w.setChan p.jobs 0 #[] true s s false).heap.size=w.heap.size:=by simp[World.setChan]
 have hsame:∀b,b≠p.jobs->(w.setChan p.jobs 0 #[] true s s false).heap[b]?=w.heap[b]?:=fun b hb=>heap_setChan _ _ _ _ _ _ _ _ hb
 have hsame2:∀b,γ.bk b≠.shd p.f->(w.setChan p.jobs 0 #[] true s s false).heap[b]?=w.heap[b]?:=fun b hb=>hsame b fun q=>hb (by rw[q];exact h.bjobs)
 have noph:∀ {q:Prop},γ.ph=none->q:=fun q=>by rw[hp] at q;cases q
 have hC:Core ty (γ.setTag p.f .shut) p (w.setChan p.jobs 0 #[] true s s false):=by
  refine⟨h.bwg,h.bjobs,h.bstop,h.ne,fun b m hb e=>?_,h.fixm,h.fd,by rw[tf];trivial,?_,(fun j q e=>by rw[tf] at e;cases e),fun k h1 h2 h3=>(tn k h1).trans (h.rest k h1 h2 h3),fun k hk=>by rw[tw k hk];exact h.wtag k hk,(fun hc=>by rw[tf] at hc;cases hc),?_,⟨s,?_⟩,(hsame _ (Ne.symm h.ne.2.2)).trans h.stop,h.stpk,fun y hy=>?_,h.nle,fun _=>hn,h.busy.of (fun k y e=>?_) rfl fun _=>Iff.rfl,fun k hk=>?_,h.small,h.pos,fun q=>?_,fun q=>(h.seek q).retag (fun y r=>by cases r) (fun y r=>by rw[ht] at r;cases r) (hsame _ fun r=>by have:=(h.seek q).bout;rw[r,h.bjobs] at this;cases this) (hsame _ (h.seek q).ne.2.1),h.nomix⟩
  ·rw[hsame b (fun q=>by have e':γ.bk b=.fix m:=e;rw[q,h.bjobs] at e';cases e')];exact h.fix b m hb e
  ·show γ.cnt=p.b+(γ.setTag p.f .shut).started p
   have:=h.cnt
   unfold Gho.started at this ⊢
   rw[tf];rw[ht] at this;exact this
  ·obtain⟨st,sm,q1,q2⟩:=h.wgm
   refine⟨st,sm,q1.of_block (hsame _ (Ne.symm h.ne.1)),?_⟩
   cases q2 with
   | opn _ q4 =>
    have:=WMode.opn (tag:=upd γ.tag p.f .shut) (p:=p) (by rw[upd_same];trivial) fun i hi=>by rw[upd_ne _ _ (by have:=h.fd;omega)];exact q4 i hi
    rw[vc_out _ h.fd,upd_same] at this
    rw[ht]
    exact this
   | reg q=>rw[ht] at q;cases q
   | last _ _ q=>rw[ht] at q;cases q
   | sema q=>rw[ht] at q;cases q
   | fin q=>rw[ht] at q;cases q
  ·rw[heap_setChan_same _ _ _ _ _ _ _ _ (by rw[<- hI.hs];exact l2),tf];rfl
  ·rcases h.job y hy with q|⟨m,q1,q2⟩
   ·exact .inl q
   ·exact .inr ⟨m,q1,by rw[tw m q1];exact q2⟩
  ·by_cases q:k=p.f
   ·rw[q,tf] at e;rcases e with e|e<;>cases e
   ·rw[tn k q] at e;exact e
  ·by_cases q:k=p.f
   ·rw[q,tf] at hk;rcases hk with e|e<;>cases e
   ·rw[tn k q] at hk;exact h.hear k hk
  ·have hF:=h.fill q
   refine⟨hF.bout,?_,fun k y e=>?_,hF.mine,hF.owm,hF.mixo,fun k y e=>?_⟩
   ·obtain⟨cs,q,q2⟩:=hF.out
    exact⟨cs,by rw[hsame _ (fun e=>by have:=hF.bout;rw[e,h.bjobs] at this;cases this)];exact q,q2⟩
   ·by_cases q:k=p.f
    ·rw[q,tf] at e;cases e
    ·rw[tn k q] at e;exact hF.busy k y e
   ·by_cases q:k=p.f
    ·rw[q,tf] at e;cases e
    ·rw[tn k q] at e;exact hF.nog k y e
 refine⟨hI.crew hp hC (.inl ⟨rfl,trivial⟩) (fun y q=>by cases q) hsz hsame2,fun j' hj'=>rel_wg hI hp (.set _ _ _) (upd_ne _ _ hj') rfl (fun e=>absurd e.symm hj') rfl hsame2,fun t fn pos hT=>?_,fun _ _ _ _ _ _ _ _=>.inr hwk,.inl hwk,rfl,.of rfl rfl⟩
 have h1:GTr γ (t++MemOp.ofEvents p.f fn pos #[⟨.obj p.jobs,false,true⟩,⟨.obj p.jobs,true,true⟩]):=hT.cells hI (by rw[hp];simp) hfc (crew_place hI hp (.inl rfl)) (fun e he=>by
    simp only[List.mem_toArray,List.mem_cons,List.not_mem_nil,or_false] at he
    rcases he with rfl|rfl
    ·refine .inr (.inl ⟨fun x hx=>?_,by simp[MemAct.ofEvent]⟩)
     simp only[MemAct.ofEvent,MemAct.touch?,Option.some.injEq] at hx
     subst hx
     exact⟨rfl,l2,_,h.bjobs⟩
    ·exact .inr (.inl ⟨fun x hx=>by simp[MemAct.ofEvent,MemAct.touch?] at hx,by simp[MemAct.ofEvent]⟩)) (.refl _) (fun _ _=>rfl) (fun _ _=>rfl) rfl id fun p' hp' hb=>by
     obtain rfl:=same_ph hp hp';exact absurd hb (Nat.not_le_of_lt h.fd)
 exact h1.retag (by rw[hp];simp) (fun k l hk=>⟨hk.1,fun e=>hk.2.1 (by
   show upd γ.tag p.f _ k=_
   rw[upd_ne _ _ (fun q=>by subst q;rw[ht] at e;cases e)];exact e),hk.2.2⟩) fun _ _ _ _ q=>q.elim
end
end Go.Proofs.YtbicafgmfgdckaaDoor
