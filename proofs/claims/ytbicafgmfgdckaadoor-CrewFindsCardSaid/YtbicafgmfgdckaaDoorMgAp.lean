/- The crew's pact: the end of the feeding is made; a job that looked is over; what a worker knows of itself meanwhile. For any program. The crew's pact: the stops of who is at a lock. For any program. The library's functions under a lock, under this program's numbers; a quiet load; small laws of a lock's word. The library's WaitGroup under this program's numbers. -/
import Derived.Test.YtbicafgmfgdckaaDoorMgAo
import Derived.Test.YtbicafgmfgdckaaDoorMgAg
import Derived.Test.YtbicafgmfgdckaaDoorProg
import Derived.Conc.AtomicLaws2
import Derived.Conc.ClockLaws
import Derived.Conc.MarkLaws
import Derived.Conc.SmallLaws
import Derived.KernelRfl
import Derived.Conc.WgLib
namespace Go.Proofs.YtbicafgmfgdckaaDoor
open Go Go.Conc
open Go.ConcR (KK wgBlock WgAt stA smA rd wr mk DC0)
open Go.ConcN (sumTo upd upd_same upd_ne RelBy PermW WgLive)
section
variable {ty:TypeId} {top:Nat} {γ γ' γ2:Gho} {p:Ph} {c:Col} {w w' w2:World} {i j k n m y d:Nat} {t u:Trace} {P:Program} {Post:Value->World->Prop} {es:Array Event} {a b:ML} {x x':MW} {wk:Prop} {f:Nat->ML}
def Gho.halt (γ:Gho) (p:Ph) (i:Nat):Gho:={ (γ.setSk (γ.sk.own 1 i 2 none p.out γ.sk.took γ.sk.od) i (γ.deaf i)) with stp:=true }
theorem do_halt {s rc:Nat} {z:Nat} (hI:GInv ty top γ w) (hp:γ.ph=some p) (hk:p.kind=.seek) (hb:p.b<=i) (hi:i < γ.cnt) (ht:γ.tag i=.busy y) (ha:γ.sk.ml 1 i=.own 1) (h2:∀z,z≠1->z < 2->γ.sk.ml z i=.off\/γ.sk.ml z i=.fresh) (hod:γ.sk.od=false) (hz:γ.sk.took z)
  (hj:w.heap[p.stop]?=some (.chan 0 #[] false s rc false)) (wk:Prop) (hwk:wk):(crewPact P ty top Post).Do i γ w (γ.halt p i) (w.setChan p.stop 0 #[] true s rc false) wk #[⟨.obj p.stop,false,true⟩,⟨.obj p.stop,true,true⟩]:=by
 have hC:=hI.core p hp
 have hS:=hC.seek hk
 have hn:=hS.nbs hC
 have hno:=(seek_alone hI hp hk).1
 have hst:=hC.stop
 rw[hj] at hst
 injection hst with hst
 injection hst with _ _ e1 e2 e3
 subst e2 e3
 have hsz:(w.setChan p.stop 0 #[] true 0 0 false).heap.size=w.heap.size:=by simp[World.setChan]
 have hh:∀b,b≠p.stop->(w.setChan p.stop 0 #[] true 0 0 false).heap[b]?=w.heap[b]?:=fun b hb=>heap_setChan _ _ _ _ _ _ _ _ hb
 have l3:=(hC.lts hI.hs).2.2
 have noph:∀ {q:Prop},γ.ph=none->q:=fun q=>by rw[hp] at q;cases q
 have hS':SeekI (γ.halt p i) p (w.setChan p.stop 0 #[] true 0 0 false):=own_seek (stp:=true) hS (by omega) ht ha h2 (fun q=>by cases q) (by rw[hh _ hn.2.2.1];exact hS.best) (by rw[hh _ hS.ne.2.2];exact hS.once) hS.took (fun _ q=>q) (fun _=>⟨z,hz⟩) (fun _ _=>.inl ⟨rfl,rfl⟩) fun _=>rfl
 have hC':Core ty (γ.halt p i) p (w.setChan p.stop 0 #[] true 0 0 false):=by
  have h:=hC
  refine⟨h.bwg,h.bjobs,h.bstop,h.ne,fun b m hb e=>?_,h.fixm,h.fd,h.ftag,h.cnt,h.add,h.rest,h.wtag,h.early,?_,?_,?_,fun q=>absurd hk q,h.job,h.nle,fun _=>.inr rfl,⟨h.busy.1,h.busy.2⟩,fun j hj=>?_,h.small,h.pos,(fun q=>by rw[hk] at q;cases q),fun _=>hS',h.nomix⟩
  ·rw[hh b (fun q=>by have e':γ.bk b=.fix m:=e;rw[q,h.bstop] at e';cases e')];exact h.fix b m hb e
  ·obtain⟨st,sm,q1,q2⟩:=h.wgm
   exact⟨st,sm,q1.of_block (hh _ (Ne.symm h.ne.2.1)),q2⟩
  ·obtain⟨s',q⟩:=h.jobs
   exact⟨s',(hh _ h.ne.2.2).trans q⟩
  ·exact heap_setChan_same _ _ _ _ _ _ _ _ (by rw[<- hI.hs];exact l3)
  ·refine(upd_ne _ _ fun e=>?_).trans (h.hear j hj)
   subst e
   have hj':γ.tag j=.idle\/γ.tag j=.feed:=hj
   rw[ht] at hj'
   rcases hj' with e|e<;>cases e
 refine⟨⟨by rw[hsz];exact hI.hs,hI.cnt,hI.main,hI.un,fun q=>noph q,fun p' hp'=>by obtain rfl:=same_ph hp hp';exact hC',fun c hc=>?_,fun c hc=>?_,hI.mate,hI.alone,hI.top⟩,fun j hj=>⟨rfl,upd_ne _ _ hj,⟨rfl,rfl⟩,fun _=>⟨Nat.le_refl _,fun _ _ _=>rfl,fun _ h1 h2=>⟨h1,h2⟩,fun b _ e=>hh b fun q=>?_,rfl,fun _ h=>h.1,fun h _=>h,rfl,fun _ _ _=>⟨rfl,Nat.le_refl _⟩,fun _ _ q=>noph q,fun _ _ _ _ q=>noph q,fun _ _=>Nat.le_refl _,fun _ _ _=>Iff.rfl,fun _ _ _=>rfl,fun z=>own_ml2 _ (.inl hj),fun p' hp' _=>?_⟩⟩,fun t fn pos hT=>?_,fun _ _ _ _ _ _ _ _=>.inr hwk,.inl hwk,rfl,.of rfl rfl⟩
 ·have hc':γ.col=some c:=hc
  rw[hno] at hc';cases hc'
 ·have hc':γ.col=some c:=hc
  rw[hno] at hc';cases hc'
 ·rw[q,hC.bstop] at e;rcases e with e|⟨m,_,e⟩<;>cases e
 ·obtain rfl:=same_ph hp hp'.1
  exact own_skrel hS (by omega) ha hj (fun _ q=>q) (.inr ⟨by simp only[World.cell?,hh p.out hn.2.2.1],rfl⟩) (.inl rfl)
 ·refine GTr.cells' (γ':=γ.halt p i) hT hI (by rw[hp];simp) hi (crew_place hI hp (.inr hb)) (fun e he=>?_) rfl rfl rfl rfl rfl rfl rfl (fun _ _=>rfl) (fun _ hk=>upd_ne _ _ hk) (by show upd γ.deaf i (γ.deaf i) i=_;rw[upd_same];rfl) id fun p' hp' _ q=>?_
  ·simp only[List.mem_toArray,List.mem_cons,List.not_mem_nil,or_false] at he
   rcases he with rfl|rfl
   ·refine .inr (.inl ⟨fun x hx=>?_,by simp[MemAct.ofEvent]⟩)
    simp only[MemAct.ofEvent,MemAct.touch?,Option.some.injEq] at hx
    subst hx
    exact⟨rfl,l3,_,hC.bstop⟩
   ·exact .inr (.inl ⟨fun x hx=>by simp[MemAct.ofEvent,MemAct.touch?] at hx,by simp[MemAct.ofEvent]⟩)
  ·have q':(γ.tag i).said:=q
   rw[ht] at q';exact q'.elim
def Gho.looked (γ:Gho) (i y:Nat):Gho:={ γ with tag:=upd γ.tag i .idle,done:=fun z=>γ.done z\/z=y,sk:={ γ.sk with ml:=fun m=>upd (γ.sk.ml m) i .off } }
theorem do_looked (hI:GInv ty top γ w) (hp:γ.ph=some p) (hk:p.kind=.seek) (hb:p.b<=i) (hi:i < γ.cnt) (ht:γ.tag i=.busy y) (hd:γ.deaf i=0) (h2:∀z,z < 2->γ.sk.ml z i=.off\/γ.sk.ml z i=.fresh) (hy:p.hit y->γ.sk.took y) (wk:Prop):(crewPact P ty top Post).Do i γ w (γ.looked i y) w wk #[]:=by
 have h:=hI.core _ hp
 have hS:=h.seek hk
 have hno:=(seek_alone hI hp hk).1
 have hr:=worker_range hI hp hb hi
 have hfi:p.f≠i:=by have:=h.fd;omega
 have hi0:i≠0:=by have:=h.fd;omega
 have tf:(γ.looked i y).tag p.f=γ.tag p.f:=upd_ne _ _ hfi
 have noph:∀ {q:Prop},γ.ph=none->q:=fun q=>by rw[hp] at q;cases q
 have hv:vcT (upd γ.tag i .idle) p=vcT γ.tag p:=by
  have:=vc_set (tag:=γ.tag) .idle hb hr.2
  rw[ht] at this
  simp only[Tag.cw] at this
  omega
 have mu:∀z,z < 2->MuI p.b p.W (upd (γ.sk.ml z) i .off) (γ.sk.mw z)/\mN ML.wt p.b p.W (upd (γ.sk.ml z) i .off)<=mN ML.wt p.b p.W (γ.sk.ml z):=fun z hz=>by
  rcases h2 z hz with e|e
  ·have:upd (γ.sk.ml z) i .off=γ.sk.ml z:=by funext q;by_cases e2:q=i<;>simp[upd,e2,e]
   rw[this]
   exact⟨hS.mi z hz,Nat.le_refl _⟩
  ·obtain⟨q1,q2,_⟩:=MuI.step (hS.mi z hz) hr.1 hr.2 (by rw[e];exact MStep.fin)
   exact⟨q1,by omega⟩
 have own:∀ {z j k},upd (γ.sk.ml z) i .off j=.own k->γ.sk.ml z j=.own k:=fun {z j k} e=>by
  by_cases q:j=i
  ·rw[q,upd_same] at e;cases e
  ·rwa [upd_ne _ _ q] at e
 have hS':SeekI (γ.looked i y) p w:=by
  refine⟨hS.bout,hS.bonce,hS.ne,hS.W,hS.best,hS.once,fun z hz=>(mu z hz).1,fun z j hz q=>?_,hS.left,fun j q=>hS.lo1 j (own q),fun q=>hS.lo0 fun j r=>?_,fun j=>?_,hS.took,fun x q1 q2=>?_,hS.stp,fun q1 q2=>?_,hS.od1,fun j x e=>?_⟩
  ·have q':upd (γ.sk.ml z) i .off j≠.off:=q
   by_cases e:j=i
   ·rw[e,upd_same] at q';exact absurd rfl q'
   ·rw[upd_ne _ _ e] at q'
    obtain⟨x,r⟩:=hS.busy z j hz q'
    exact⟨x,(upd_ne _ _ e).trans r⟩
  ·by_cases e:j=i
   ·rw[e] at r
    rcases h2 0 (by omega) with q|q<;>(rw[r] at q;cases q)
   ·exact q j ((upd_ne _ _ e).trans r)
  ·show upd (γ.sk.ml 0) i .off j=_\/upd (γ.sk.ml 0) i .off j=_\/upd (γ.sk.ml 1) i .off j=_\/upd (γ.sk.ml 1) i .off j=_
   by_cases e:j=i
   ·left;rw[e,upd_same]
   ·rw[upd_ne _ _ e,upd_ne _ _ e];exact hS.two j
  ·rcases q1 with q|rfl
   ·exact hS.done x q q2
   ·exact hy q2
  ·obtain⟨j,r⟩:=hS.od0 q1 q2
   refine⟨j,(upd_ne _ _ fun e=>?_).trans r⟩
   rw[e] at r
   rcases h2 1 (by omega) with q|q<;>(rw[r] at q;cases q)
  ·have e':upd γ.tag i .idle j=.give x:=e
   by_cases q:j=i
   ·rw[q,upd_same] at e';cases e'
   ·rw[upd_ne _ _ q] at e';exact hS.nogive j x e'
 have hC:Core ty (γ.looked i y) p w:=by
  refine⟨h.bwg,h.bjobs,h.bstop,h.ne,h.fix,h.fixm,h.fd,by rw[tf];exact h.ftag,?_,fun j q e=>by rw[tf] at e;exact h.add j q e,fun k h1 h2 h3=>?_,fun k hk=>?_,fun hc k h1 h2=>?_,?_,by rw[tf];exact h.jobs,h.stop,h.stpk,fun z hz=>?_,h.nle,by rw[tf];exact h.full,⟨fun k z e=>?_,fun z hz=>hz.elim (h.busy.2 z) fun q=>by rw[q];exact(h.busy.1 i y (.inl ht)).1⟩,fun k hk=>?_,h.small,h.pos,(fun q=>by rw[hk] at q;cases q),fun _=>hS',h.nomix⟩
  ·show γ.cnt=p.b+(γ.looked i y).started p
   have:=h.cnt
   unfold Gho.started at this ⊢
   rw[tf];exact this
  ·show upd γ.tag i _ k=_;rw[upd_ne _ _ (by omega)];exact h.rest k h1 h2 h3
  ·show (upd γ.tag i _ k).works
   by_cases q:k=i
   ·subst q;rw[upd_same];trivial
   ·rw[upd_ne _ _ q];exact h.wtag k hk
  ·rw[tf] at hc
   show (upd γ.tag i _ k).early
   by_cases q:k=i
   ·subst q;rw[upd_same];trivial
   ·rw[upd_ne _ _ q];exact h.early hc k h1 h2
  ·obtain⟨st,sm,q1,q2⟩:=h.wgm
   refine⟨st,sm,q1,?_⟩
   have hlast:(∀k,p.b<=k->¬(γ.tag k).lasts)->∀k,p.b<=k->¬(upd γ.tag i .idle k).lasts:=fun hnl k hk=>by
    by_cases q:k=i
    ·subst q;rw[upd_same];exact id
    ·rw[upd_ne _ _ q];exact hnl k hk
   cases q2 with
   | opn q3 q4 =>
    have hm:=WMode.opn (tag:=upd γ.tag i .idle) (p:=p) (by rw[upd_ne _ _ hfi];exact q3) (hlast q4)
    rw[upd_ne _ _ hfi,hv] at hm
    exact hm
   | reg q3 q4 q5 =>
    have hm:=WMode.reg (tag:=upd γ.tag i .idle) (p:=p) (by rw[upd_ne _ _ hfi];exact q3) (hlast q4) (by rw[hv];exact q5)
    rw[hv] at hm
    exact hm
   | last L k q3 q4 q5 q6 =>
    exfalso
    by_cases e:i=L
    ·subst e;rw[ht] at q5;cases q5
    ·have:=q6 i hb e;rw[ht] at this;cases this
   | sema q3 q4=>have:=q4 i hb;rw[ht] at this;cases this
   | fin q3 q4=>have:=q4 i hb;rw[ht] at this;cases this
  ·by_cases e:z=y
   ·exact .inl (.inr e)
   ·rcases h.job z hz with q|⟨m,q1,q2⟩
    ·exact .inl (.inl q)
    ·refine .inr ⟨m,q1,?_⟩
     show (upd γ.tag i _ m).at_ z
     rw[upd_ne _ _ (fun q=>by
      subst q;rw[ht] at q2
      rcases q2 with q2|q2
      ·injection q2 with q2;exact e q2.symm
      ·cases q2)]
     exact q2
  ·have e':(upd γ.tag i .idle k).at_ z:=e
   by_cases q:k=i
   ·subst q;rw[upd_same] at e';rcases e' with e' | e'<;>cases e'
   ·rw[upd_ne _ _ q] at e'
    obtain⟨b1,b2,b3⟩:=h.busy.1 k z e'
    refine⟨b1,fun r=>r.elim b2 fun r=>q ?_,fun j e2=>?_⟩
    ·subst r
     exact((h.busy.1 i z (.inl ht)).2.2 k e')
    ·have e3:(upd γ.tag i .idle j).at_ z:=e2
     by_cases q2:j=i
     ·subst q2;rw[upd_same] at e3;rcases e3 with e3|e3<;>cases e3
     ·rw[upd_ne _ _ q2] at e3;exact b3 j e3
  ·by_cases q:k=i
   ·subst q;exact hd
   ·refine h.hear k (hk.imp (fun e=>?_) fun e=>?_)<;>(have e':upd γ.tag i .idle k=_:=e;rwa [upd_ne _ _ q] at e')
 refine⟨⟨hI.hs,hI.cnt,?_,fun k hk=>?_,fun q=>noph q,fun p' hp'=>by obtain rfl:=same_ph hp hp';exact hC,(fun c hc=>by have hc':γ.col=some c:=hc;rw[hno] at hc';cases hc'),(fun c hc=>by have hc':γ.col=some c:=hc;rw[hno] at hc';cases hc'),hI.mate,hI.alone,hI.top⟩,fun j hj=>⟨upd_ne _ _ hj,rfl,⟨rfl,rfl⟩,fun _=>⟨Nat.le_refl _,fun _ _ _=>rfl,fun _ h1 h2=>⟨h1,h2⟩,fun _ _ _=>rfl,rfl,fun _ h=>h.1,fun h _=>h,rfl,fun p' hp' _=>⟨rfl,?_⟩,fun _ _ q=>noph q,fun _ _ _ _ q=>noph q,fun _ _=>Nat.le_refl _,(fun _ q=>absurd hno q),(fun _ _ h=>h),(fun z=>upd_ne _ _ hj),fun p' hp' _=>?_⟩⟩,fun t fn pos hT=>?_,fun _ _ _ _ _ _ _ _=>.inl rfl,.inr fun j hj hwt=>wait_keep' hwt rfl (upd_ne _ _ hj) (fun m q=>⟨(upd_ne _ _ hj).trans q,id⟩) fun _ _=>rfl,rfl,.refl _⟩
 ·show upd γ.tag i _ 0≠_;rw[upd_ne _ _ (Ne.symm hi0)];exact hI.main
 ·show upd γ.tag i _ k=_;rw[upd_ne _ _ (by have:γ.cnt<=k:=hk;omega)];exact hI.un k hk
 ·obtain rfl:=same_ph hp hp'.1;exact Nat.le_of_eq hv
 ·obtain rfl:=same_ph hp hp'.1
  refine⟨fun z hz=>⟨?_,.inl rfl⟩,fun _ _ _=>Nat.le_refl _,fun _=>⟨rfl,fun _=>Iff.rfl⟩,fun _ _=>⟨rfl,rfl⟩,fun _ q=>q⟩
  show 6 * γ.sk.left+mN ML.wt p.b p.W (upd (γ.sk.ml z) i .off)+(γ.sk.mw z).q<=6 * γ.sk.left+mN ML.wt p.b p.W (γ.sk.ml z)+(γ.sk.mw z).q
  have:=(mu z hz).2
  omega
 ·rw[ofEvents_nil]
  refine⟨hT.d.low hT.low (fun _ _=>rfl) rfl rfl fun k l _ hk=>⟨hk.1,fun e=>hk.2.1 (by
   show upd γ.tag i _ k=_
   rw[upd_ne _ _ (fun q=>by subst q;rw[ht] at e;cases e)];exact e),hk.2.2⟩,hT.deaf,hT.nrel,hT.low,fun p' hp' k hk hk2 hs=>?_,hT.old,fun _ _ q=>noph q,fun _ _ q=>noph q⟩
  have hs':(upd γ.tag i .idle k).said:=hs
  by_cases q:k=i
  ·subst q;rw[upd_same] at hs';exact hs'.elim
  ·rw[upd_ne _ _ q] at hs';exact hT.rel p' hp' k hk hk2 hs'
structure In (p:Ph) (i y d:Nat) (f:Nat->ML) (γ:Gho):Prop where
 ph:γ.ph=some p
 kind:p.kind=.seek
 b:p.b<=i
 i0:i≠0
 tag:γ.tag i=.busy y
 deaf:γ.deaf i=d
 ml:∀m,m < 2->γ.sk.ml m i=f m
theorem In.ng (h:In p i y d f γ):γ.tag i≠.gone:=by rw[h.tag];simp
theorem In.ns (h:In p i y d f γ):¬(γ.tag i).tied:=by rw[h.tag];exact id
theorem In.on (h:In p i y d f γ):γ.on i p:=⟨h.ph,.inl h.i0⟩
theorem In.rely (h:In p i y d f γ) (hr:Rel i γ w γ2 w2):In p i y d f γ2/\SkRel i p γ w γ2 w2/\Kw i γ γ2:=by
 have l:=hr.live h.ng
 exact⟨⟨l.ph _ h.on,h.kind,h.b,h.i0,hr.tag.trans h.tag,hr.deaf.trans h.deaf,fun m hm=>(l.ml m).trans (h.ml m hm)⟩,l.sk p h.on h.kind,l.kw⟩
theorem In.seek (h:In p i y d f γ) (hI:GInv ty top γ w):SeekI γ p w:=(hI.core p h.ph).seek h.kind
theorem In.setDeaf (h:In p i y d f γ) (d':Nat):In p i y d' f (γ.setDeaf i d'):=⟨h.ph,h.kind,h.b,h.i0,h.tag,upd_same _ _ _,h.ml⟩
theorem In.go (h:In p i y d f γ) (hm:m < 2) (b:ML) (x:MW) (d':Nat):In p i y d' (upd f m b) (γ.setSk (γ.sk.go m i b x) i d') :=
 ⟨h.ph,h.kind,h.b,h.i0,h.tag,upd_same _ _ _,fun k hk=>by
  show (γ.sk.go m i b x).ml k i=_
  by_cases e:k=m
  ·subst e;rw[go_ml,upd_same]
  ·rw[go_ml2 _ _ _ (.inr e),upd_ne _ _ e];exact h.ml k hk⟩
theorem kw_sk (γ:Gho) (s:Sk) (j d:Nat):Kw i γ (γ.setSk s j d):=⟨Nat.le_refl _,fun _ h=>h,fun _ h=>h.1,rfl,fun _ _=>Nat.le_refl _⟩
theorem kw_deaf (γ:Gho) (j d:Nat):Kw i γ (γ.setDeaf j d):=⟨Nat.le_refl _,fun _ h=>h,fun _ h=>h.1,rfl,fun _ _=>Nat.le_refl _⟩
end
end Go.Proofs.YtbicafgmfgdckaaDoor
namespace Go.Proofs.YtbicafgmfgdckaaDoor
open Go Go.Conc
open Go.ConcR (KK wgBlock WgAt stA smA rd wr mk DC0)
open Go.ConcN (sumTo upd upd_same upd_ne RelBy PermW WgLive)
section
variable {ty:TypeId} {top:Nat} {γ γ' γ2:Gho} {p:Ph} {c:Col} {w w' w2:World} {i j k n m y d:Nat} {t u:Trace} {P:Program} {Post:Value->World->Prop} {es:Array Event} {a b:ML} {x x':MW} {wk:Prop} {f:Nat->ML} {g g' gT gF:Goroutine}
structure Aft (i:Nat) (p:Ph) (γ γ':Gho):Prop where
 kw:Kw i γ γ'
 took:∀x,γ.sk.took x->γ'.sk.took x
 v:∀m,m < 2->γ'.sk.V p m<=γ.sk.V p m
theorem Aft.refl (i:Nat) (p:Ph) (γ:Gho):Aft i p γ γ:=⟨.refl _ _,fun _ h=>h,fun _ _=>Nat.le_refl _⟩
theorem Aft.trans {γ3:Gho} (h:Aft i p γ γ2) (h':Aft i p γ2 γ3):Aft i p γ γ3:=⟨h.kw.trans h'.kw,fun x q=>h'.took x (h.took x q),fun m hm=>Nat.le_trans (h'.v m hm) (h.v m hm)⟩
theorem SkRel.aft (h:SkRel i p γ w γ2 w2) (hk:Kw i γ γ2):Aft i p γ γ2:=⟨hk,h.took,fun m hm=>(h.v m hm).1⟩
theorem lv_step (h:In p i y d f γ) (hr:g.status=.running) (K:∀γ2 w2,In p i y d f γ2->SkRel i p γ w γ2 w2->Aft i p γ γ2->GInv ty top γ2 w2->i < γ2.cnt->NX P ty top Post i γ2 w2 g):LV P ty top Post i γ w g :=
 lives_step hr h.ng fun γ2 w2 hrl hI hi=>let ⟨q1,q2,q3⟩:=h.rely hrl;K γ2 w2 q1 q2 (q2.aft q3) hI hi
theorem lv_mark {mm:Mark} {d':Nat} (h:In p i y d f γ) (hr:g.status=.running) (hm:(mm=.disable/\d'=d+1)\/(mm=.enable/\d=d'+1)) (hst:∀w,stepG P (i==0) g w=.go g' w #[mk mm]) (K:∀γ' w',In p i y d' f γ'->Aft i p γ γ'->LV P ty top Post i γ' w' g'):LV P ty top Post i γ w g:=by
 refine lv_step h hr fun γ2 w2 h2 _ ha hI hi=>?_
 have hDo:=do_mute (P:=P) (Post:=Post) (es:=#[mk mm]) hI hi (mute_word (by rcases hm with⟨q,_⟩|⟨q,_⟩<;>simp[q])) (.inr (by rw[h2.tag];simp)) (mayWake P g=true)
 have e:deafBehind (γ2.deaf i) #[mk mm]=d':=by
  rw[h2.deaf]
  rcases hm with⟨rfl,rfl⟩|⟨rfl,rfl⟩
  ·exact deaf_on _
  ·exact deaf_off _
 rw[e] at hDo
 exact .go g' w2 _ _ (hst w2) hDo (K _ _ (h2.setDeaf d') (ha.trans ⟨kw_deaf _ _ _,fun _ q=>q,fun _ _=>Nat.le_refl _⟩))
theorem In.at_ (h:In p i y d f γ) (hI:GInv ty top γ w) (hm:m < 2):w.cell? (p.muA m)=some (.int .i32 ((γ.sk.mw m).code:Nat))/\w.cell? (p.msA m)=some (.int .u32 ((γ.sk.mw m).q:Nat))/\∀o,w.frozen? ⟨p.mB m,o,none⟩=false:=(h.seek hI).at_ hm
theorem In.mi (h:In p i y d f γ) (hI:GInv ty top γ w) (hm:m < 2):MuI p.b p.W (γ.sk.ml m) (γ.sk.mw m):=(h.seek hI).mi m hm
theorem go_aft (h:In p i y d f γ) (hI:GInv ty top γ w) (hi:i < γ.cnt) (hm:m < 2) (ha:f m=a) (hs:MStep a (γ.sk.mw m) b x') (hw:MuTo p m (γ.sk.mw m) x' w w') (d':Nat):Aft i p γ (γ.setSk (γ.sk.go m i b x') i d')/\((γ.sk.mw m).code≠x'.code->(γ.setSk (γ.sk.go m i b x') i d').sk.V p m < γ.sk.V p m):=by
 have hr:=worker_range hI h.ph h.b hi
 have hmi:=MuI.step (h.mi hI hm) hr.1 hr.2 (by rw[h.ml m hm,ha];exact hs)
 have e1:(γ.sk.go m i b x').V p m=6 * γ.sk.left+mN ML.wt p.b p.W (upd (γ.sk.ml m) i b)+x'.q:=by
  unfold Sk.V
  rw[show (γ.sk.go m i b x').ml m=upd (γ.sk.ml m) i b from if_pos rfl,go_mw];rfl
 have e2:γ.sk.V p m=6 * γ.sk.left+mN ML.wt p.b p.W (γ.sk.ml m)+(γ.sk.mw m).q:=rfl
 obtain⟨_,r1,r2⟩:=hmi
 refine⟨⟨kw_sk _ _ _ _,fun _ q=>q,fun k hk=>?_⟩,fun hne=>?_⟩
 ·show (γ.sk.go m i b x').V p k<=γ.sk.V p k
  by_cases e:k=m
  ·subst e;omega
  ·unfold Sk.V
   rw[go_mw2 _ _ _ _ e,show (γ.sk.go m i b x').ml k=γ.sk.ml k from if_neg e];exact Nat.le_refl _
 ·show (γ.sk.go m i b x').V p m < γ.sk.V p m
  rcases r2 with r2|r2
  ·exact absurd r2.symm hne
  ·omega
structure Fit (m:Nat) (f:Nat->ML) (a b:ML):Prop where
 own:m=0->a≠.own 1/\b≠.own 1
 two:m=1->a≠.own 2
 other:∀k,k < 2->k≠m->f k=.off\/f k=.fresh
theorem Fit.ml (q:Fit m f a b) (h:In p i y d f γ) (hS:SeekI γ p w):∀k,k≠m->γ.sk.ml k i=.off\/γ.sk.ml k i=.fresh\/2<=k:=fun k hk=>by
 by_cases e:k < 2
 ·have:=q.other k e hk
  rw[h.ml k e]
  exact this.imp id .inl
 ·exact .inr (.inr (by omega))
theorem nx_lock {d':Nat} (h:In p i y d f γ) (hI:GInv ty top γ w) (hi:i < γ.cnt) (hm:m < 2) (ha:f m=a) (hs:MStep a (γ.sk.mw m) b x') (hw:MuTo p m (γ.sk.mw m) x' w w') (hf:Fit m f a b) (hes:∀e∈es,ShEv γ i e) (hd:deafBehind d es=d') (hq:mayWake P g=true\/x'.q<=(γ.sk.mw m).q)
  (hst:stepG P (i==0) g w=.go g' w' es) (K:∀γ',In p i y d' (upd f m b) γ'->Aft i p γ γ'->((γ.sk.mw m).code≠x'.code->γ'.sk.V p m < γ.sk.V p m)->γ'.sk.mw m=x'->LV P ty top Post i γ' w' g'):NX P ty top Post i γ w g:=by
 have hS:=h.seek hI
 have h2:∀k,k≠m->γ.sk.ml k i=.off\/γ.sk.ml k i=.fresh\/2<=k:=hf.ml h hS
 have hC:=hI.core p h.ph
 have hr:=worker_range hI h.ph h.b hi
 have hml:γ.sk.ml m i=a:=(h.ml m hm).trans ha
 have hother:∀k,k≠m->k < 2->γ.sk.ml k i=.off\/γ.sk.ml k i=.fresh:=fun k hk hk2=>(h2 k hk).elim .inl fun q=>q.elim .inr fun q=>by omega
 have hSk:SeekI (γ.setSk (γ.sk.go m i b x') i (deafBehind (γ.deaf i) es)) p w':=by
  have h3:∀k,k≠m->k < 2->γ.sk.ml k i=.off\/γ.sk.ml k i=.fresh:=hother
  exact lock_seek hS hC hm h.tag hml hs hw hr hf.own hf.two h3 _
 have hDo:(crewPact P ty top Post).Do i γ w (γ.setSk (γ.sk.go m i b x') i (deafBehind (γ.deaf i) es)) w' (mayWake P g=true) es :=
  do_sk hI h.ph h.kind h.b hi h.tag rfl hSk hw.size hw.tape hw.os (fun z z1 z2=>hw.old (by rcases mu_cases hm with rfl|rfl<;>assumption)) hes (fun j hj k=>go_ml2 _ _ _ (.inl hj)) (fun j hj=>lock_rel hS hC hm hml hs hw hr hj _) (hq.imp id fun hq j k _ hk' _ q0=>by
   by_cases e:k=m
   ·subst e;rw[go_mw];omega
   ·rw[go_mw2 _ _ _ _ e];exact q0)
 obtain⟨q1,q2⟩:=go_aft h hI hi hm ha hs hw (deafBehind (γ.deaf i) es)
 refine .go g' w' es _ hst hDo (K _ ?_ q1 q2 (go_mw _ _ _ _ _))
 have:=h.go hm b x' (deafBehind (γ.deaf i) es)
 rw[h.deaf,hd] at this
 rw[h.deaf,hd]
 exact this
theorem rw_events (hS:SeekI γ p w) (hs:γ.hs=w.heap.size) (hm:m < 2):∀e∈#[rd (p.muA m),wr (p.muA m)],ShEv γ i e:=fun e he=>by
 simp only[List.mem_toArray,List.mem_cons,List.not_mem_nil,or_false] at he
 rcases he with rfl|rfl<;>exact sh_mu hS hs hm _ _ (.inl rfl)
theorem sem_shev (hS:SeekI γ p w) (hs:γ.hs=w.heap.size) (hm:m < 2):∀e∈semEvents (p.msA m),ShEv γ i e:=fun e he=>by
 simp only[semEvents,List.mem_toArray,List.mem_cons,List.not_mem_nil,or_false] at he
 rcases he with rfl|rfl|rfl|rfl
 ·exact ev_word (.inl rfl)
 ·exact sh_mu hS hs hm _ _ (.inr rfl)
 ·exact sh_mu hS hs hm _ _ (.inr rfl)
 ·exact ev_word (.inr (.inl rfl))
theorem nx_look (h:In p i y d f γ) (hI:GInv ty top γ w) (hi:i < γ.cnt) (hh:w'.heap=w.heap) (ht:w'.tape=w.tape) (hos:Passed w w') (hes:∀e∈es,ShEv γ i e) (hd:deafBehind (γ.deaf i) es=γ.deaf i) (hst:stepG P (i==0) g w=.go g' w' es) (K:LV P ty top Post i γ w' g'):NX P ty top Post i γ w g:=by
 have hS:=h.seek hI
 have hDo:(crewPact P ty top Post).Do i γ w (γ.setSk γ.sk i (deafBehind (γ.deaf i) es)) w' (mayWake P g=true) es :=
  do_sk hI h.ph h.kind h.b hi h.tag rfl (by rw[hd,setSk_same];exact hS.keep rfl rfl rfl rfl rfl rfl (fun _ _ q=>q) (fun _ _ q=>q) (by rw[hh]) (by rw[hh])) (by rw[hh]) ht hos (fun _ _ _=>by rw[hh]) hes (fun _ _ _=>rfl) (fun j _=>by rw[hd,setSk_same];exact .of (c1:=rfl) rfl fun _=>by simp only[World.cell?,hh]) (.inr fun _ _ _ _ _ q=>q)
 rw[hd,setSk_same] at hDo
 exact .go g' w' es γ hst hDo K
theorem lv_cas {co cn:Nat} (hm:m < 2) (h:In p i y d f γ) (hr:g.status=.running) (ha:f m=a) (hf:Fit m f a b) (hne:co≠cn) (hs:∀x:MW,x.code=co->∃x',MStep a x b x'/\x'.code=cn/\x'.q=x.q)
  (hhit:∀w:World,w.cell? (p.muA m)=some (.int .i32 (co:Nat))->w.frozen? (p.muA m)=false->stepG P (i==0) g w=.go gT (w.setCell (p.muA m) (.int .i32 (cn:Nat))) #[rd (p.muA m),wr (p.muA m)])
  (hmiss:∀(w:World) (c:Nat),c≠co->w.cell? (p.muA m)=some (.int .i32 (c:Nat))->w.frozen? (p.muA m)=false->stepG P (i==0) g w=.go gF w #[rd (p.muA m)])
  (hn:γ.sk.V p m<=n/\((γ.sk.mw m).code=co\/γ.sk.V p m < n))
  (KT:∀γ' w',In p i y d (upd f m b) γ'->Aft i p γ γ'->γ'.sk.V p m < n->LV P ty top Post i γ' w' gT)
  (KF:∀γ' w',In p i y d f γ'->Aft i p γ γ'->γ'.sk.V p m < n->LV P ty top Post i γ' w' gF):LV P ty top Post i γ w g:=by
 refine lv_step h hr fun γ2 w2 h2 hrel hA hI hi=>?_
 have hS:=h2.seek hI
 obtain⟨c1,_,c3⟩:=h2.at_ hI hm
 obtain⟨v1,v2⟩:=hrel.v m hm
 by_cases e:(γ2.sk.mw m).code=co
 ·obtain⟨x',s1,s2,s3⟩:=hs _ e
  refine nx_lock (x':=x') (w':=w2.setCell (p.muA m) (.int .i32 (cn:Nat))) (d':=d) h2 hI hi hm ha s1 (.st (by rw[s2]) s3) hf (rw_events hS hI.hs hm) rfl (.inr (Nat.le_of_eq s3)) (hhit w2 (by rw[c1,e]) (c3 _)) fun γ' h' hA' hv _=>KT _ _ h' (hA.trans hA') ?_
  have:=hv (by rw[e,s2];exact hne)
  omega
 ·refine nx_look h2 hI hi rfl rfl (.refl _) (fun z hz=>?_) rfl (hmiss w2 _ e c1 (c3 _)) (KF _ _ h2 hA ?_)
  ·simp only[List.mem_toArray,List.mem_singleton] at hz
   subst hz
   exact sh_mu hS hI.hs hm _ _ (.inl rfl)
  ·rcases hn.2 with q|q
   ·rcases v2 with r|r
    ·exact absurd (r.trans q) e
    ·omega
   ·omega
theorem lv_load {gv:Nat->Goroutine} (hm:m < 2) (h:In p i y d f γ) (hr:g.status=.running) (hst:∀(w:World) (c:Nat),w.cell? (p.muA m)=some (.int .i32 (c:Nat))->stepG P (i==0) g w=.go (gv c) w #[])
  (K:∀γ' w',In p i y d f γ'->Aft i p γ γ'->MuI p.b p.W (γ'.sk.ml m) (γ'.sk.mw m)->p.W<=16->LV P ty top Post i γ' w' (gv (γ'.sk.mw m).code)):LV P ty top Post i γ w g:=by
 refine lv_step h hr fun γ2 w2 h2 hrel hA hI hi=>?_
 obtain⟨c1,_,c3⟩:=h2.at_ hI hm
 exact nx_look h2 hI hi rfl rfl (.refl _) (fun z hz=>by simp at hz) rfl (hst w2 _ c1) (K _ _ h2 hA (h2.mi hI hm) (h2.seek hI).W)
theorem lv_loadRel {gv:Nat->Goroutine} (hm:m < 2) (h:In p i y d f γ) (hr:g.status=.running) (ha:f m=.rel) (hf:Fit m f .rel .off) (hst:∀(w:World) (c:Nat),w.cell? (p.muA m)=some (.int .i32 (c:Nat))->stepG P (i==0) g w=.go (gv c) w #[])
  (K:∀γ' w' (x:MW),x.w<=32->(γ'.sk.mw m).code=x.code->Aft i p γ γ'->((x.w=0\/x.L=true\/x.K=true\/x.S=true)->In p i y d (upd f m .off) γ')->(¬(x.w=0\/x.L=true\/x.K=true\/x.S=true)->In p i y d f γ')->LV P ty top Post i γ' w' (gv x.code)):LV P ty top Post i γ w g:=by
 refine lv_step h hr fun γ2 w2 h2 hrel hA hI hi=>?_
 obtain⟨c1,_,c3⟩:=h2.at_ hI hm
 have hw:=(h2.mi hI hm).few
 have hW:=(h2.seek hI).W
 by_cases e:(γ2.sk.mw m).w=0\/(γ2.sk.mw m).L=true\/(γ2.sk.mw m).K=true\/(γ2.sk.mw m).S=true
 ·exact nx_lock (d':=d) h2 hI hi hm ha (.leave e) (.same rfl rfl (.refl _) rfl rfl) hf (fun z hz=>by simp at hz) rfl (.inr (Nat.le_refl _)) (hst w2 _ c1) fun γ' h' hA' _ hx=>K _ _ _ (by omega) (by rw[hx]) (hA.trans hA') (fun _=>h') fun q=>absurd e q
 ·exact nx_look h2 hI hi rfl rfl (.refl _) (fun z hz=>by simp at hz) rfl (hst w2 _ c1) (K _ _ _ (by omega) rfl hA (fun q=>absurd q e) fun _=>h2)
theorem lv_add {gv:Int->Goroutine} {dl:Int} {bx:MW->ML} {Q:MW->MW->Prop} (hm:m < 2) (h:In p i y d f γ) (hr:g.status=.running) (ha:f m=a) (hf:∀x,Fit m f a (bx x)) (hs:∀(γ2:Gho) (w2:World),In p i y d f γ2->GInv ty top γ2 w2->SkRel i p γ w γ2 w2->∃x',MStep a (γ2.sk.mw m) (bx (γ2.sk.mw m)) x'/\(x'.code:Int)=IntKind.i32.wrap (((γ2.sk.mw m).code:Nat)+dl)/\x'.q=(γ2.sk.mw m).q/\Q (γ2.sk.mw m) x')
  (hst:∀(w:World) (c:Nat),w.cell? (p.muA m)=some (.int .i32 (c:Nat))->w.frozen? (p.muA m)=false->stepG P (i==0) g w=.go (gv (IntKind.i32.wrap (c+dl))) (w.setCell (p.muA m) (.int .i32 (IntKind.i32.wrap (c+dl)))) #[rd (p.muA m),wr (p.muA m)])
  (K:∀γ' w' (x x':MW),In p i y d (upd f m (bx x)) γ'->Aft i p γ γ'->Q x x'->x.w<=32->LV P ty top Post i γ' w' (gv x'.code)):LV P ty top Post i γ w g:=by
 refine lv_step h hr fun γ2 w2 h2 hrel hA hI hi=>?_
 obtain⟨c1,_,c3⟩:=h2.at_ hI hm
 obtain⟨x',s1,s2,s3,s4⟩:=hs γ2 w2 h2 hI hrel
 have hw:=(h2.mi hI hm).few
 have hW:=(h2.seek hI).W
 have:=hst w2 _ c1 (c3 _)
 rw[<- s2] at this
 exact nx_lock (x':=x') (d':=d) h2 hI hi hm ha s1 (.st rfl s3) (hf _) (rw_events (h2.seek hI) hI.hs hm) rfl (.inr (Nat.le_of_eq s3)) this fun γ' h' hA' _ _=>K _ _ _ _ h' (hA.trans hA') s4 (by omega)
theorem lv_sema (hm:m < 2) (h:In p i y d f γ) (hr:g.status=.running) (ho:g.offers=none) (ha:f m=.que) (hf:Fit m f .que .hand/\Fit m f .que .tok)
  (hwait:∀w:World,w.cell? (p.msA m)=some (.int .u32 0)->stepG P (i==0) g w=.go { g with status:=.blocked } w #[])
  (hgo:∀(w:World) (n:Int),n≠0->w.cell? (p.msA m)=some (.int .u32 n)->w.frozen? (p.msA m)=false->stepG P (i==0) g w=.go g' (w.setCell (p.msA m) (.int .u32 (n - 1))) (semEvents (p.msA m)))
  (K:∀γ' w' b,b=.hand\/b=.tok->In p i y d (upd f m b) γ'->Aft i p γ γ'->LV P ty top Post i γ' w' g'):LV P ty top Post i γ w g:=by
 refine lv_step h hr fun γ2 w2 h2 hrel hA hI hi=>?_
 obtain⟨_,c2,c3⟩:=h2.at_ hI hm
 by_cases hq:(γ2.sk.mw m).q=0
 ·exact .wait (hwait w2 (by rw[c2,hq];rfl)) ho (.que p m h2.ph h2.kind hm ((h2.ml m hm).trans ha) hq)
 ·have hst:=hgo w2 ((γ2.sk.mw m).q:Nat) (by omega) c2 (c3 _)
  rw[show (((γ2.sk.mw m).q:Nat):Int) - 1=(((γ2.sk.mw m).q - 1:Nat):Int) by omega] at hst
  have hf':Fit m f .que (if (γ2.sk.mw m).S then ML.hand else .tok):=by split;exact hf.1;exact hf.2
  exact nx_lock (x':={ γ2.sk.mw m with q:=(γ2.sk.mw m).q - 1 }) (d':=d) h2 hI hi hm ha (.sem (by omega)) (.sm rfl rfl) hf' (sem_shev (h2.seek hI) hI.hs hm) (by simp[semEvents,deafBehind]) (.inr (Nat.sub_le _ _)) hst fun γ' h' hA' _ _=>K _ _ _ (by split<;>simp) h' (hA.trans hA')
theorem lv_up (hm:m < 2) (h:In p i y d f γ) (hr:g.status=.running) (hwk:mayWake P g=true) (ha:f m=a) (ha':a=.post\/a=.phand) (hf:Fit m f a .off)
  (hst:∀(w:World),w.cell? (p.msA m)=some (.int .u32 0)->w.frozen? (p.msA m)=false->stepG P (i==0) g w=.go g' (w.setCell (p.msA m) (.int .u32 1)) (semEvents (p.msA m)))
  (K:∀γ' w',In p i y d (upd f m .off) γ'->Aft i p γ γ'->LV P ty top Post i γ' w' g'):LV P ty top Post i γ w g:=by
 refine lv_step h hr fun γ2 w2 h2 hrel hA hI hi=>?_
 obtain⟨_,c2,c3⟩:=h2.at_ hI hm
 have hq:=(h2.mi hI hm).down (i:=i) (by rw[h2.ml m hm,ha];exact ha')
 exact nx_lock (x':={ γ2.sk.mw m with q:=(γ2.sk.mw m).q+1 }) (d':=d) h2 hI hi hm ha (.up ha') (.sm (by rw[hq];rfl) rfl) hf (sem_shev (h2.seek hI) hI.hs hm) (by simp[semEvents,deafBehind]) (.inl hwk) (hst w2 (by rw[c2,hq];rfl) (c3 _)) fun γ' h' hA' _ _=>K _ _ h' (hA.trans hA')
theorem lv_conv (hm:m < 2) (h:In p i y d f γ) (hr:g.status=.running) (hst:∀(w:World) v,w.cell? (p.muA m)=some v->stepG P (i==0) g w=.go g' w #[]) (K:LV P ty top Post i γ w g'):LV P ty top Post i γ w g :=
 lives_step hr h.ng fun γ2 w2 hrl hI hi=>.go g' w2 #[] γ2 (hst w2 _ (((h.rely hrl).1.at_ hI hm).1)) (do_idle hI hi _) (K.rely hrl)
theorem In.own_ (h:In p i y d (upd f m b) γ) (hm:m < 2):γ.sk.ml m i=b:=(h.ml m hm).trans (upd_same _ _ _)
theorem In.others (h:In p i y d (upd f m b) γ) (h2:∀k,k < 2->k≠m->f k=.off\/f k=.fresh):∀k,k≠m->k < 2->γ.sk.ml k i=.off\/γ.sk.ml k i=.fresh:=fun k hk hk2=>by
 rw[h.ml k hk2,upd_ne _ _ hk];exact h2 k hk2 hk
theorem In.owns {k':Nat} {o:Option Nat} {B:Nat} {tk:Nat->Prop} {od:Bool} {d':Nat} (h:In p i y d (upd f m b) γ):In p i y d' (upd f m (.own k')) (γ.setSk (γ.sk.own m i k' o B tk od) i d') :=
 ⟨h.ph,h.kind,h.b,h.i0,h.tag,upd_same _ _ _,fun k hk=>by
  show (γ.sk.own m i k' o B tk od).ml k i=_
  by_cases e:k=m
  ·subst e;rw[own_ml,upd_same]
  ·rw[own_mln _ e,upd_ne _ _ e,h.ml k hk,upd_ne _ _ e]⟩
theorem own_aft {k k':Nat} {o:Option Nat} {tk:Nat->Prop} {od:Bool} {d':Nat} (h:In p i y d (upd f m (.own k)) γ) (hI:GInv ty top γ w) (hm:m < 2) (hmono:∀x,γ.sk.took x->tk x):Aft i p γ (γ.setSk (γ.sk.own m i k' o p.out tk od) i d'):=by
 have hS:=h.seek hI
 refine⟨kw_sk _ _ _ _,hmono,fun z hz=>?_⟩
 have hmi:=MuI.keep (hS.mi m hm) (h.own_ hm) k'
 show (γ.sk.own m i k' o p.out tk od).V p z<=γ.sk.V p z
 unfold Sk.V
 by_cases e:z=m
 ·subst e
  rw[own_mlm]
  show 6 * γ.sk.left+_+(γ.sk.mw z).q<=6 * γ.sk.left+_+(γ.sk.mw z).q
  have:=hmi.2
  omega
 ·rw[own_mln _ e];exact Nat.le_refl _
theorem lv_acq (hm:m < 2) (h:In p i y 0 (upd f m (.own 0)) γ) (hr:g.status=.running) (h2:∀k,k < 2->k≠m->f k=.off\/f k=.fresh) (hst:∀w,stepG P (i==0) g w=.go g' w #[mk (.acquire (p.muA m))]) (K:∀γ' w',In p i y 0 (upd f m (.own 1)) γ'->Aft i p γ γ'->LV P ty top Post i γ' w' g'):LV P ty top Post i γ w g:=by
 refine lv_step h hr fun γ2 w2 h2' hrel hA hI hi=>?_
 rcases mu_cases hm with rfl|rfl
 ·have hDo:=do_acq (P:=P) (Post:=Post) hI h2'.ph h2'.kind h2'.b hi h2'.tag (h2'.own_ (by omega)) h2'.deaf (h2'.others h2) (mayWake P g=true)
  exact .go g' w2 _ _ (hst w2) hDo (K _ _ h2'.owns (hA.trans (own_aft h2' hI (by omega) fun _ q=>q)))
 ·have hmy:=h2'.own_ (m:=1) (by omega)
  have hf:Fit 1 (upd f 1 (.own 0)) (.own 0) (.own 1):=⟨fun q=>by omega,fun _=>by simp,fun k hk hk2=>by rw[upd_ne _ _ hk2];exact h2 k hk hk2⟩
  refine nx_lock (x':=γ2.sk.mw 1) (d':=0) h2' hI hi (by omega) (upd_same _ _ _) (.keep 0 1) (.same rfl rfl (.refl _) rfl rfl) hf (fun z hz=>?_) (by simp[deafBehind,mk]) (.inr (Nat.le_refl _)) (hst w2) fun γ' h' hA' _ _=>?_
  ·simp only[List.mem_toArray,List.mem_singleton] at hz
   subst hz
   exact ev_word (.inr (.inr (.inr ⟨_,rfl⟩)))
  ·have e:upd (upd f 1 (.own 0)) 1 (.own 1)=upd f 1 (.own 1):=by funext z;by_cases q:z=1<;>simp[upd,q]
   rw[e] at h'
   exact K _ _ h' (hA.trans hA')
theorem lv_unown (hm:m < 2) (h:In p i y 0 (upd f m (.own 1)) γ) (hr:g.status=.running) (h2:∀k,k < 2->k≠m->f k=.off\/f k=.fresh) (hst:∀w,stepG P (i==0) g w=.go g' w #[mk (.releaseMerge (p.muA m))]) (K:∀γ' w',In p i y 0 (upd f m (.own 3)) γ'->Aft i p γ γ'->LV P ty top Post i γ' w' g'):LV P ty top Post i γ w g:=by
 refine lv_step h hr fun γ2 w2 h2' hrel hA hI hi=>?_
 rcases mu_cases hm with rfl|rfl
 ·have hDo:=do_unown (P:=P) (Post:=Post) hI h2'.ph h2'.kind h2'.b hi h2'.tag (h2'.own_ (by omega)) h2'.deaf (h2'.others h2) (mayWake P g=true)
  exact .go g' w2 _ _ (hst w2) hDo (K _ _ h2'.owns (hA.trans (own_aft h2' hI (by omega) fun _ q=>q)))
 ·have hmy:=h2'.own_ (m:=1) (by omega)
  have hf:Fit 1 (upd f 1 (.own 1)) (.own 1) (.own 3):=⟨fun q=>by omega,fun _=>by simp,fun k hk hk2=>by rw[upd_ne _ _ hk2];exact h2 k hk hk2⟩
  refine nx_lock (x':=γ2.sk.mw 1) (d':=0) h2' hI hi (by omega) (upd_same _ _ _) (.keep 1 3) (.same rfl rfl (.refl _) rfl rfl) hf (fun z hz=>?_) (by simp[deafBehind,mk]) (.inr (Nat.le_refl _)) (hst w2) fun γ' h' hA' _ _=>?_
  ·simp only[List.mem_toArray,List.mem_singleton] at hz
   subst hz
   exact ev_word (.inr (.inr (.inl ⟨_,rfl⟩)))
  ·have e:upd (upd f 1 (.own 1)) 1 (.own 3)=upd f 1 (.own 3):=by funext z;by_cases q:z=1<;>simp[upd,q]
   rw[e] at h'
   exact K _ _ h' (hA.trans hA')
theorem lv_time {Q:Goroutine->Prop} (h:In p i y d f γ) (hr:g.status=.running) (hst:∀w,∃g' w',stepG P (i==0) g w=.go g' w' #[]/\w'.heap=w.heap/\w'.tape=w.tape/\Passed w w'/\Q g') (K:∀γ' w' g',Q g'->In p i y d f γ'->Aft i p γ γ'->SkRel i p γ w γ' w'->LV P ty top Post i γ' w' g'):LV P ty top Post i γ w g:=by
 refine lv_step h hr fun γ2 w2 h2 hrel hA hI hi=>?_
 obtain⟨g',w',e1,e2,e3,e4,e5⟩:=hst w2
 refine nx_look h2 hI hi e2 e3 e4 (fun z hz=>by simp at hz) rfl e1 (K _ _ _ e5 h2 hA (hrel.trans (.of (c1:=rfl) rfl fun _=>by simp only[World.cell?,e2]) fun m hm=>?_))
 exact(h2.ml _ ‹_›).trans (h.ml _ ‹_›).symm
end
end Go.Proofs.YtbicafgmfgdckaaDoor
namespace Go.Proofs.YtbicafgmfgdckaaDoor
open Go Go.Conc
theorem mu_cas_n:(Tryd.f82.name == "runtime.NumGoroutine")=false:=by kernel_rfl
theorem mu_cas_b:Tryd.f82.body.isNone=true:=by kernel_rfl
theorem mu_cas_x:Extern.findNext Tryd.f82=none:=by kernel_rfl
theorem mu_cas_f:Extern.find Tryd.f82=some (Extern.Atomic.casT (.int .i32)):=by kernel_rfl
theorem mu_add_n:(Tryd.f84.name == "runtime.NumGoroutine")=false:=by kernel_rfl
theorem mu_add_b:Tryd.f84.body.isNone=true:=by kernel_rfl
theorem mu_add_x:Extern.findNext Tryd.f84=none:=by kernel_rfl
theorem mu_add_f:Extern.find Tryd.f84=some (Extern.Atomic.update (Op.intArith .add) .i32 true):=by kernel_rfl
theorem mu_spin_n:(Tryd.f90.name == "runtime.NumGoroutine")=false:=by kernel_rfl
theorem mu_spin_b:Tryd.f90.body.isNone=true:=by kernel_rfl
theorem mu_spin_x:Extern.findNext Tryd.f90=none:=by kernel_rfl
theorem mu_spin_f:Extern.find Tryd.f90=some (Extern.Sync.canSpin):=by kernel_rfl
theorem mu_nano_n:(Tryd.f93.name == "runtime.NumGoroutine")=false:=by kernel_rfl
theorem mu_nano_b:Tryd.f93.body.isNone=true:=by kernel_rfl
theorem mu_nano_x:Extern.findNext Tryd.f93=none:=by kernel_rfl
theorem mu_nano_f:Extern.find Tryd.f93=some (Extern.OsHooks.nano):=by kernel_rfl
theorem mu_acq_n:(Tryd.f94.name == "runtime.NumGoroutine")=false:=by kernel_rfl
theorem mu_acq_b:Tryd.f94.body.isNone=true:=by kernel_rfl
theorem mu_acq_x:Extern.findNext Tryd.f94=none:=by kernel_rfl
theorem mu_acq_f:Extern.find Tryd.f94=some (Extern.Sync.semacquire):=by kernel_rfl
theorem mu_rel_n:(Tryd.f96.name == "runtime.NumGoroutine")=false:=by kernel_rfl
theorem mu_rel_b:Tryd.f96.body.isNone=true:=by kernel_rfl
theorem mu_rel_x:Extern.findNext Tryd.f96=none:=by kernel_rfl
theorem mu_rel_f:Extern.find Tryd.f96=some (Extern.Sync.semrelease):=by kernel_rfl
theorem mu_dos_n:(Tryd.f91.name == "runtime.NumGoroutine")=false:=by kernel_rfl
theorem mu_dos_b:Tryd.f91.body.isNone=true:=by kernel_rfl
theorem mu_dos_x:Extern.findNext Tryd.f91=none:=by kernel_rfl
theorem mu_dos_f:Extern.find Tryd.f91=some (fun _=>pure (.tuple #[])):=by kernel_rfl
theorem mu_lod_n:(Tryd.f75.name == "runtime.NumGoroutine")=false:=by kernel_rfl
theorem mu_lod_b:Tryd.f75.body.isNone=true:=by kernel_rfl
theorem mu_lod_x:Extern.findNext Tryd.f75=none:=by kernel_rfl
theorem mu_lod_f:Extern.find Tryd.f75=some (Extern.Atomic.loadT (.int .u32)):=by kernel_rfl
theorem mu_sto_n:(Tryd.f86.name == "runtime.NumGoroutine")=false:=by kernel_rfl
theorem mu_sto_b:Tryd.f86.body.isNone=true:=by kernel_rfl
theorem mu_sto_x:Extern.findNext Tryd.f86=none:=by kernel_rfl
theorem mu_sto_f:Extern.find Tryd.f86=some (Extern.Atomic.storeT):=by kernel_rfl
theorem mu_dis_n:(Tryd.f42.name == "runtime.NumGoroutine")=false:=by kernel_rfl
theorem mu_dis_b:Tryd.f42.body.isNone=true:=by kernel_rfl
theorem mu_dis_x:Extern.findNext Tryd.f42=none:=by kernel_rfl
theorem mu_dis_f:Extern.find Tryd.f42=some (fun _=>do mark .disable;pure Extern.Race.none_):=by kernel_rfl
theorem mu_ena_n:(Tryd.f43.name == "runtime.NumGoroutine")=false:=by kernel_rfl
theorem mu_ena_b:Tryd.f43.body.isNone=true:=by kernel_rfl
theorem mu_ena_x:Extern.findNext Tryd.f43=none:=by kernel_rfl
theorem mu_ena_f:Extern.find Tryd.f43=some (fun _=>do mark .enable;pure Extern.Race.none_):=by kernel_rfl
theorem mu_acm_n:(Tryd.f56.name == "runtime.NumGoroutine")=false:=by kernel_rfl
theorem mu_acm_b:Tryd.f56.body.isNone=true:=by kernel_rfl
theorem mu_acm_x:Extern.findNext Tryd.f56=none:=by kernel_rfl
theorem mu_acm_f:Extern.find Tryd.f56=some (Extern.Race.marked .acquire):=by kernel_rfl
theorem mu_rlm_n:(Tryd.f41.name == "runtime.NumGoroutine")=false:=by kernel_rfl
theorem mu_rlm_b:Tryd.f41.body.isNone=true:=by kernel_rfl
theorem mu_rlm_x:Extern.findNext Tryd.f41=none:=by kernel_rfl
theorem mu_rlm_f:Extern.find Tryd.f41=some (Extern.Race.marked .releaseMerge):=by kernel_rfl
theorem mu_nano_q:Tryd.f93.norace=true:=by kernel_rfl
theorem mu_q_lockSlow:(Tryd.prog.funcs[(base 83).fn]?).any (·.norace)=true:=by kernel_rfl
theorem mu_q_unlock:(Tryd.prog.funcs[(base 70).fn]?).any (·.norace)=true:=by kernel_rfl
theorem mu_q_unlockSlow:(Tryd.prog.funcs[(base 85).fn]?).any (·.norace)=true:=by kernel_rfl
noncomputable def ptOk (s:TypeId):Bool:=match Tryd.prog.underlying s with
 | some (.pointer t)=>(Tryd.prog.info? t).map (fun i=>decide (i.size=0))==some false
 | _=>false
section
variable {main:Bool} {b:Frame} {a:Act} {kk:List Item} {cs:List Frame} {w:World} {ops:Array Oper} {i:Nat} {rest:List Nat} {o:Oper}
theorem stepG_loadQ {x:Operand} (ho:ops[i]?=some o) (hw:Region.wanted o (yielded ops a.tmps)=true) (hk:b.kind≠.early) (hop:o.op=.load 21 x)
  {ad:Addr} {v:Int} (hx:a.eval x=.pointer (some ad)) (hq:(Tryd.prog.funcs[b.fn]?).any (·.norace)=true) (hc:w.cell? ad=some (.int .i32 v)) :
  stepG Tryd.prog main (G (b.at a (.inRegion ops (i::rest)::kk)) cs) w=.go (G (b.at (a.put o.dst (.int .i32 v)) (.inRegion ops rest::kk)) cs) w #[]:=by
 have hr:(execOp a.eval o).run Tryd.prog w=.ok (.value (.int .i32 v)) w:=by
  unfold execOp
  simp only[hop,hx]
  simp[go_sem,hc]
 have he:(execOp a.eval o).events Tryd.prog w #[]=#[⟨.cell ad,false,false⟩]:=by
  unfold execOp
  simp only[hop,hx]
  simp[go_sem,hc]
 rw[stepG_value ho hw hk hr]
 unfold listed
 rw[he,seen_def,hq]
 simp[seenStep]
theorem stepG_conv {x:Operand} (ho:ops[i]?=some o) (hw:Region.wanted o (yielded ops a.tmps)=true) (hk:b.kind≠.early) {src dst:TypeId} (hop:o.op=.convert src dst x)
  (hs:ptOk src=true) (hd:Tryd.prog.underlying dst=some .unsafePointer) {ad:Addr} {v:Value} (hx:a.eval x=.pointer (some ad)) (hc:w.cell? ad=some v) :
  stepG Tryd.prog main (G (b.at a (.inRegion ops (i::rest)::kk)) cs) w=.go (G (b.at (a.put o.dst (.pointer (some ad))) (.inRegion ops rest::kk)) cs) w #[]:=by
 obtain⟨t,e1,e2⟩:∃t,Tryd.prog.underlying src=some (.pointer t)/\(Tryd.prog.info? t).map (fun i=>decide (i.size=0))=some false:=by
  unfold ptOk at hs
  split at hs
  ·rename_i t e
   exact⟨t,e,by simpa using hs⟩
  ·cases hs
 have h1:=run_convert_to_unsafe (P:=Tryd.prog) e1 hd e2 hc
 have h2:=fun es=>events_convert_to_unsafe (P:=Tryd.prog) e1 hd e2 hc es
 have hr:(execOp a.eval o).run Tryd.prog w=.ok (.value (.pointer (some ad))) w:=by
  unfold execOp
  simp only[hop,hx]
  simp[go_sem,h1]
 have he:(execOp a.eval o).events Tryd.prog w #[]=#[]:=by
  unfold execOp
  simp only[hop,hx]
  simp[go_sem,h2]
 rw[stepG_value ho hw hk hr]
 unfold listed
 rw[he,seen_def]
 rfl
end
end Go.Proofs.YtbicafgmfgdckaaDoor
namespace Go.Proofs.YtbicafgmfgdckaaDoor
open Go
abbrev wgLink:Go.Conc.Lib.WgLink:={ add:=25,done:=27,wait:=31,relMerge:=41,disable:=42,enable:=43,inBubble:=44,associate:=45,fatal:=46,uOr:=47,uAdd:=48,raceRead:=49,uLoad:=50,uStore:=51,disassociate:=52,semrelease:=53,acquire:=56,isAssociated:=57,uCas:=58,raceWrite:=59,semacquire:=60,orU64:=71,addU64:=72,loadU64:=73,storeU64:=74,casU64:=77,tWgP:=83,tUP:=85,tAssoc:=86,tWg:=72,tAU:=70,tU64:=68,tUint:=90,tU32:=52,tPU32:=91,tPAU:=113,tPU64:=115,tNoCopy:=51,tANoCopy:=62,tAlign64:=67 }
theorem wgLib:Go.Conc.Lib.WgLib Tryd.prog wgLink :=
 ⟨Tryd.func25,Tryd.func27,Tryd.func31,Tryd.func41,Tryd.func42,Tryd.func43,Tryd.func44,Tryd.func45,Tryd.func46,Tryd.func47,Tryd.func48,Tryd.func49,Tryd.func50,Tryd.func51,Tryd.func52,Tryd.func53,Tryd.func56,Tryd.func57,Tryd.func58,Tryd.func59,Tryd.func60,Tryd.func71,Tryd.func72,Tryd.func73,Tryd.func74,Tryd.func77,Tryd.underlying83,Tryd.runUnderlying83,Tryd.sizeOf83,Tryd.isAgg83,Tryd.zeroValue83,Tryd.underlying85,Tryd.runUnderlying85,Tryd.sizeOf85,Tryd.isAgg85,Tryd.zeroValue85,Tryd.underlying86,Tryd.runUnderlying86,Tryd.sizeOf86,Tryd.isAgg86,Tryd.zeroValue86,Tryd.underlying72,Tryd.runUnderlying72,Tryd.sizeOf72,Tryd.isAgg72,Tryd.zeroValue72,Tryd.underlying70,Tryd.runUnderlying70,Tryd.sizeOf70,Tryd.isAgg70,Tryd.zeroValue70,Tryd.underlying68,Tryd.runUnderlying68,Tryd.sizeOf68,Tryd.isAgg68,Tryd.zeroValue68,Tryd.underlying90,Tryd.runUnderlying90,Tryd.sizeOf90,Tryd.isAgg90,Tryd.zeroValue90,Tryd.underlying52,Tryd.runUnderlying52,Tryd.sizeOf52,Tryd.isAgg52,Tryd.zeroValue52,Tryd.underlying91,Tryd.runUnderlying91,Tryd.sizeOf91,Tryd.isAgg91,Tryd.zeroValue91,Tryd.underlying113,Tryd.runUnderlying113,Tryd.sizeOf113,Tryd.isAgg113,Tryd.zeroValue113,Tryd.underlying115,Tryd.runUnderlying115,Tryd.sizeOf115,Tryd.isAgg115,Tryd.zeroValue115,Tryd.underlying0,Tryd.runUnderlying0,Tryd.sizeOf0,Tryd.isAgg0,Tryd.zeroValue0,Tryd.underlying3,Tryd.runUnderlying3,Tryd.sizeOf3,Tryd.isAgg3,Tryd.zeroValue3,Tryd.underlying4,Tryd.runUnderlying4,Tryd.sizeOf4,Tryd.isAgg4,Tryd.zeroValue4,Tryd.underlying9,Tryd.runUnderlying9,Tryd.sizeOf9,Tryd.isAgg9,Tryd.zeroValue9,Tryd.underlying20,Tryd.runUnderlying20,Tryd.sizeOf20,Tryd.isAgg20,Tryd.zeroValue20,Tryd.underlying21,Tryd.runUnderlying21,Tryd.sizeOf21,Tryd.isAgg21,Tryd.zeroValue21,(by kernel_rfl),(by kernel_rfl)⟩
end Go.Proofs.YtbicafgmfgdckaaDoor
