/- The crew's pact: a worker's steps. For any program. The crew's pact: a place is filled; a worker is started; a phase begins, and is over. For any program. -/
import Derived.Test.YtbicafgmfgdckaaDoorMgAj
namespace Go.Proofs.YtbicafgmfgdckaaDoor
open Go Go.Conc
open Go.ConcR (KK wgBlock WgAt stA smA rd wr mk)
open Go.ConcN (sumTo upd upd_same upd_ne RelBy PermW WgLive)

section
variable {ty:TypeId} {top:Nat} {γ γ':Gho} {p:Ph} {c:Col} {w w':World} {i j k n:Nat} {t u:Trace} {P:Program} {Post:Value->World->Prop} {es:Array Event} {tag:Nat->Tag} {x:Tag}
theorem Core.rework (h:Core ty γ p w) (hb:p.b<=i) (hcl:(γ.tag p.f).closed=true) (hx:x.works) (hid:x≠.idle/\x≠.feed) (hbz:∀n,¬x.at_ n) (hbz2:∀n,¬(γ.tag i).at_ n) (hwg:∃st sm,WgAt ty p.wg w' st sm/\WMode (upd γ.tag i x) p st sm) (hh:∀b,b≠p.wg->w'.heap[b]?=w.heap[b]?):Core ty (γ.setTag i x) p w':=by
 have hfi:p.f≠i:=by have:=h.fd;omega
 have tf:(γ.setTag i x).tag p.f=γ.tag p.f:=upd_ne _ _ hfi
 refine⟨h.bwg,h.bjobs,h.bstop,h.ne,fun b m hb e=>?_,h.fixm,h.fd,by rw[tf];exact h.ftag,?_,fun j q e=>by rw[tf] at e;exact h.add j q e,fun k h1 h2 h3=>?_,fun k hk=>?_,(fun hc=>by rw[tf,hcl] at hc;cases hc),hwg,?_,(hh _ h.ne.2.1).trans h.stop,h.stpk,fun y hy=>?_,h.nle,by rw[tf];exact h.full,h.busy.of (fun k y e=>?_) rfl fun _=>Iff.rfl,fun k hk=>?_,h.small,h.pos,fun q=>?_,fun q=>(h.seek q).retag (fun y r=>hbz y (.inr r)) (fun y r=>hbz2 y (.inl r)) (hh _ fun r=>by have:=(h.seek q).bout;rw[r,h.bwg] at this;cases this) (hh _ (h.seek q).ne.1),h.nomix⟩
 ·rw[hh b (fun q=>by have e':γ.bk b=.fix m:=e;rw[q,h.bwg] at e';cases e')];exact h.fix b m hb e
 ·show γ.cnt=p.b+(γ.setTag i x).started p
  have:=h.cnt
  unfold Gho.started at this ⊢
  rw[tf];exact this
 ·show upd γ.tag i _ k=_;rw[upd_ne _ _ (by omega)];exact h.rest k h1 h2 h3
 ·show (upd γ.tag i _ k).works
  by_cases q:k=i
  ·subst q;rw[upd_same];exact hx
  ·rw[upd_ne _ _ q];exact h.wtag k hk
 ·obtain⟨s,q⟩:=h.jobs
  exact⟨s,by rw[hh _ h.ne.1,tf];exact q⟩
 ·rcases h.job y hy with q|⟨m,q1,q2⟩
  ·exact .inl q
  ·refine .inr ⟨m,q1,?_⟩
   show (upd γ.tag i _ m).at_ y
   rw[upd_ne _ _ (fun q=>by subst q;exact hbz2 y q2)];exact q2
 ·have e':(upd γ.tag i x k).at_ y:=e
  by_cases q:k=i
  ·subst q;rw[upd_same] at e';exact absurd e' (hbz y)
  ·rw[upd_ne _ _ q] at e';exact e'
 ·refine h.hear k (hk.imp (fun e=>?_) fun e=>?_) <;>
   (have e':upd γ.tag i x k=_:=e
    by_cases q:k=i
    ·subst q;rw[upd_same] at e';first|exact absurd e' hid.1|exact absurd e' hid.2
    ·rwa [upd_ne _ _ q] at e')
 ·have hF:=h.fill q
  refine⟨hF.bout,?_,fun k y e=>?_,hF.mine,hF.owm,hF.mixo,fun k y e=>?_⟩
  ·obtain⟨cs,q,q2⟩:=hF.out
   exact⟨cs,by rw[hh _ (fun e=>by have:=hF.bout;rw[e,h.bwg] at this;cases this)];exact q,q2⟩
  ·have e':upd γ.tag i x k=.busy y:=e
   by_cases q:k=i
   ·subst q;rw[upd_same] at e';exact absurd (.inl e') (hbz y)
   ·rw[upd_ne _ _ q] at e';exact hF.busy k y e'
  ·have e':upd γ.tag i x k=.give y:=e
   by_cases q:k=i
   ·subst q;rw[upd_same] at e';exact absurd (.inr e') (hbz y)
   ·rw[upd_ne _ _ q] at e';exact hF.nog k y e'
theorem GInv.rework (hI:GInv ty top γ w) (hp:γ.ph=some p) (hb:p.b<=i) (hi:i < γ.cnt) (h:Core ty (γ.setTag i x) p w') (hx:∀y,x≠.give y) (hs:w'.heap.size=w.heap.size) (hh:∀b,b≠p.wg->w'.heap[b]?=w.heap[b]?):GInv ty top (γ.setTag i x) w' :=
 hI.crew hp h (.inr ⟨hb,hi⟩) hx hs fun b hb=>hh b fun q=>hb (by rw[q];exact(hI.core _ hp).bwg)
theorem Core.shutTag (h:Core ty γ p w) (hc:(γ.tag p.f).closed=true):γ.tag p.f=.shut\/γ.tag p.f=.reg\/γ.tag p.f=.thru:=by
 have:=h.ftag
 cases e:γ.tag p.f<;>rw[e] at this hc<;>first|exact this.elim | (cases hc;done) | simp
theorem closed_of (hI:GInv ty top γ w) (hp:γ.ph=some p) (hb:p.b<=i) (hi:i < γ.cnt) (hn:¬(γ.tag i).early):(γ.tag p.f).closed=true:=by
 cases e:(γ.tag p.f).closed with
 | true=>rfl
 | false=>exact absurd ((hI.core _ hp).early e i hb hi) hn
theorem wait_wg (hp:γ.ph=some p) (hw:GWait ty j γ w) (e0:γ'.ph=γ.ph) (e1:γ'.tag j=γ.tag j) {st:Int} (h:WgAt ty p.wg w' st 0) (es:γ'.sk=γ.sk:=by rfl):GWait ty j γ' w':=by
 cases hw with
 | wg p' st' h1 h2 h3 _ =>
  obtain rfl:=same_ph hp h1
  exact .wg p st (e0.trans hp) h2 (e1.trans h3) h
 | que p' m h1 h2 h3 h4 h5=>exact .que p' m (e0.trans h1) h2 h3 (by rw[es];exact h4) (by rw[es];exact h5)
theorem do_release (hI:GInv ty top γ w) (hp:γ.ph=some p) (hb:p.b<=i) (hi:i < γ.cnt) (ht:γ.tag i=.out) (hd:γ.deaf i=0) (wk:Prop):(crewPact P ty top Post).Do i γ w (γ.setTag i .rel) w wk #[mk (.releaseMerge (stA p.wg))]:=by
 have h:=hI.core _ hp
 have hcl:=closed_of hI hp hb hi (by rw[ht];exact id)
 have hI':GInv ty top (γ.setTag i .rel) w:=retag_core hI hp hb hi trivial id (by rw[ht];exact⟨rfl,rfl⟩) (.inl hcl) (by simp) (by simp[Tag.at_]) (by rw[ht];simp[Tag.at_]) (by rw[ht];simp)
 refine do_cells hI hp hi (.inr hb) hI' (fun e he=>?_) (.set _ _ _) (fun k hk=>upd_ne _ _ hk) (fun _ _=>rfl) rfl (fun _=>by rw[ht];simp) (fun _=>?_) rfl (fun _ _=>rfl) (fun t fn pos hT _ _=>?_) (.inr (.inr fun j hj hw=>wait_keep hw rfl (upd_ne _ _ hj) fun _ _=>rfl))
 ·simp only[List.mem_toArray,List.mem_singleton] at he
  subst he
  exact ev_word (.inr (.inr (.inl ⟨_,rfl⟩)))
 ·show vcT (upd γ.tag i .rel) p<=_
  have:=vc_set (tag:=γ.tag) .rel hb (by have:=h.cntW;omega)
  rw[ht] at this
  simp only[Tag.cw] at this
  omega
 ·exact⟨t.size,Go.ConcN.RelBy.new (by rw[hT.deaf];exact hd) fn pos⟩
theorem relBy_deaf (hT:GTr γ t) (hp:γ.ph=some p) (hb:p.b<=i) (hi:i < γ.cnt) (hs:(γ.tag i).said) (hd:0 < γ.deaf i) (hes:∀e∈es,∃a b,e=⟨.cell a,b,true⟩) (fn:FuncId) (pos:String):∃r,RelBy (stA p.wg) (t++MemOp.ofEvents i fn pos es) i r:=by
 obtain⟨r,hr⟩:=hT.rel p hp i hb hi hs
 refine⟨r,Go.ConcN.RelBy.appOwn hr fn pos es fun j e he=>.inr ?_⟩
 obtain⟨a,b,rfl⟩:=hes e (Array.mem_of_getElem? he)
 refine⟨⟨a,b,rfl⟩,?_⟩
 rw[deafBehind_still _ fun e he'=>by
  obtain⟨a,b,rfl⟩:=hes e (by
   have:=Array.mem_extract_iff_getElem.1 he'
   obtain⟨k,hk,e1⟩:=this
   rw[<- e1];exact Array.getElem_mem _)
  simp,hT.deaf]
 exact hd
theorem do_done (hI:GInv ty top γ w) (hp:γ.ph=some p) (hb:p.b<=i) (hi:i < γ.cnt) (ht:γ.tag i=.rel) (hd:0 < γ.deaf i) (wk:Prop) :
  ∃v wt:Nat,wt<=1/\v < 2147483647/\WgAt ty p.wg w (((v+1:Nat):Int) * KK+wt) 0 /\
   (crewPact P ty top Post).Do i γ w (γ.setTag i (if v=0/\wt=1 then .last 2 else .gone)) (w.setCell (stA p.wg) (.int .u64 ((v:Int) * KK+wt))) wk #[rd (stA p.wg),wr (stA p.wg)]:=by
 have h:=hI.core _ hp
 have hcl:=closed_of hI hp hb hi (by rw[ht];exact id)
 have hfi:p.f≠i:=by have:=h.fd;omega
 have hiW:i < p.b+p.W:=by have:=h.cntW;omega
 have hset:=fun x=>vc_set (tag:=γ.tag) (i:=i) x hb hiW
 have hcw:(γ.tag i).cw=1:=by rw[ht];rfl
 have hpos:1<=vcT γ.tag p:=by
  have:=Go.ConcN.le_sumTo (f:=fun j=>(γ.tag (p.b+j)).cw) (i:=i - p.b) (j:=p.W) (by omega)
  rw[show p.b+(i - p.b)=i by omega,hcw] at this
  exact this
 have hle:vcT γ.tag p<=p.W:=by
  have:=Go.ConcN.sumTo_le (f:=fun j=>(γ.tag (p.b+j)).cw) (c:=1) (j:=p.W) fun k _=>by cases (γ.tag (p.b+k))<;>simp[Tag.cw]
  unfold vcT;omega
 have hsm:=h.small
 have fin:∀(x:Tag) (V wt:Nat),(x=.gone\/x=.last 2)->WgAt ty p.wg w (((V+1:Nat):Int) * KK+wt) 0->(∃st sm,WgAt ty p.wg (w.setCell (stA p.wg) (.int .u64 ((V:Int) * KK+wt))) st sm/\WMode (upd γ.tag i x) p st sm) ->
   (crewPact P ty top Post).Do i γ w (γ.setTag i x) (w.setCell (stA p.wg) (.int .u64 ((V:Int) * KK+wt))) wk #[rd (stA p.wg),wr (stA p.wg)]:=by
  intro x V wt hx hw hwg
  have hsame:∀b,b≠p.wg->(w.setCell (stA p.wg) (.int .u64 ((V:Int) * KK+wt))).heap[b]?=w.heap[b]?:=fun b hb=>heap_cell_ne _ _ _ hb
  have hxw:x.works:=by rcases hx with rfl|rfl<;>trivial
  have hC':=h.rework (i:=i) (x:=x) (w':=w.setCell (stA p.wg) (.int .u64 ((V:Int) * KK+wt))) hb hcl hxw (by rcases hx with rfl|rfl<;>simp) (by rcases hx with rfl|rfl<;>simp[Tag.at_]) (by rw[ht];simp[Tag.at_]) hwg hsame
  refine do_cells hI hp hi (.inr hb) (hI.rework hp hb hi hC' (by rcases hx with rfl|rfl<;>simp) (size_cell _ _ _) hsame) (fun e he=>?_) (.set _ _ _) (fun k hk=>upd_ne _ _ hk) (fun _ _=>rfl) rfl (fun _=>by rw[ht];simp) (fun _=>?_) rfl hsame (fun t fn pos hT _ _=>?_) (.inr (.inr fun j hj hwt=>wait_wg hp hwt rfl (upd_ne _ _ hj) (hw.setSt _)))
  ·simp only[List.mem_toArray,List.mem_cons,List.not_mem_nil,or_false] at he
   rcases he with rfl|rfl<;>exact ev_cell hI hp _ _ rfl _
  ·show vcT (upd γ.tag i x) p<=_
   have:=hset x
   have h0:x.cw=0:=by rcases hx with rfl|rfl<;>rfl
   omega
  ·refine relBy_deaf hT hp hb hi (by rw[ht];trivial) hd (fun e he=>?_) fn pos
   simp only[List.mem_toArray,List.mem_cons,List.not_mem_nil,or_false] at he
   rcases he with rfl|rfl
   ·exact⟨_,_,rfl⟩
   ·exact⟨_,_,rfl⟩
 have lastOf:∀(hnl:∀k,p.b<=k->¬(γ.tag k).lasts) (x:Tag),¬x.lasts->∀k,p.b<=k->¬(upd γ.tag i x k).lasts:=fun hnl x hx k hk=>by
  by_cases q:k=i
  ·subst q;rw[upd_same];exact hx
  ·rw[upd_ne _ _ q];exact hnl k hk
 obtain⟨V,hV⟩:∃V,vcT γ.tag p=V+1:=⟨vcT γ.tag p - 1,by omega⟩
 have hv0:∀x:Tag,x.cw=0->vcT (upd γ.tag i x) p=V:=fun x hx=>by have:=hset x;omega
 obtain⟨st,sm,q1,q2⟩:=h.wgm
 cases q2 with
 | opn q3 q4 =>
  have hpend:(γ.tag p.f).pend=0:=by
   rcases h.shutTag hcl with e|e|e<;>rw[e]<;>rfl
  rw[hpend,hV] at q1
  have hw:WgAt ty p.wg w (((V+1:Nat):Int) * KK+(0:Nat)) 0:=by simpa using q1
  refine⟨V,0,by omega,by omega,hw,?_⟩
  rw[if_neg (by omega)]
  refine fin .gone V 0 (.inl rfl) hw ⟨_,_,hw.setSt _,?_⟩
  have hm:=WMode.opn (tag:=upd γ.tag i .gone) (p:=p) (by rw[upd_ne _ _ hfi];exact q3) (lastOf q4 .gone id)
  rw[upd_ne _ _ hfi,hpend,hv0 .gone rfl] at hm
  simpa using hm
 | reg q3 q4 q5 =>
  rw[hV] at q1
  have hw:WgAt ty p.wg w (((V+1:Nat):Int) * KK+(1:Nat)) 0:=by simpa using q1
  refine⟨V,1,by omega,by omega,hw,?_⟩
  by_cases e:V=0
  ·rw[if_pos ⟨e,rfl⟩]
   refine fin (.last 2) V 1 (.inr rfl) hw ⟨_,_,hw.setSt _,?_⟩
   subst e
   have hm:=WMode.last (tag:=upd γ.tag i (.last 2)) (p:=p) i 2 (by rw[upd_ne _ _ hfi];exact q3) hb (upd_same _ _ _) fun k hk hki=>by
    rw[upd_ne _ _ hki]
    by_cases hkc:k < γ.cnt
    ·have h0:(γ.tag k).cw=0:=by
      have h1:=Go.ConcN.le_sumTo (f:=fun j=>(upd γ.tag i (.last 2) (p.b+j)).cw) (i:=k - p.b) (j:=p.W) (by have:=h.cntW;omega)
      rw[show p.b+(k - p.b)=k by omega,upd_ne _ _ hki] at h1
      have h2:=hv0 (.last 2) rfl
      unfold vcT at h2
      omega
     have h1:=h.wtag k hk
     have h2:=q4 k hk
     cases e:γ.tag k<;>rw[e] at h0 h1 h2<;>first|rfl|exact h1.elim|exact absurd trivial h2 | (simp[Tag.cw] at h0)
    ·exact hI.un k (by omega)
   simpa using hm
  ·rw[if_neg (by omega)]
   refine fin .gone V 1 (.inl rfl) hw ⟨_,_,hw.setSt _,?_⟩
   have hm:=WMode.reg (tag:=upd γ.tag i .gone) (p:=p) (by rw[upd_ne _ _ hfi];exact q3) (lastOf q4 .gone id) (by rw[hv0 .gone rfl];omega)
   rw[hv0 .gone rfl] at hm
   simpa using hm
 | last L k q3 q4 q5 q6 =>
  exfalso
  by_cases e:i=L
  ·subst e;rw[ht] at q5;cases q5
  ·have:=q6 i hb e;rw[ht] at this;cases this
 | sema q3 q4=>have:=q4 i hb;rw[ht] at this;cases this
 | fin q3 q4=>have:=q4 i hb;rw[ht] at this;cases this
theorem last_mode (hI:GInv ty top γ w) (hp:γ.ph=some p) (hb:p.b<=i) (ht:γ.tag i=.last k):γ.tag p.f=.reg/\WgAt ty p.wg w (if k=1 then 0 else 1) 0/\∀m,p.b<=m->m≠i->γ.tag m=.gone:=by
 have h:=hI.core _ hp
 obtain⟨st,sm,q1,q2⟩:=h.wgm
 cases q2 with
 | opn _ q=>exact absurd trivial (by have:=q i hb;rw[ht] at this;exact this)
 | reg _ q=>exact absurd trivial (by have:=q i hb;rw[ht] at this;exact this)
 | last L k' q3 q4 q5 q6 =>
  by_cases e:i=L
  ·subst e
   rw[ht] at q5
   injection q5 with q5
   subst q5
   exact⟨q3,q1,q6⟩
  ·have:=q6 i hb e;rw[ht] at this;cases this
 | sema q3 q4=>have:=q4 i hb;rw[ht] at this;cases this
 | fin q3 q4=>have:=q4 i hb;rw[ht] at this;cases this
theorem do_peek (hI:GInv ty top γ w) (hp:γ.ph=some p) (hb:p.b<=i) (hi:i < γ.cnt) (ht:γ.tag i=.last 2) (hd:0 < γ.deaf i) (wk:Prop):(crewPact P ty top Post).Do i γ w γ w wk #[rd (stA p.wg)]:=by
 refine do_cells hI hp hi (.inr hb) hI (fun e he=>?_) (.refl _) (fun _ _=>rfl) (fun _ _=>rfl) rfl id (fun _=>Nat.le_refl _) rfl (fun _ _=>rfl) (fun t fn pos hT _ _=>?_) (.inr (.inr fun _ _ h=>h))
 ·simp only[List.mem_toArray,List.mem_singleton] at he
  subst he
  exact ev_cell hI hp _ _ rfl _
 ·refine relBy_deaf hT hp hb hi (by rw[ht];trivial) hd (fun e he=>?_) fn pos
  simp only[List.mem_toArray,List.mem_singleton] at he
  subst he
  exact⟨_,_,rfl⟩
theorem do_clear (hI:GInv ty top γ w) (hp:γ.ph=some p) (hb:p.b<=i) (hi:i < γ.cnt) (ht:γ.tag i=.last 2) (hd:0 < γ.deaf i) (wk:Prop):(crewPact P ty top Post).Do i γ w (γ.setTag i (.last 1)) (w.setCell (stA p.wg) (.int .u64 0)) wk #[wr (stA p.wg)]:=by
 have h:=hI.core _ hp
 have hcl:=closed_of hI hp hb hi (by rw[ht];exact id)
 have hfi:p.f≠i:=by have:=h.fd;omega
 obtain⟨q1,q2,q3⟩:=last_mode hI hp hb ht
 rw[if_neg (by omega)] at q2
 have hsame:∀b,b≠p.wg->(w.setCell (stA p.wg) (.int .u64 0)).heap[b]?=w.heap[b]?:=fun b hb=>heap_cell_ne _ _ _ hb
 have hm:=WMode.last (tag:=upd γ.tag i (.last 1)) (p:=p) i 1 (by rw[upd_ne _ _ hfi];exact q1) hb (upd_same _ _ _) fun k hk hki=>by rw[upd_ne _ _ hki];exact q3 k hk hki
 rw[if_pos rfl] at hm
 have hC':=h.rework (i:=i) (x:=.last 1) (w':=w.setCell (stA p.wg) (.int .u64 0)) hb hcl trivial (by simp) (by simp[Tag.at_]) (by rw[ht];simp[Tag.at_]) ⟨_,_,q2.setSt _,hm⟩ hsame
 refine do_cells hI hp hi (.inr hb) (hI.rework hp hb hi hC' (by simp) (size_cell _ _ _) hsame) (fun e he=>?_) (.set _ _ _) (fun k hk=>upd_ne _ _ hk) (fun _ _=>rfl) rfl (fun _=>by rw[ht];simp) (fun _=>?_) rfl hsame (fun t fn pos hT _ _=>?_) (.inr (.inr fun j hj hwt=>wait_wg hp hwt rfl (upd_ne _ _ hj) (q2.setSt _)))
 ·simp only[List.mem_toArray,List.mem_singleton] at he
  subst he
  exact ev_cell hI hp _ _ rfl _
 ·show vcT (upd γ.tag i _) p<=_
  have:=vc_set (tag:=γ.tag) (.last 1) hb (by have:=h.cntW;omega)
  rw[ht] at this
  simp only[Tag.cw] at this
  omega
 ·refine relBy_deaf hT hp hb hi (by rw[ht];trivial) hd (fun e he=>?_) fn pos
  simp only[List.mem_toArray,List.mem_singleton] at he
  subst he
  exact⟨_,_,rfl⟩
theorem do_wake (hI:GInv ty top γ w) (hp:γ.ph=some p) (hb:p.b<=i) (hi:i < γ.cnt) (ht:γ.tag i=.last 1) (hd:0 < γ.deaf i) (wk:Prop) (hwk:wk):WgAt ty p.wg w 0 0/\(crewPact P ty top Post).Do i γ w (γ.setTag i .gone) (w.setCell (smA p.wg) (.int .u32 1)) wk (semEvents (smA p.wg)):=by
 have h:=hI.core _ hp
 have hcl:=closed_of hI hp hb hi (by rw[ht];exact id)
 have hfi:p.f≠i:=by have:=h.fd;omega
 obtain⟨q1,q2,q3⟩:=last_mode hI hp hb ht
 rw[if_pos rfl] at q2
 refine⟨q2,?_⟩
 have hsame:∀b,b≠p.wg->(w.setCell (smA p.wg) (.int .u32 1)).heap[b]?=w.heap[b]?:=fun b hb=>heap_cell_ne _ _ _ hb
 have hm:=WMode.sema (tag:=upd γ.tag i .gone) (p:=p) (by rw[upd_ne _ _ hfi];exact q1) fun k hk=>by
  by_cases e:k=i
  ·subst e;exact upd_same _ _ _
  ·rw[upd_ne _ _ e];exact q3 k hk e
 have hC':=h.rework (i:=i) (x:=.gone) (w':=w.setCell (smA p.wg) (.int .u32 1)) hb hcl trivial (by simp) (by simp[Tag.at_]) (by rw[ht];simp[Tag.at_]) ⟨_,_,q2.setSm _,hm⟩ hsame
 refine do_cells hI hp hi (.inr hb) (hI.rework hp hb hi hC' (by simp) (size_cell _ _ _) hsame) (fun e he=>?_) (.set _ _ _) (fun k hk=>upd_ne _ _ hk) (fun _ _=>rfl) ?_ (fun q=>absurd (upd_same _ _ _) q) (fun _=>?_) rfl hsame (fun t fn pos hT _ _=>?_) (.inl hwk)
 ·simp only[semEvents,List.mem_toArray,List.mem_cons,List.not_mem_nil,or_false] at he
  rcases he with rfl|rfl|rfl|rfl
  ·exact ev_word (.inl rfl)
  ·exact ev_cell hI hp _ _ rfl _
  ·exact ev_cell hI hp _ _ rfl _
  ·exact ev_word (.inr (.inl rfl))
 ·show γ.deaf i=_
  simp[semEvents,deafBehind]
 ·show vcT (upd γ.tag i _) p<=_
  have:=vc_set (tag:=γ.tag) .gone hb (by have:=h.cntW;omega)
  rw[ht] at this
  simp only[Tag.cw] at this
  omega
 ·obtain⟨r,hr⟩:=hT.rel p hp i hb hi (by rw[ht];trivial)
  refine⟨r,Go.ConcN.RelBy.appOwn hr fn pos _ fun j e he=>?_⟩
  simp only[semEvents] at he ⊢
  match j,he with
  | 0,he=>obtain rfl:=Option.some.inj he.symm;exact .inl rfl
  | 1,he =>
   obtain rfl:=Option.some.inj he.symm
   exact .inr ⟨⟨_,_,rfl⟩,by rw[hT.deaf];simp[deafBehind]⟩
  | 2,he =>
   obtain rfl:=Option.some.inj he.symm
   exact .inr ⟨⟨_,_,rfl⟩,by rw[hT.deaf];simp[deafBehind]⟩
  | 3,he=>obtain rfl:=Option.some.inj he.symm;exact .inl rfl
  | n+4,he=>simp at he
end
end Go.Proofs.YtbicafgmfgdckaaDoor
namespace Go.Proofs.YtbicafgmfgdckaaDoor
open Go Go.Conc
open Go.ConcR (KK wgBlock WgAt stA smA rd wr mk)
open Go.ConcN (sumTo upd upd_same upd_ne RelBy PermW WgLive)

section
variable {ty:TypeId} {top:Nat} {γ γ':Gho} {p:Ph} {c:Col} {w w':World} {i j k n:Nat} {t u:Trace} {P:Program} {Post:Value->World->Prop} {es:Array Event} {tag:Nat->Tag} {x:Tag}
def Gho.put (γ:Gho) (i y:Nat):Gho:={ γ with tag:=upd γ.tag i .idle,done:=fun z=>γ.done z\/z=y }
structure PutsAt (p:Ph) (y:Nat) (w w':World):Prop where
 size:w'.heap.size=w.heap.size
 tape:w'.tape=w.tape
 os:Passed w w'
 old:∀b,b≠p.out->w'.heap[b]?=w.heap[b]?
 new:∀cs,w.heap[p.out]?=some (.cells cs p.oty (0,0))->∃cs',w'.heap[p.out]?=some (.cells cs' p.oty (0,0))/\cs'.size=cs.size/\(∀o,o < 32->cs'[32 * y+o]?=some (p.val y o))/\∀k,k / 32≠y->cs'[k]?=cs[k]?
theorem do_put {y:Nat} (hI:GInv ty top γ w) (hp:γ.ph=some p) (hk:p.kind=.fill) (hb:p.b<=i) (hi:i < γ.cnt) (ht:γ.tag i=.busy y) (hd:γ.deaf i=0) (hw:PutsAt p y w w') (hes:∀e∈es,∃a:Addr,e=⟨.cell a,true,false⟩/\a.block=p.out/\a.off / 32=y) (wk:Prop):(crewPact P ty top Post).Do i γ w (γ.put i y) w' wk es:=by
 have h:=hI.core _ hp
 have hF:=h.fill hk
 obtain⟨l1,l2,l3⟩:=h.lts hI.hs
 have l4:=hF.lt hI.hs
 have hfi:p.f≠i:=by have:=h.fd;omega
 have hi0:i≠0:=by have:=h.fd;omega
 have tf:(γ.put i y).tag p.f=γ.tag p.f:=upd_ne _ _ hfi
 have hyn:=(h.busy.1 i y (.inl ht)).1
 have hyo:=hF.busy i y ht
 have nocol:γ.col=none:=by
  cases hc:γ.col with
  | none=>rfl
  | some c=>have:=(hI.mate p c hp hc).2.1;rw[hk] at this;cases this
 have n1:p.wg≠p.out:=fun e=>by have:=hF.bout;rw[<- e,h.bwg] at this;cases this
 have n2:p.jobs≠p.out:=fun e=>by have:=hF.bout;rw[<- e,h.bjobs] at this;cases this
 have n3:p.stop≠p.out:=fun e=>by have:=hF.bout;rw[<- e,h.bstop] at this;cases this
 have noph:∀ {q:Prop},γ.ph=none->q:=fun q=>by rw[hp] at q;cases q
 have hv:vcT (upd γ.tag i .idle) p=vcT γ.tag p:=by
  have:=vc_set (tag:=γ.tag) .idle hb (by have:=h.cntW;omega)
  rw[ht] at this
  simp only[Tag.cw] at this
  omega
 have hC:Core ty (γ.put i y) p w':=by
  refine⟨h.bwg,h.bjobs,h.bstop,h.ne,fun b m hb e=>?_,h.fixm,h.fd,by rw[tf];exact h.ftag,?_,fun j q e=>by rw[tf] at e;exact h.add j q e,fun k h1 h2 h3=>?_,fun k hk=>?_,fun hc k h1 h2=>?_,?_,by rw[tf,hw.old _ n2];exact h.jobs,(hw.old _ n3).trans h.stop,h.stpk,fun z hz=>?_,h.nle,by rw[tf];exact h.full,⟨fun k z e=>?_,fun z hz=>hz.elim (h.busy.2 z) fun q=>by rw[q];exact hyn⟩,fun k hk=>?_,h.small,h.pos,fun _=>?_,(fun q=>by rw[hk] at q;cases q),h.nomix⟩
  ·rw[hw.old b (fun q=>by have e':γ.bk b=.fix m:=e;rw[q,hF.bout] at e';cases e')];exact h.fix b m hb e
  ·show γ.cnt=p.b+(γ.put i y).started p
   have:=h.cnt
   unfold Gho.started at this ⊢
   rw[tf];exact this
  ·show upd γ.tag i _ k=_;rw[upd_ne _ _ (by omega)];exact h.rest k h1 h2 h3
  ·show (upd γ.tag i _ k).works
   by_cases q:k=i
   ·subst q;rw[upd_same];trivial
   ·rw[upd_ne _ _ q];exact h.wtag k hk
  ·rw[tf] at hc
   show (upd γ.tag i _ k).early
   by_cases q:k=i
   ·subst q;rw[upd_same];trivial
   ·rw[upd_ne _ _ q];exact h.early hc k h1 h2
  ·obtain⟨st,sm,q1,q2⟩:=h.wgm
   refine⟨st,sm,q1.of_block (hw.old _ n1),?_⟩
   have hlast:(∀k,p.b<=k->¬(γ.tag k).lasts)->∀k,p.b<=k->¬(upd γ.tag i .idle k).lasts:=fun hnl k hk=>by
    by_cases q:k=i
    ·subst q;rw[upd_same];exact id
    ·rw[upd_ne _ _ q];exact hnl k hk
   cases q2 with
   | opn q3 q4 =>
    have hm:=WMode.opn (tag:=upd γ.tag i .idle) (p:=p) (by rw[upd_ne _ _ hfi];exact q3) (hlast q4)
    rw[upd_ne _ _ hfi,hv] at hm
    exact hm
   | reg q3 q4 q5 =>
    have hm:=WMode.reg (tag:=upd γ.tag i .idle) (p:=p) (by rw[upd_ne _ _ hfi];exact q3) (hlast q4) (by rw[hv];exact q5)
    rw[hv] at hm
    exact hm
   | last L k q3 q4 q5 q6 =>
    exfalso
    by_cases e:i=L
    ·subst e;rw[ht] at q5;cases q5
    ·have:=q6 i hb e;rw[ht] at this;cases this
   | sema q3 q4=>have:=q4 i hb;rw[ht] at this;cases this
   | fin q3 q4=>have:=q4 i hb;rw[ht] at this;cases this
  ·by_cases e:z=y
   ·exact .inl (.inr e)
   ·rcases h.job z hz with q|⟨m,q1,q2⟩
    ·exact .inl (.inl q)
    ·refine .inr ⟨m,q1,?_⟩
     show (upd γ.tag i _ m).at_ z
     rw[upd_ne _ _ (fun q=>by
      subst q;rw[ht] at q2
      rcases q2 with q2|q2
      ·injection q2 with q2;exact e q2.symm
      ·cases q2)]
     exact q2
  ·have e':(upd γ.tag i .idle k).at_ z:=e
   by_cases q:k=i
   ·subst q;rw[upd_same] at e';rcases e' with e' | e'<;>cases e'
   ·rw[upd_ne _ _ q] at e'
    obtain⟨b1,b2,b3⟩:=h.busy.1 k z e'
    refine⟨b1,fun r=>r.elim b2 fun r=>q ?_,fun j e2=>?_⟩
    ·subst r
     exact((h.busy.1 i z (.inl ht)).2.2 k e')
    ·have e3:(upd γ.tag i .idle j).at_ z:=e2
     by_cases q2:j=i
     ·subst q2;rw[upd_same] at e3;rcases e3 with e3|e3<;>cases e3
     ·rw[upd_ne _ _ q2] at e3;exact b3 j e3
  ·by_cases q:k=i
   ·subst q;exact hd
   ·refine h.hear k (hk.imp (fun e=>?_) fun e=>?_)<;>(have e':upd γ.tag i .idle k=_:=e;rwa [upd_ne _ _ q] at e')
  ·refine⟨hF.bout,?_,fun k z e=>?_,hF.mine,hF.owm,hF.mixo,fun k z e=>?_⟩
   ·obtain⟨cs,q1,q2,q3⟩:=hF.out
    obtain⟨cs',r1,r2,r3,r4⟩:=hw.new cs q1
    refine⟨cs',r1,r2.trans q2,fun z hz hdn o ho=>?_⟩
    by_cases e:z=y
    ·subst e;exact r3 o ho
    ·rw[r4 _ (by omega)]
     exact q3 z hz (hdn.resolve_right e) o ho
   ·have e':upd γ.tag i .idle k=.busy z:=e
    by_cases q:k=i
    ·subst q;rw[upd_same] at e';cases e'
    ·rw[upd_ne _ _ q] at e';exact hF.busy k z e'
   ·have e':upd γ.tag i .idle k=.give z:=e
    by_cases q:k=i
    ·subst q;rw[upd_same] at e';cases e'
    ·rw[upd_ne _ _ q] at e';exact hF.nog k z e'
 refine⟨⟨by rw[hw.size];exact hI.hs,hI.cnt,?_,fun k hk=>?_,fun q=>noph q,fun p' hp'=>?_,(fun c hc=>by have hc':γ.col=some c:=hc;rw[nocol] at hc';cases hc'),fun c _ q=>noph q,hI.mate,hI.alone,hI.top⟩,fun j hj=>⟨upd_ne _ _ hj,rfl,⟨rfl,rfl⟩,fun _=>⟨Nat.le_refl _,fun _ _ _=>rfl,fun _ h1 h2=>⟨h1,h2⟩,fun b hb e=>hw.old b fun q=>?_,hw.tape,fun _ h=>h.1,fun h _=>h,rfl,fun p' hp' _=>⟨rfl,?_⟩,fun _ _ q=>noph q,fun _ _ _ _ q=>noph q,fun _ _=>Nat.le_refl _,(fun _ q=>absurd nocol q),(fun _ _ h=>h),(fun _=>rfl),fun p' hp' hk'=>by obtain rfl:=same_ph hp hp'.1;rw[hk] at hk';cases hk'⟩⟩,fun t fn pos hT=>?_,fun j cases c r hj hof hc hr=>.inl ?_,.inr fun j hj hwt=>wait_keep hwt rfl (upd_ne _ _ hj) fun p' hp'=>?_,rfl,hw.os⟩
 ·show upd γ.tag i _ 0≠_;rw[upd_ne _ _ (Ne.symm hi0)];exact hI.main
 ·show upd γ.tag i _ k=_;rw[upd_ne _ _ (by have:γ.cnt<=k:=hk;omega)];exact hI.un k hk
 ·obtain rfl:=same_ph hp hp'
  exact hC
 ·subst q;rw[hF.bout] at e;rcases e with e|⟨m,_,e⟩<;>cases e
 ·obtain rfl:=same_ph hp hp'.1;exact Nat.le_of_eq hv
 ·have hlive:∀k l,(γ.put i y).live k l->γ.live k l:=fun k l hk=>⟨hk.1,fun e=>hk.2.1 (by
   show upd γ.tag i _ k=_
   rw[upd_ne _ _ (fun q=>by subst q;rw[ht] at e;cases e)];exact e),hk.2.2⟩
  have evt:∀e∈es,∀z,(MemAct.ofEvent e).touch?=some z->∃a:Addr,z=⟨.cell a,true,.plain⟩/\a.block=p.out/\a.off / 32=y:=fun e he z hz=>by
   obtain⟨a,rfl,h1,h2⟩:=hes e he
   have:MemAct.ofEvent ⟨.cell a,true,false⟩=.access ⟨.cell a,true,false⟩:=rfl
   rw[this] at hz
   simp only[MemAct.touch?,Option.some.injEq] at hz
   exact⟨a,hz.symm,h1,h2⟩
  refine GTr.own (γ':=γ.put i y) hT rfl rfl (fun op hop=>by obtain⟨e,_,rfl⟩:=mem_ofEv hop;rfl) (crew_place hI hp (.inr hb)) (fun _ _ q=>noph q) ((hT.d.low (γ':=γ.put i y) hT.low (fun _ _=>rfl) rfl rfl fun k l _=>hlive k l).app hi fun op hop=>?_) (fun _ _=>rfl) ?_ (fun op hop a e=>?_) (fun m a ha=>?_) (fun k hk h1 h2=>⟨h1,by have h2':(upd γ.tag i .idle k).said:=h2;rwa [upd_ne _ _ hk] at h2'⟩) (fun p' hp' _ hs=>by have hs':(upd γ.tag i .idle i).said:=hs;rw[upd_same] at hs';exact hs'.elim) (fun _ _ q=>noph q)
  ·obtain⟨e,he,rfl⟩:=mem_ofEv hop
   refine⟨rfl,fun z hz=>?_⟩
   obtain⟨a,rfl,h1,h2⟩:=evt e he z hz
   have how:γ.ow a.block a.off=some i:=by
    have:=hyo (a.off % 32) (Nat.mod_lt _ (by omega))
    rw[show 32 * y+a.off % 32=a.off by omega] at this
    rw[h1];exact this
   have hbm:γ.bk a.block=.mix:=by rw[h1];exact hF.bout
   refine .inr ⟨?_,by simp,rfl,.inl ⟨?_,?_⟩⟩
   ·rintro(⟨s,q⟩|⟨_,q⟩|⟨q,_⟩)
    ·have q':γ.bk a.block=.shd s:=q
     rw[hbm] at q';cases q'
    ·have q':γ.ow a.block a.off=none:=q
     rw[how] at q';cases q'
    ·have q':γ.bk a.block=.lock:=q
     rw[hbm] at q';cases q'
   ·rintro⟨m,q⟩
    have q':γ.bk a.block=.fix m:=q
    rw[hbm] at q';cases q'
   ·show (match γ.bk a.block with | .priv i=>some i | .mix=>some ((γ.ow a.block a.off).getD 0) | .lock=>γ.sk.lo a.block|_=>some 0)=some i
    rw[hbm,how];rfl
  ·rw[Deaf_own,deafBehind_still _ fun e he=>by obtain⟨a,rfl,_⟩:=hes e he;simp];exact hT.deaf i
  ·obtain⟨e',he,rfl⟩:=mem_ofEv hop
   obtain⟨a',rfl,_⟩:=hes e' he
   simp[MemAct.ofEvent] at e
  ·obtain⟨z,hz,hza⟩:=touch_of ha
   rcases getElem?_append_cases hz with⟨_,hz'⟩|⟨_,hop⟩
   ·exact hT.low m a (by rw[touchAt_of hz'];exact hza)
   ·obtain⟨e,he,rfl⟩:=mem_ofEv hop
    obtain⟨a',rfl,h1,_⟩:=evt e he a hza
    show a'.block < γ.hs
    rw[h1];exact l4
 ·obtain⟨_,⟨s,q⟩,_⟩:=offer_shd hI hof hc hr
  exact hw.old _ fun e=>by rw[e,hF.bout] at q;cases q
 ·obtain rfl:=same_ph hp hp'
  exact hw.old _ n1
def Gho.spawn (γ:Gho) (p:Ph) (j:Nat):Gho:={ γ with cnt:=γ.cnt+1,tag:=upd (upd γ.tag p.f (.add (j+1) 0)) γ.cnt .idle,deaf:=upd γ.deaf γ.cnt 0 }
theorem do_spawn (hI:GInv ty top γ w) (hp:γ.ph=some p) (ht:γ.tag p.f=.add j 1) (hd:γ.deaf p.f=0):(crewPact P ty top Post).Spawns p.f γ w (γ.spawn p j):=by
 have h:=hI.core _ hp
 have hfd:=h.fd
 have hfc:p.f < γ.cnt:=by have:=h.cnt;omega
 have hcl:(γ.tag p.f).closed=false:=by rw[ht];rfl
 obtain⟨a1,a2,a3⟩:=h.add j 1 ht
 have hjW:j < p.W:=by rcases a2 with q|⟨_,q⟩<;>omega
 have hcnt:γ.cnt=p.b+j:=by have:=h.cnt;unfold Gho.started at this;rw[ht] at this;exact this
 have hne:p.f≠γ.cnt:=by omega
 have noph:∀ {q:Prop},γ.ph=none->q:=fun q=>by rw[hp] at q;cases q
 have tf:(γ.spawn p j).tag p.f=.add (j+1) 0:=by
  show upd (upd γ.tag p.f _) γ.cnt _ p.f=_
  rw[upd_ne _ _ hne,upd_same]
 have tc:(γ.spawn p j).tag γ.cnt=.idle:=upd_same _ _ _
 have tn:∀k,k≠p.f->k≠γ.cnt->(γ.spawn p j).tag k=γ.tag k:=fun k h1 h2=>by
  show upd (upd γ.tag p.f _) γ.cnt _ k=_
  rw[upd_ne _ _ h2,upd_ne _ _ h1]
 have hv:vcT γ.tag p=j:=by rw[h.vc_early hI hcl];unfold Gho.started;rw[ht]
 have hv':vcT (γ.spawn p j).tag p=j+1:=by
  have h1:=vc_set (p:=p) (tag:=upd γ.tag p.f (.add (j+1) 0)) (i:=γ.cnt) .idle (by omega) (by omega)
  rw[vc_out _ h.fd,upd_ne _ _ (Ne.symm hne),hI.un γ.cnt (Nat.le_refl _),hv] at h1
  simp only[Tag.cw] at h1
  exact h1
 have nat:∀k z,((γ.spawn p j).tag k).at_ z->k≠γ.cnt/\k≠p.f/\(γ.tag k).at_ z:=fun k z e=>by
  by_cases q:k=γ.cnt
  ·rw[q,tc] at e;rcases e with e|e<;>cases e
  ·by_cases q2:k=p.f
   ·rw[q2,tf] at e;rcases e with e|e<;>cases e
   ·rw[tn k q2 q] at e;exact⟨q,q2,e⟩
 have hC:Core ty (γ.spawn p j) p w:=by
  refine⟨h.bwg,h.bjobs,h.bstop,h.ne,h.fix,h.fixm,h.fd,by rw[tf];trivial,?_,fun j' q e=>?_,fun k h1 h2 h3=>(tn k h1 (by omega)).trans (h.rest k h1 h2 h3),fun k hk=>?_,fun _ k h1 h2=>?_,?_,by rw[tf];have:=h.jobs;rw[hcl] at this;exact this,h.stop,h.stpk,fun z hz=>?_,h.nle,(fun e=>by rw[tf] at e;cases e),h.busy.of (fun k z e=>(nat k z e).2.2) rfl fun _=>Iff.rfl,fun k hk=>?_,h.small,h.pos,fun q=>?_,fun q=>(h.seek q).keep rfl rfl rfl rfl rfl rfl (fun k y e=>(tn k (fun r=>by subst r;rw[ht] at e;cases e) (fun r=>by subst r;rw[hI.un _ (Nat.le_refl _)] at e;cases e)).trans e) (fun k y e=>by
   rcases (nat k y (.inr e)) with⟨q1,q2,_⟩
   rw[tn k q2 q1] at e;exact e) rfl rfl,h.nomix⟩
  ·show γ.cnt+1=p.b+(γ.spawn p j).started p
   unfold Gho.started
   rw[tf];dsimp only;omega
  ·rw[tf] at e;injection e with e1 e2;subst e1 e2;exact⟨by omega,.inl rfl,a3⟩
  ·by_cases q:k=γ.cnt
   ·rw[q,tc];trivial
   ·rw[tn k (by omega) q];exact h.wtag k hk
  ·by_cases q:k=γ.cnt
   ·rw[q,tc];trivial
   ·have h2':k < γ.cnt+1:=h2
    rw[tn k (by omega) q];exact h.early hcl k h1 (by omega)
  ·obtain⟨st,sm,q1,q2⟩:=h.wgm
   refine⟨st,sm,q1,?_⟩
   cases q2 with
   | opn q3 q4 =>
    have hm:=WMode.opn (tag:=(γ.spawn p j).tag) (p:=p) (by rw[tf];trivial) fun k hk=>by
     by_cases q:k=γ.cnt
     ·rw[q,tc];exact id
     ·rw[tn k (by omega) q];exact q4 k hk
    rw[hv',tf] at hm
    rw[hv,ht]
    exact hm
   | reg q=>rw[ht] at q;cases q
   | last _ _ q=>rw[ht] at q;cases q
   | sema q=>rw[ht] at q;cases q
   | fin q=>rw[ht] at q;cases q
  ·have hz':z < γ.next:=hz
   omega
  ·show upd γ.deaf γ.cnt 0 k=0
   by_cases q:k=γ.cnt
   ·rw[q,upd_same]
   ·rw[upd_ne _ _ q]
    by_cases q2:k=p.f
    ·rw[q2];exact hd
    ·rw[tn k q2 q] at hk;exact h.hear k hk
  ·have hF:=h.fill q
   exact⟨hF.bout,hF.out,fun k z e=>hF.busy k z ((nat k z (.inl e)).2.2.resolve_right (hF.nog k z)),hF.mine,hF.owm,hF.mixo,fun k z e=>by
    rcases (nat k z (.inr e)) with⟨q1,q2,_⟩
    rw[tn k q2 q1] at e;exact hF.nog k z e⟩
 refine⟨⟨hI.hs,by show 1<=γ.cnt+1;omega,?_,fun k hk=>?_,fun q=>noph q,fun p' hp'=>?_,fun c hc=>?_,fun c _ q=>noph q,hI.mate,hI.alone,hI.top⟩,fun j' h1 h2=>⟨tn j' h1 h2,upd_ne _ _ h2,⟨rfl,rfl⟩,fun _=>⟨Nat.le_refl _,fun _ _ _=>rfl,fun _ h1 h2=>⟨h1,h2⟩,fun _ _ _=>rfl,rfl,fun _ h=>h.1,fun h _=>h,rfl,fun p' hp' e=>?_,fun _ _ q=>noph q,fun _ _ _ _ q=>noph q,fun _ _=>Nat.le_refl _,fun _ _ _=>Iff.rfl,fun _ _ h=>h,fun _=>rfl,fun _ _ _=>.of (c1:=rfl) rfl fun _=>rfl⟩⟩,fun t x y hx hy hT=>?_,fun j' h1 hw=>?_,rfl,?_⟩
 ·by_cases q:0=p.f
  ·rw[q,tf];simp
  ·rw[tn 0 q (by have:=hI.cnt;omega)];exact hI.main
 ·have hk':γ.cnt+1<=k:=hk
  rw[tn k (by omega) (by omega)];exact hI.un k (by omega)
 ·obtain rfl:=same_ph hp hp'
  exact hC
 ·have hK:=hI.coll c hc
  have hm:=hI.mate p c hp hc
  have hf0:=hK.f.1
  have hfc2:=hK.f.2.1
  have hcw:γ.cnt+1<=c.f+1+c.W:=by
   have q1:=hm.2.2.2.1
   have q2:=hm.2.2.2.2
   have q3:=h.cnt
   unfold Gho.started at q3
   rw[ht] at q3
   dsimp only at q3
   omega
  refine⟨(tn 0 (by omega) (by omega)).trans hK.tag0,⟨hf0,Nat.lt_succ_of_lt hfc2,hcw⟩,hK.bdn,?_,hK.fix,(upd_ne _ _ (by omega)).trans hK.deaf,fun k z e=>?_⟩
  ·obtain⟨s,q⟩:=hK.dn
   refine⟨s,q.trans ?_⟩
   rw[<- hm.1,tf,ht];rfl
  ·rcases (nat k z (.inr e)) with⟨q1,q2,_⟩
   have e':γ.tag k=.give z:=by rw[tn k q2 q1] at e;exact e
   obtain⟨r1,r2⟩:=hK.give k z e'
   exact⟨(upd_ne _ _ q1).trans r1,r2⟩
 ·obtain rfl:=same_ph hp hp'.1
  exact absurd e.symm h1
 ·have hmem:∀op∈#[x,y],op.act.touch?=none/\op.g < γ.cnt+1/\∀m,op.act≠.mark m:=by
   intro op hop
   simp only[List.mem_toArray,List.mem_cons,List.not_mem_nil,or_false] at hop
   rcases hop with rfl|rfl
   ·exact⟨by rw[hx.2];rfl,by rw[hx.1];omega,fun m=>by rw[hx.2];simp⟩
   ·exact⟨by rw[hy.2];rfl,by rw[hy.1];exact Nat.lt_succ_self _,fun m=>by rw[hy.2];simp⟩
  have hs:∀op∈#[x,y],op.act.touch?=none:=fun op hop=>(hmem op hop).1
  have hD:DTr γ.wh (t++#[x,y]) (γ.cnt+1):=hT.d.silent (Nat.le_succ _) fun op hop=>⟨(hmem op hop).1,(hmem op hop).2.1⟩
  have habs:Deaf t γ.cnt=0:=Go.ConcN.Deaf_absent fun m op hm e=>by have:=hT.d.gs m op hm;omega
  have old:∀ {m},(t++#[x,y]).counts m->m < t.size:=fun {m} hc=>by
   obtain⟨x,hx,_⟩:=hc
   obtain⟨_,q,_⟩:=touch_of (touch_silent hs hx)
   exact lt_size_of_getElem? q
  refine⟨hD.anew (fun m op z hm hz hsh=>.inl ⟨hsh,rfl⟩) (fun l h1 h2=>(hT.d.own l h1 h2).silent hs fun k hk=>?_) (fun l h1 h2 k hk=>?_) fun _ _ _ q=>q,fun k=>?_,hT.nrel.app fun op hop a=>(hmem op hop).2.2 _,fun m a ha=>hT.low m a (touch_silent hs ha),fun p' hp' k hk hk2 hsd=>?_,fun m hc=>?_,fun c _ q=>noph q,fun c _ q=>noph q⟩
  ·by_cases q:k=γ.cnt
   ·subst q
    exact .inr ⟨p.f,⟨hfc,by rw[ht];simp,fun m hm=>absurd ⟨m,hm⟩ h2⟩,fun m hm=>forked_knows hx hy (by rw[hT.deaf];exact hd) habs hm⟩
   ·refine .inl ⟨by have:k < γ.cnt+1:=hk.1;omega,fun e=>hk.2.1 ?_,hk.2.2⟩
    rw[tn k (fun q2=>by subst q2;rw[ht] at e;cases e) q];exact e
  ·by_cases q:k=γ.cnt
   ·subst q
    by_cases hlt:blk l < γ.hs
    ·have hf:PermW t p.f l:=hT.d.ro l h1 h2 p.f ⟨hfc,by rw[ht];simp,fun m hm=>h.fixm _ m hlt hm⟩
     exact PermW.pass hf hs fun m hm=>forked_knows hx hy (by rw[hT.deaf];exact hd) habs hm
    ·exact fun i a ha e=>absurd (hT.low i a (touch_silent hs ha)) (by rw[e];exact hlt)
   ·refine hD.ro l h1 h2 k ⟨by have:k < γ.cnt+1:=hk.1;omega,fun e=>hk.2.1 ?_,hk.2.2⟩
    rw[tn k (fun q2=>by subst q2;rw[ht] at e;cases e) q];exact e
  ·rw[Go.ConcN.Deaf_still t k _ fun op hop=>⟨(hmem op hop).2.2 _,(hmem op hop).2.2 _⟩]
   show _=upd γ.deaf γ.cnt 0 k
   by_cases q:k=γ.cnt
   ·rw[q,upd_same,habs]
   ·rw[upd_ne _ _ q];exact hT.deaf k
  ·obtain rfl:=same_ph hp hp'
   exfalso
   have hk2':k < γ.cnt+1:=hk2
   by_cases q:k=γ.cnt
   ·rw[q,tc] at hsd;exact hsd
   ·rw[tn k (by omega) q] at hsd
    have:=h.early hcl k hk (by omega)
    cases e:γ.tag k<;>rw[e] at this hsd<;>first|exact this|exact hsd
  ·have hlt:=old hc
   rcases hT.old m ((counts_old hlt).1 hc) with q|⟨lo,q1,k,q2,q3⟩
   ·exact .inl (q.app _)
   ·exact .inr ⟨lo,q1,k,q2,by rw[g?_old hlt];exact q3⟩
 ·cases hw with
  | wg p' st q1 q2 =>
   obtain rfl:=same_ph hp q1
   exact absurd q2 h1
  | que p' m q1 q2 q3 q4 q5=>exact .que p' m q1 q2 q3 q4 q5
 ·show γ.cnt+1<=top
  have:=hI.top.1 p hp
  omega
end
end Go.Proofs.YtbicafgmfgdckaaDoor
