/- The crew's pact: a goroutine stands at a communication; the close. For any program. The crew's pact: main by itself, between phases. For any program. The crew's pact: who is by itself makes blocks, and a phase begins: main without a phase, or who has the phase, ahead of it. For any program. Feed, in the crew. -/
import Derived.Test.YtbicafgmfgdckaaDoorMgAm
import Derived.Conc.Own2
import Derived.Test.YtbicafgmfgdckaaDoorProg
import Derived.Conc.WgGenW
import Derived.Walk
import Derived.KernelRfl
namespace Go.Proofs.YtbicafgmfgdckaaDoor
open Go Go.Conc
open Go.ConcR (KK wgBlock WgAt stA smA rd wr mk DC0)
open Go.ConcN (sumTo upd upd_same upd_ne RelBy PermW WgLive)

section
variable {ty:TypeId} {top:Nat} {γ γ' γ2:Gho} {p:Ph} {c:Col} {w w' w2:World} {i j n:Nat} {P:Program} {Post:Value->World->Prop} {es:Array Event} {g g':Goroutine} {b:Frame} {a:Act} {k:List Item} {cs:List Frame}
theorem lives_comm {ops:Array Oper} {l:Nat} {rest:List Nat} {o:Oper} {cases:Array CommCase} {blocking:Bool} {shape:CommShape} (ho:ops[l]?=some o) (hw:Region.wanted o (yielded ops a.tmps)=true) (hk:b.kind≠.early) (ht:γ.tag i≠.gone)
  (hr:∀w2,(execOp a.eval o).run P w2=.ok (.comm cases blocking shape) w2) (he:∀w2,(execOp a.eval o).events P w2 #[]=#[]) (hof:∀γ2 w2,Rel i γ w γ2 w2->GInv ty top γ2 w2->GOffer i γ2 cases blocking)
  (hon:∀γ2 w2,Rel i γ w γ2 w2->GInv ty top γ2 w2->∀kk v ok γ3 w3,GResult i γ2 w2 blocking kk v ok γ3 w3->GInv ty top γ3 w3->LV P ty top Post i γ3 w3 (G (b.at (a.put o.dst (commResult cases shape kk v ok)) (.inRegion ops rest::k)) cs)) :
  LV P ty top Post i γ w (G (b.at a (.inRegion ops (l::rest)::k)) cs):=by
 refine Pact.Lives.comm (cases:=cases) (blocking:=blocking) (shape:=shape) ⟨rfl,fun γ2 w2 hrl hI=>⟨fun q=>?_,?_,hof γ2 w2 hrl hI⟩,fun γ2 w2 hrl hI kk v ok γ3 w3 hR hI3=>?_⟩
 ·have e:γ2.tag i≠.gone:=by rw[hrl.tag];exact ht
  exact e q.2
 ·rw[stepG_comm ho hw hk (hr w2),array_nil (no_listed (he w2))]
 ·have:=hon γ2 w2 hrl hI kk v ok γ3 w3 hR hI3
  have e:(G (b.at a (.inRegion ops (l::rest)::k)) cs).finishComm P cases shape kk v ok=G (b.at (a.put o.dst (commResult cases shape kk v ok)) (.inRegion ops rest::k)) cs:=by
   unfold Goroutine.finishComm
   show G ((b.at a (.inRegion ops (l::rest)::k)).finish _) cs=_
   rw[Frame.finish_at,ho]
   rfl
  rw[e]
  exact this
theorem lives_close {todo:List Item} {ds:List Deferred} {ats:Array TypeId} {tt:TypeId} {consts:Array Bool} (hd:a.defers=dclose ats tt consts (.chan (some p.jobs))::ds) (hp:γ.ph=some p) (hf:p.f=i) (ht:γ.tag i=.feed) (hn:γ.next=p.n\/γ.stp=true)
  (hK:∀γ' w',RelL i γ w γ' w'->γ'.ph=some p->γ'.tag i=.shut->γ'.deaf i=γ.deaf i->GInv ty top γ' w'->LV P ty top Post i γ' w' (G { b.at ⟨a.tmps,ds⟩ todo with mode:=.returning } cs)) :
  LV P ty top Post i γ w (G { b.at a todo with mode:=.returning } cs):=by
 have hg:γ.tag i≠.gone:=by rw[ht];simp
 refine lives_step rfl hg fun γ2 w2 hrl hI hi=>?_
 subst hf
 have l:=hrl.live hg
 have hp2:=l.ph _ (on_f hp)
 have hC:=hI.core _ hp2
 have ht2:γ2.tag p.f=.feed:=hrl.tag.trans ht
 obtain⟨s,hj⟩:=hC.jobs
 rw[ht2] at hj
 have hDo:=do_close (P:=P) (Post:=Post) hI hp2 ht2 (hn.imp (fun e=>(l.feed p (on_f hp) rfl).1.trans e) fun e=>l.stp p (on_f hp) e) hj (mayWake P (G { b.at a todo with mode:=.returning } cs)=true) (by rfl)
 refine .go _ _ _ _ (stepG_unwind_close hd hj) hDo (hK _ _ (l.trans ?_) hp2 (setTag_at _ _ _) hrl.deaf hDo.inv)
 have hv:vcT (γ2.setTag p.f .shut).tag p=vcT γ2.tag p:=vc_out _ hC.fd
 have noph:∀ {q:Prop},γ2.ph=none->q:=fun q=>by rw[hp2] at q;cases q
 refine⟨Nat.le_refl _,fun _ _ _=>rfl,fun _ h1 h2=>⟨h1,h2⟩,fun b hb e=>heap_setChan _ _ _ _ _ _ _ _ fun q=>?_,rfl,fun _ h=>h.1,fun q=>noph q,rfl,fun p' hp' _=>⟨rfl,?_⟩,fun _ _ q=>noph q,fun _ _ _ _ q=>noph q,fun _ _=>Nat.le_refl _,fun _ _ _=>Iff.rfl,fun _ _ h=>h,fun _=>rfl,fun p' hp' hk=>.of (c1:=rfl) rfl fun _=>?_⟩
 ·subst q;rw[hC.bjobs] at e;rcases e with e|⟨m,_,e⟩<;>cases e
 ·obtain rfl:=same_ph hp2 hp'.1
  exact Nat.le_of_eq hv
 ·obtain rfl:=same_ph hp2 hp'.1
  have:(w2.setChan p.jobs 0 #[] true s s false).heap[p.out]?=w2.heap[p.out]?:=heap_setChan _ _ _ _ _ _ _ _ fun r=>by have:=(hC.seek hk).bout;rw[r,hC.bjobs] at this;cases this
  simp only[World.cell?,this]
structure Kw (i:Nat) (γ γ2:Gho):Prop where
 hs:γ.hs<=γ2.hs
 fx:∀b,γ.F i b->γ2.F i b
 ph:∀p,γ.on i p->γ2.ph=some p
 col:γ2.col=γ.col
 next:∀p,γ.on i p->γ.next<=γ2.next
theorem RelL.kw (h:RelL i γ w γ2 w2):Kw i γ γ2:=⟨h.hs,fun _=>h.F,h.ph,h.col,h.next⟩
theorem Ext.kw (h:Ext i γ γ2):Kw i γ γ2:=⟨h.hs,fun b ⟨h1,m,h2,h3⟩=>⟨Nat.lt_of_lt_of_le h1 h.hs,m,h2,(h.bk b h1 fun j _ e=>by rw[h3] at e;cases e).trans h3⟩,h.ph,h.col,h.next⟩
theorem Kw.refl (i:Nat) (γ:Gho):Kw i γ γ:=⟨Nat.le_refl _,fun _ h=>h,fun _ h=>h.1,rfl,fun _ _=>Nat.le_refl _⟩
theorem Kw.F (h:Kw i γ γ2) {b:Nat} (hb:γ.F i b):γ2.F i b:=h.fx b hb
theorem Kw.trans {γ3:Gho} (h:Kw i γ γ2) (h':Kw i γ2 γ3):Kw i γ γ3 :=
 ⟨Nat.le_trans h.hs h'.hs,fun b hb=>h'.fx b (h.fx b hb),fun p q=>h'.ph p ⟨h.ph p q,q.2⟩,h'.col.trans h.col,fun p q=>Nat.le_trans (h.next p q) (h'.next p ⟨h.ph p q,q.2⟩)⟩
theorem kw_pass (γ:Gho) (p:Ph) (h:Nat):Kw i γ (γ.pass p h):=⟨Nat.le_refl _,fun _ h=>h,fun _ h=>h.1,rfl,fun _ _=>Nat.le_succ _⟩
theorem kw_tag (γ:Gho) (k:Nat) (x:Tag):Kw i γ (γ.setTag k x):=⟨Nat.le_refl _,fun _ h=>h,fun _ h=>h.1,rfl,fun _ _=>Nat.le_refl _⟩
theorem kw_put (γ:Gho) (k x:Nat):Kw i γ (γ.put k x):=⟨Nat.le_refl _,fun _ h=>h,fun _ h=>h.1,rfl,fun _ _=>Nat.le_refl _⟩
structure Kept (i:Nat) (γ:Gho) (w:World) (γ2:Gho) (w2:World):Prop where
 hs:γ.hs<=γ2.hs
 bk:∀b,b < γ.hs->(∀j,j≠i->γ.bk b≠.priv j)->γ2.bk b=γ.bk b
 keep:∀b,b < γ.hs->(γ.bk b=.priv i\/∃m,m<=i/\γ.bk b=.fix m)->w2.heap[b]?=w.heap[b]?
 tape:w2.tape=w.tape
 ph:∀p,γ.on i p->γ2.ph=some p
 col:γ2.col=γ.col
 next:∀p,γ.on i p->γ.next<=γ2.next
theorem RelL.kept (h:RelL i γ w γ2 w2):Kept i γ w γ2 w2:=⟨h.hs,h.bk,h.keep,h.tape,h.ph,h.col,h.next⟩
theorem Kept.refl (i:Nat) (γ:Gho) (w:World):Kept i γ w γ w:=⟨Nat.le_refl _,fun _ _ _=>rfl,fun _ _ _=>rfl,rfl,fun _ h=>h.1,rfl,fun _ _=>Nat.le_refl _⟩
theorem Kept.F (h:Kept i γ w γ2 w2) {b k:Nat} (hb:γ.F k b):γ2.F k b:=by
 obtain⟨h1,m,h2,h3⟩:=hb
 exact⟨Nat.lt_of_lt_of_le h1 h.hs,m,h2,(h.bk b h1 fun j _ e=>by rw[h3] at e;cases e).trans h3⟩
theorem fix_cell (hI:GInv ty top γ w) (hp:γ.ph=some p) {b k:Nat} (hb:γ.F k b) {v:Value} {t:TypeId} {m:Nat × Nat} (hH:p.H b=some (.cells #[v] t m)):w.cell? ⟨b,0,none⟩=some v:=by
 obtain⟨h1,n,h2,h3⟩:=hb
 have h:=(hI.core _ hp).fix b n h1 h3
 rw[hH] at h
 simp[World.cell?,h]
theorem Kept.trans {γ3:Gho} {w3:World} (h:Kept i γ w γ2 w2) (h':Kept i γ2 w2 γ3 w3):Kept i γ w γ3 w3:=by
 have e:∀b,b < γ.hs->(γ.bk b=.priv i\/∃m,m<=i/\γ.bk b=.fix m)->γ2.bk b=γ.bk b:=fun b hb q=>h.bk b hb fun j hj e=>by rcases q with q|⟨m,_,q⟩<;>(rw[q] at e;cases e);exact hj rfl
 refine⟨Nat.le_trans h.hs h'.hs,fun b hb hj=>?_,fun b hb q=>?_,h'.tape.trans h.tape,fun p q=>h'.ph p ⟨h.ph p q,q.2⟩,h'.col.trans h.col,fun p q=>Nat.le_trans (h.next p q) (h'.next p ⟨h.ph p q,q.2⟩)⟩
 ·have e1:=h.bk b hb hj
  exact(h'.bk b (Nat.lt_of_lt_of_le hb h.hs) fun j hj'=>by rw[e1];exact hj j hj').trans e1
 ·exact(h'.keep b (Nat.lt_of_lt_of_le hb h.hs) (by rw[e b hb q];exact q)).trans (h.keep b hb q)
theorem kept_pass (hI:GInv ty top γ w) (hp:γ.ph=some p) (h s:Nat):Kept i γ w (γ.pass p h) (w.setChan p.jobs 0 #[] false s s false) :=
 ⟨Nat.le_refl _,fun _ _ _=>rfl,fun b _ e=>heap_setChan _ _ _ _ _ _ _ _ fun q=>(by
  subst q;rw[(hI.core _ hp).bjobs] at e;rcases e with e|⟨m,_,e⟩<;>cases e),rfl,fun _ h=>h.1,rfl,fun _ _=>Nat.le_succ _⟩
theorem notcoll0 (hI:GInv ty top γ w) (hc:γ.col=some c) (hi:i=0) {x:Tag} (ht:γ.tag i=x) (hx:x≠.coll):False:=by
 subst hi
 exact hx (ht.symm.trans (hI.coll c hc).tag0)
theorem peek_result {kk:Int} {v:Value} {ok:Bool} (h:GResult i γ w false kk v ok γ' w') (hI:GInv ty top γ w) (ht:γ.tag i=.feed):ok=false/\γ'=γ/\w'=w/\((kk=-1/\v=undef)\/(kk=0/\γ.stp=true)):=by
 have no:∀ {x:Tag},γ.tag i=x->x≠.feed->False:=fun h h'=>h' (h.symm.trans ht)
 cases h with
 | job p s _ _ q=>exact(no q (by simp)).elim
 | out p _ _ q=>exact(no q (by simp)).elim
 | peek p _ _ _ _ h1 h2 h3 h4 h5=>exact⟨h3,h4,h5,.inl ⟨h1,h2⟩⟩
 | stop p _ _ _ h1 h2 h3 h4 h5=>exact⟨h2,h4,h5,.inr ⟨h1,h3⟩⟩
 | fed p h s _ _ _ q=>cases q
 | took c h x s h1 h2=>exact(notcoll0 hI h1 h2 ht (by simp)).elim
 | home c h1 h2=>exact(notcoll0 hI h1 h2 ht (by simp)).elim
 | gave c x s h1 h2 q=>exact(no q (by simp)).elim
theorem feed_result {kk:Int} {v:Value} {ok:Bool} (h:GResult i γ w true kk v ok γ' w') (hI:GInv ty top γ w) (hp:γ.ph=some p) (ht:γ.tag i=.feed):ok=false/\((kk=0/\v=undef/\∃h s,p.b<=h/\γ.tag h=.idle/\γ'=γ.pass p h/\w'=w.setChan p.jobs 0 #[] false s s false)\/(kk=1/\γ.stp=true/\γ'=γ/\w'=w)):=by
 have no:∀ {x:Tag},γ.tag i=x->x≠.feed->False:=fun h h'=>h' (h.symm.trans ht)
 cases h with
 | job p s _ _ q=>exact(no q (by simp)).elim
 | out p _ _ q=>exact(no q (by simp)).elim
 | peek p _ _ _ q=>cases q
 | stop p _ _ _ h1 h2 h3 h4 h5=>exact⟨h2,.inr ⟨h1,h3,h4,h5⟩⟩
 | fed p' h s q _ _ _ h1 h2 h3 h4 h5 h6 h7=>obtain rfl:=same_ph hp q;exact⟨h3,.inl ⟨h1,h2,h,s,h4,h5,h6,h7⟩⟩
 | took c h x s h1 h2=>exact(notcoll0 hI h1 h2 ht (by simp)).elim
 | home c h1 h2=>exact(notcoll0 hI h1 h2 ht (by simp)).elim
 | gave c x s h1 h2 q=>exact(no q (by simp)).elim
theorem idle_result {b:Bool} {kk:Int} {v:Value} {ok:Bool} (h:GResult i γ w b kk v ok γ' w') (hI:GInv ty top γ w) (hp:γ.ph=some p) (ht:γ.tag i=.idle) :
  (ok=true/\v=.int .i64 γ.next/\γ'=γ.pass p i/\γ.next < p.n/\∃s,w'=w.setChan p.jobs 0 #[] false s s false)\/(ok=false/\γ'=γ.setTag i .out/\w'=w):=by
 have no:∀ {x:Tag},γ.tag i=x->x≠.idle->False:=fun h h'=>h' (h.symm.trans ht)
 cases h with
 | job p' s q _ _ h1 h2 h3 h4 h5=>obtain rfl:=same_ph hp q;exact .inl ⟨h1,h2,h3,h4,s,h5⟩
 | out p _ _ _ h1 h2 h3=>exact .inr ⟨h1,h2,h3⟩
 | peek p _ _ q=>exact(no q (by simp)).elim
 | stop p _ _ q=>exact(no q (by simp)).elim
 | fed p h s _ _ q=>exact(no q (by simp)).elim
 | took c h x s h1 h2=>exact(notcoll0 hI h1 h2 ht (by simp)).elim
 | home c h1 h2=>exact(notcoll0 hI h1 h2 ht (by simp)).elim
 | gave c x s h1 h2 q=>exact(no q (by simp)).elim
theorem lives_loop {D:List Deferred} {K:List Item} (R:Nat->Array Value->Gho->World->Prop) {m:Nat} {tm:Array Value} (h0:R m tm γ w)
  (h:∀m,(∀m',m' < m->∀tm γ w,R m' tm γ w->LV P ty top Post i γ w (G (b.at ⟨tm,D⟩ K) cs))->∀tm γ w,R m tm γ w->LV P ty top Post i γ w (G (b.at ⟨tm,D⟩ K) cs)):LV P ty top Post i γ w (G (b.at ⟨tm,D⟩ K) cs):=by
 induction m using Nat.strongRecOn generalizing tm γ w with
 | _ m ih=>exact h m (fun m' hm tm γ w q=>ih m' hm q) tm γ w h0
end
end Go.Proofs.YtbicafgmfgdckaaDoor
namespace Go.Proofs.YtbicafgmfgdckaaDoor
open Go Go.Conc
open Go.ConcR (KK wgBlock WgAt stA smA rd wr mk DC0)
open Go.ConcN (sumTo upd upd_same upd_ne RelBy PermW WgLive)
section
variable {ty:TypeId} {top:Nat} {γ γ' γ2:Gho} {p:Ph} {c:Col} {w w' w2:World} {i j n:Nat} {P:Program} {Post:Value->World->Prop} {es:Array Event} {g g':Goroutine} {b:Frame} {a:Act} {k:List Item} {cs:List Frame}
structure Solo (γ:Gho) (w:World):Prop where
 ph:γ.ph=none
 col:γ.col=none
 tag:γ.tag 0=.solo
 deaf:γ.deaf 0=0
 hs:γ.hs=w.heap.size
 bk:∀b,b < γ.hs->γ.bk b=.priv 0\/(∃s,γ.bk b=.shd s)\/γ.bk b=.lock
theorem Solo.ng (s:Solo γ w):γ.tag 0≠.gone:=by rw[s.tag];simp
theorem Solo.ns (s:Solo γ w):¬(γ.tag 0).tied:=by rw[s.tag];exact fun h=>h
theorem Solo.rel (s:Solo γ w) (h:Rel 0 γ w γ2 w2):Solo γ2 w2/\w2.heap=w.heap/\w2.tape=w.tape/\γ2.hs=γ.hs/\γ2.cnt=γ.cnt/\∀b,b < γ.hs->γ2.bk b=γ.bk b:=by
 have l:=h.live s.ng
 obtain⟨e1,e2,e5⟩:=l.still rfl s.col s.ph
 have e3:∀b,b < γ.hs->γ2.bk b=γ.bk b:=fun b hb=>l.bk b hb fun j hj q=>by
  rcases s.bk b hb with e|⟨x,e⟩|e<;>(rw[e] at q;cases q)
  exact hj rfl
 exact⟨⟨l.pn s.ph (.inr s.col),l.col.trans s.col,h.tag.trans s.tag,h.deaf.trans s.deaf,by rw[e2,e1];exact s.hs,fun b hb=>by rw[e2] at hb;rw[e3 b hb];exact s.bk b hb⟩,e1,l.tape,e2,e5,e3⟩
structure Later2 (γ γ':Gho):Prop where
 hs:γ.hs<=γ'.hs
 cnt:γ'.cnt=γ.cnt
 bk:∀b,b < γ.hs->γ'.bk b=γ.bk b
theorem Later2.refl (γ:Gho):Later2 γ γ:=⟨Nat.le_refl _,rfl,fun _ _=>rfl⟩
theorem Later2.trans {γ3:Gho} (h:Later2 γ γ2) (h':Later2 γ2 γ3):Later2 γ γ3:=⟨Nat.le_trans h.hs h'.hs,h'.cnt.trans h.cnt,fun b hb=>(h'.bk b (Nat.lt_of_lt_of_le hb h.hs)).trans (h.bk b hb)⟩
theorem solo_own (s:Solo γ w) (hr:g.status=.running) (h:∀w2,w2.heap=w.heap->w2.tape=w.tape->∃g' w' es,stepG P true g w2=.go g' w' es/\Own (γ.S 0) (fun _=>False) w2 w' es /\
  ∀γ',Solo γ' w'->Later2 γ γ'->(∀b,γ.hs<=b->b < w'.heap.size->γ'.bk b=.priv 0)->LV P ty top Post 0 γ' w' g'):LV P ty top Post 0 γ w g:=by
 refine lives_own hr s.ns fun γ2 w2 hrl hI=>?_
 obtain⟨s2,e1,e2,e3,e5,e4⟩:=s.rel hrl
 obtain⟨g',w',es,h1,h2,h3⟩:=h w2 e1 e2
 have hS:=hrl.S s.ng
 refine⟨g',w',es,h1,?_,h3 _ ⟨s2.ph,s2.col,s2.tag,s2.deaf,rfl,fun b hb=>?_⟩ ⟨?_,e5,fun b hb=>?_⟩ fun b h4 h5=>?_⟩
 ·rw[hS];exact h2.mono fun _ q=>q.elim
 ·by_cases q:γ2.hs<=b
  ·left;simp[Gho.grown,q]
  ·rw[grown_bk (by omega)];exact s2.bk b (by omega)
 ·show γ.hs<=w'.heap.size
  have:=h2.size
  rw[s.hs,<- e1];exact this
 ·rw[grown_bk (by omega)];exact e4 b hb
 ·simp[Gho.grown,e3,h4]
theorem solo_mk {y:BK} (hy:(∃s,y=.shd s)\/y=.lock) (s:Solo γ w) (hr:g.status=.running) (h:∀w2,w2.heap=w.heap->w2.tape=w.tape->∃g' w',stepG P true g w2=.go g' w' #[]/\w'.heap.size=w2.heap.size+1/\w'.tape=w2.tape/\Passed w2 w'/\(∀b,b < w2.heap.size->w'.heap[b]?=w2.heap[b]?) /\
  ∀γ',Solo γ' w'->Later2 γ γ'->γ'.bk γ.hs=y->LV P ty top Post 0 γ' w' g'):LV P ty top Post 0 γ w g:=by
 refine lives_step hr s.ng fun γ2 w2 hrl hI hi=>?_
 obtain⟨s2,e1,e2,e3,e5,e4⟩:=s.rel hrl
 obtain⟨g',w',h1,h2,h3,hos,h4,h5⟩:=h w2 e1 e2
 refine .go g' w' #[] (γ2.mk1 y) h1 (do_mk hy hI ⟨s2.ph,.inl ⟨rfl,s2.col⟩⟩ h2 h3 h4 hos _) (h5 _ ⟨s2.ph,s2.col,s2.tag,s2.deaf,?_,fun b hb=>?_⟩ ⟨?_,e5,fun b hb=>?_⟩ ?_)
 ·show γ2.hs+1=_
  rw[h2,s2.hs]
 ·have hb':b < γ2.hs+1:=hb
  by_cases q:b=γ2.hs
  ·subst q;right;rw[show (γ2.mk1 y).bk γ2.hs=y from upd_same _ _ _];exact hy
  ·rw[show (γ2.mk1 y).bk b=γ2.bk b from upd_ne _ _ q];exact s2.bk b (by omega)
 ·show γ.hs<=γ2.hs+1
  omega
 ·rw[show (γ2.mk1 y).bk b=γ2.bk b from upd_ne _ _ (by omega)];exact e4 b hb
 ·rw[<- e3];exact upd_same _ _ _
theorem solo_goes (s:Solo γ w) (hr:g.status=.running) (h:∀w2,w2.heap=w.heap->w2.tape=w.tape->(stepG P true g w2).goes fun g' w' es=>Own (γ.S 0) (fun _=>False) w2 w' es /\
  ∀γ' w1,w1.heap=w'.heap->w1.tape=w'.tape->Solo γ' w1->Later2 γ γ'->(∀b,γ.hs<=b->b < w'.heap.size->γ'.bk b=.priv 0)->LV P ty top Post 0 γ' w1 g'):LV P ty top Post 0 γ w g :=
 solo_own s hr fun w2 e1 e2=>by
  obtain⟨g',w',es,h1,h2,h3⟩:=goes_inv (h w2 e1 e2)
  exact⟨g',w',es,h1,h2,fun γ'=>h3 γ' w' rfl rfl⟩
theorem solo_goes_mk {y:BK} (hy:(∃s,y=.shd s)\/y=.lock) (s:Solo γ w) (hr:g.status=.running) (h:∀w2,w2.heap=w.heap->w2.tape=w.tape->(stepG P true g w2).goes fun g' w' es=>((∃o,w'.heap=w2.heap.push o)/\w'.tape=w2.tape/\Passed w2 w'/\∀e∈es,False) /\
  ∀γ' w1,w1.heap=w'.heap->w1.tape=w'.tape->Solo γ' w1->Later2 γ γ'->γ'.bk γ.hs=y->LV P ty top Post 0 γ' w1 g'):LV P ty top Post 0 γ w g :=
 solo_mk hy s hr fun w2 e1 e2=>by
  obtain⟨g',w',es,h1,⟨⟨o,eo⟩,et,hos,h3⟩,h4⟩:=goes_inv (h w2 e1 e2)
  obtain rfl:=array_nil h3
  exact⟨g',_,h1,by rw[eo];simp,et,hos,(fun b hb=>by rw[eo,Array.getElem?_push,if_neg (Nat.ne_of_lt hb)]),fun γ'=>h4 γ' w' rfl rfl⟩
theorem own_push {S F:Nat->Prop} {w w':World} {o:Obj} {es:Array Event} (e:w'.heap=w.heap.push o) (et:w'.tape=w.tape) (eo:w'.os=w.os) (eu:w'.output=w.output) (he:∀e∈es,False):Own S F w w' es :=
 ⟨by rw[e];simp,et,eo,eu,(fun b hb _=>by rw[e,Array.getElem?_push,if_neg (Nat.ne_of_lt hb)]),fun e h=>(he e h).elim⟩
theorem own_set {S F:Nat->Prop} (w:World) (a:Addr) (v:Value) (hS:S a.block) {es:Array Event} (he:∀e∈es,e=⟨.cell a,true,false⟩):Own S F w (w.setCell a v) es :=
 ⟨by rw[size_cell];exact Nat.le_refl _,rfl,rfl,rfl,fun b _ hb=>heap_cell_ne _ _ _ fun q=>hb (by rw[q];exact hS),fun e h=>.inl ⟨a,by rw[he e h],by rw[he e h],.inl (.inl hS)⟩⟩
theorem heap_set_last {w:World} {A:Array Obj} {v u:Value} {t:TypeId} (h:w.heap=A.push (.cells #[u] t)):(w.setCell ⟨A.size,0,none⟩ v).heap=A.push (.cells #[v] t):=by
 refine Array.ext_getElem? fun b=>?_
 by_cases hb:b=A.size
 ·subst hb;rw[heap_setCell,if_pos rfl,h];simp
 ·rw[heap_cell_ne _ _ _ hb,h,Array.getElem?_push,Array.getElem?_push,if_neg hb,if_neg hb]
theorem stepG_gov {main:Bool} {ops:Array Oper} {l:Nat} {rest:List Nat} {o:Oper} {f:FuncId} {x:Operand} {ats:Array TypeId} {caps:Array Value}
  (ho:ops[l]?=some o) (hw:Region.wanted o (yielded ops a.tmps)=true) (hk:b.kind≠.early) (hop:o.op=.go { callee:=.value x,args:=#[],argTypes:=ats }) (hx:a.eval x=.func (.func f) #[] caps) :
  stepG P main (G (b.at a (.inRegion ops (l::rest)::k)) cs) w=.spawn (G (b.at (a.put o.dst undef) (.inRegion ops rest::k)) cs) (born P { target:=.fn (.func f) caps,args:=#[] }) w #[]:=by
 have hr:(execOp a.eval o).run P w=.ok (.spawn { target:=.fn (.func f) caps,args:=#[] }) w:=by
  unfold execOp
  simp[hop,resolve,Deferred.ofValue,hx]
 have he:(execOp a.eval o).events P w #[]=#[]:=by
  unfold execOp
  simp[hop,resolve,Deferred.ofValue,hx]
 rw[stepG_spawn ho hw hk hr rfl,array_nil (no_listed he)]
end
end Go.Proofs.YtbicafgmfgdckaaDoor
namespace Go.Proofs.YtbicafgmfgdckaaDoor
open Go Go.Conc
open Go.ConcR (KK wgBlock WgAt stA smA rd wr mk DC0)
open Go.ConcN (sumTo upd upd_same upd_ne RelBy PermW WgLive)
section
variable {ty:TypeId} {top:Nat} {γ γ' γ1 γ2:Gho} {p:Ph} {c:Col} {w w' w1 w2:World} {i j n:Nat} {P:Program} {Post:Value->World->Prop} {es:Array Event} {g g':Goroutine} {b:Frame} {a:Act} {k:List Item} {cs:List Frame}
structure Lon (i:Nat) (γ:Gho) (w:World):Prop where
 lone:Lonely i γ
 tag:γ.tag i=.solo\/γ.tag i=.pre
 deaf:γ.deaf i=0
 hs:γ.hs=w.heap.size
theorem Lon.ng (s:Lon i γ w):γ.tag i≠.gone:=by rcases s.tag with e|e<;>(rw[e];simp)
theorem Lon.ns (s:Lon i γ w):¬(γ.tag i).tied:=by rcases s.tag with e|e<;>(rw[e];exact fun h=>h)
theorem Solo.lon (s:Solo γ w):Lon 0 γ w:=⟨⟨s.ph,.inl ⟨rfl,s.col⟩⟩,.inl s.tag,s.deaf,s.hs⟩
structure LonLater (X:Nat->Prop) (i:Nat) (γ:Gho) (w:World) (γ':Gho) (w':World):Prop where
 hs:γ.hs<=γ'.hs
 cnt:γ'.cnt=γ.cnt
 bk:∀b,b < γ.hs->(∀j,j≠i->γ.bk b≠.priv j)->γ'.bk b=γ.bk b
 heap:∀b,b < γ.hs->¬X b->(γ.bk b=.priv i\/γ.bk b=.shd i\/(∃m,m<=i/\γ.bk b=.fix m)\/(i=0/\γ.bk b=.lock))->w'.heap[b]?=w.heap[b]?
 tape:w'.tape=w.tape
 col:γ'.col=γ.col
 tag:γ'.tag i=γ.tag i
theorem LonLater.refl (X:Nat->Prop) (i:Nat) (γ:Gho) (w:World):LonLater X i γ w γ w:=⟨Nat.le_refl _,rfl,fun _ _ _=>rfl,fun _ _ _ _=>rfl,rfl,rfl,rfl⟩
theorem own_same {X:Nat->Prop} (l:LonLater X i γ w γ' w') {b:Nat} (hb:b < γ.hs) (h:γ.bk b=.priv i\/γ.bk b=.shd i\/(∃m,m<=i/\γ.bk b=.fix m)\/(i=0/\γ.bk b=.lock)):γ'.bk b=γ.bk b:=l.bk b hb fun j hj e=>by
 rcases h with q|q|⟨m,_,q⟩|⟨_,q⟩<;>(rw[q] at e;cases e)
 exact hj rfl
theorem LonLater.trans {X Y Z:Nat->Prop} (h:LonLater X i γ w γ1 w1) (h':LonLater Y i γ1 w1 γ2 w2) (hX:∀b,X b->Z b) (hY:∀b,b < γ.hs->Y b->Z b):LonLater Z i γ w γ2 w2:=by
 refine⟨Nat.le_trans h.hs h'.hs,h'.cnt.trans h.cnt,fun b hb hj=>?_,fun b hb hx q=>?_,h'.tape.trans h.tape,h'.col.trans h.col,h'.tag.trans h.tag⟩
 ·have e1:=h.bk b hb hj
  exact(h'.bk b (Nat.lt_of_lt_of_le hb h.hs) fun j hj'=>by rw[e1];exact hj j hj').trans e1
 ·exact(h'.heap b (Nat.lt_of_lt_of_le hb h.hs) (fun r=>hx (hY b hb r)) (by rw[own_same h hb q];exact q)).trans (h.heap b hb (fun r=>hx (hX b r)) q)
theorem Lon.rel (s:Lon i γ w) (hI:GInv ty top γ2 w2) (h:Rel i γ w γ2 w2):Lon i γ2 w2/\LonLater (fun _=>False) i γ w γ2 w2:=by
 have l:=h.live s.ng
 obtain⟨lp,lc⟩:=s.lone
 have hnc:γ.nc i:=by
  rcases lc with⟨_,q⟩|⟨q,_⟩
  ·exact .inr q
  ·exact .inl q
 have hp2:=l.pn lp hnc
 have e:γ2.cnt=γ.cnt/\∀b,b < γ.hs->(γ.bk b=.shd i\/(i=0/\γ.bk b=.lock))->w2.heap[b]?=w.heap[b]?:=by
  rcases lc with⟨q1,q2⟩|⟨q1,c,q2,q3,_⟩
  ·obtain⟨r1,_,r3⟩:=l.still q1 q2 lp
   exact⟨r3,fun b _ _=>by rw[r1]⟩
  ·obtain⟨r1,r2⟩:=l.pre q1 c q2 q3 lp
   exact⟨r2,fun b hb q=>q.elim (r1 b hb) fun q=>absurd q.1 q1⟩
 refine⟨⟨⟨hp2,?_⟩,by rw[h.tag];exact s.tag,h.deaf.trans s.deaf,hI.hs⟩,l.hs,e.1,l.bk,fun b hb _ q=>?_,l.tape,l.col,h.tag⟩
 ·rcases lc with⟨q1,q2⟩|⟨q1,c,q2,q3,q4⟩
  ·exact .inl ⟨q1,l.col.trans q2⟩
  ·exact .inr ⟨q1,c,l.col.trans q2,q3,h.tag.trans q4⟩
 ·rcases q with q|q|q|q
  ·exact l.keep b hb (.inl q)
  ·exact e.2 b hb (.inl q)
  ·exact l.keep b hb (.inr q)
  ·exact e.2 b hb (.inr q)
structure Fact (i:Nat) (γ:Gho) (w:World) (b:Nat) (k:BK) (o:Obj):Prop where
 lt:b < γ.hs
 bk:γ.bk b=k
 heap:w.heap[b]?=some o
theorem Fact.next {X:Nat->Prop} {b:Nat} {k:BK} {o:Obj} (h:Fact i γ w b k o) (hk:k=.priv i\/k=.shd i) (l:LonLater X i γ w γ' w') (hx:¬X b):Fact i γ' w' b k o:=by
 have q:γ.bk b=.priv i\/γ.bk b=.shd i\/(∃m,m<=i/\γ.bk b=.fix m)\/(i=0/\γ.bk b=.lock):=by
  rw[h.bk]
  rcases hk with e|e
  ·exact .inl e
  ·exact .inr (.inl e)
 exact⟨Nat.lt_of_lt_of_le h.lt l.hs,(own_same l h.lt q).trans h.bk,(l.heap b h.lt hx q).trans h.heap⟩
theorem lon_push (sh:Bool) (s:Lon i γ w) (hr:g.status=.running) (h:∀w2,(stepG P (i==0) g w2).goes fun g' w' es=>∃o,w'.heap=w2.heap.push o/\w'.tape=w2.tape/\w'.os=w2.os/\w'.output=w2.output/\(∀e∈es,False) /\
  ∀γ' w1,Lon i γ' w1->LonLater (fun _=>False) i γ w γ' w1->γ.hs<=w2.heap.size->Fact i γ' w1 w2.heap.size (if sh then .shd i else .priv i) o->LV P ty top Post i γ' w1 g'):LV P ty top Post i γ w g:=by
 refine lives_step hr s.ng fun γ2 w2 hrl hI hi=>?_
 obtain⟨s2,l2⟩:=s.rel hI hrl
 obtain⟨g',w',es,hst,o,e1,e2,e3,e4,e5,hK⟩:=goes_inv (h w2)
 obtain rfl:=array_nil e5
 have hsz:w'.heap.size=w2.heap.size+1:=by rw[e1];simp
 have hold:∀b,b < w2.heap.size->w'.heap[b]?=w2.heap[b]?:=fun b hb=>by rw[e1,Array.getElem?_push,if_neg (Nat.ne_of_lt hb)]
 have hnew:w'.heap[w2.heap.size]?=some o:=by rw[e1,Array.getElem?_push,if_pos rfl]
 have hle:γ.hs<=w2.heap.size:=by rw[<- s2.hs];exact l2.hs
 cases sh with
 | true =>
  have bk':∀b,b < γ2.hs->(γ2.share i).bk b=γ2.bk b:=fun b hb=>upd_ne _ _ (by omega)
  have hl3:LonLater (fun _=>False) i γ2 w2 (γ2.share i) w':=⟨Nat.le_succ _,rfl,fun b hb _=>bk' b hb,fun b hb _ _=>hold b (by rw[<- s2.hs];exact hb),e2,rfl,rfl⟩
  refine .go g' w' #[] _ hst (do_share hI s2.lone hsz e2 hold (.of e3 e4) _) (hK _ _ ⟨s2.lone,s2.tag,s2.deaf,?_⟩ (l2.trans hl3 (fun _ q=>q) fun _ _ q=>q) hle ⟨?_,?_,hnew⟩)
  ·show γ2.hs+1=_
   rw[hsz,s2.hs]
  ·show _ < γ2.hs+1
   rw[s2.hs];exact Nat.lt_succ_self _
  ·rw[<- s2.hs];exact upd_same _ _ _
 | false =>
  have ho:Own (γ2.S i) (γ2.F i) w2 w' #[]:=own_push e1 e2 e3 e4 (by simp)
  have hl3:LonLater (fun _=>False) i γ2 w2 (γ2.grown i w') w':=⟨by show γ2.hs<=w'.heap.size;rw[hsz,s2.hs];exact Nat.le_succ _,rfl,fun b hb _=>grown_bk hb,fun b hb _ _=>hold b (by rw[<- s2.hs];exact hb),e2,rfl,rfl⟩
  exact .go g' w' #[] _ hst (do_own hI hi (by exact s2.ns) ho _) (hK _ _ ⟨s2.lone,s2.tag,s2.deaf,rfl⟩ (l2.trans hl3 (fun _ q=>q) fun _ _ q=>q) hle ⟨by show _ < w'.heap.size;rw[hsz];exact Nat.lt_succ_self _,grown_new (Nat.le_of_eq s2.hs),hnew⟩)
theorem lon_store {B:Nat} {v old:Value} {t:TypeId} (s:Lon i γ w) (hr:g.status=.running) (f:Fact i γ w B (.priv i) (.cells #[old] t (0,0))) (h:∀w2,w2.heap[B]?=some (.cells #[old] t (0,0))->(stepG P (i==0) g w2).goes fun g' w' es=>w'=w2.setCell ⟨B,0,none⟩ v/\(∀e∈es,e=⟨.cell ⟨B,0,none⟩,true,false⟩) /\
  ∀γ' w1,Lon i γ' w1->LonLater (fun b=>b=B) i γ w γ' w1->Fact i γ' w1 B (.priv i) (.cells #[v] t (0,0))->LV P ty top Post i γ' w1 g'):LV P ty top Post i γ w g:=by
 refine lives_step hr s.ng fun γ2 w2 hrl hI hi=>?_
 obtain⟨s2,l2⟩:=s.rel hI hrl
 have f2:=f.next (.inl rfl) l2 id
 obtain⟨g',w',es,hst,e1,e2,hK⟩:=goes_inv (h w2 f2.heap)
 subst e1
 have ho:Own (γ2.S i) (γ2.F i) w2 (w2.setCell ⟨B,0,none⟩ v) es:=own_set w2 _ _ ⟨f2.lt,f2.bk⟩ e2
 have hsz:(w2.setCell ⟨B,0,none⟩ v).heap.size=w2.heap.size:=size_cell _ _ _
 have hl3:LonLater (fun b=>b=B) i γ2 w2 (γ2.grown i (w2.setCell ⟨B,0,none⟩ v)) (w2.setCell ⟨B,0,none⟩ v):=⟨by show γ2.hs<=(w2.setCell ⟨B,0,none⟩ v).heap.size;rw[hsz,s2.hs];exact Nat.le_refl _,rfl,fun b hb _=>grown_bk hb,fun b hb hx _=>heap_cell_ne _ _ _ hx,rfl,rfl,rfl⟩
 refine .go g' _ es _ hst (do_own hI hi (by exact s2.ns) ho _) (hK _ _ ⟨s2.lone,s2.tag,s2.deaf,rfl⟩ (l2.trans hl3 (fun _ q=>q.elim) fun _ _ q=>q) ⟨by show B < (w2.setCell ⟨B,0,none⟩ v).heap.size;rw[hsz,<- s2.hs];exact f2.lt,(grown_bk f2.lt).trans f2.bk,?_⟩)
 rw[heap_setCell,if_pos rfl,f2.heap]
 simp
theorem lon_enter (s:Lon i γ w) (hr:g.status=.running) (hs:∀w,stepG P (i==0) g w=.go g' w #[]) (B:∀γ2 w2,Lon i γ2 w2->LonLater (fun _=>False) i γ w γ2 w2->GInv ty top γ2 w2->∃p Fx,p.f=i/\Begins ty top γ2 w2 p Fx /\
  (GInv ty top (γ2.enter p Fx) w2->LV P ty top Post i (γ2.enter p Fx) w2 g')):LV P ty top Post i γ w g:=by
 refine lives_step hr s.ng fun γ2 w2 hrl hI hi=>?_
 obtain⟨s2,l2⟩:=s.rel hI hrl
 obtain⟨p,Fx,rfl,hB,hK⟩:=B γ2 w2 s2 l2 hI
 have hDo:=do_enter (P:=P) (Post:=Post) hI hB (mayWake P g=true)
 exact .go g' w2 #[] (γ2.enter p Fx) (hs w2) hDo (hK hDo.inv)
end
end Go.Proofs.YtbicafgmfgdckaaDoor
namespace Go.Proofs.YtbicafgmfgdckaaDoor
open Go Go.Conc Go.Conc.Lib Go.ConcR.Gen
open Go.ConcR (KK wgBlock WgAt stA smA rd wr mk DC0)
open Go.ConcN (sumTo upd upd_same upd_ne RelBy PermW WgLive)
section
variable {ty:TypeId} {top:Nat} {γ γ' γ2:Gho} {p:Ph} {w w' w2:World} {i j k n:Nat} {Post:Value->World->Prop} {es:Array Event} {g g':Goroutine}
def FeedAt (p:Ph) (i:Nat) (γ0:Gho) (w0:World) (m:Nat) (tm:Array Value) (γ:Gho) (w:World):Prop :=
 ∃x:Nat,∃v6 v10 v11 v12 v13 v14 v15 v16 v17 v18 v19 v20 v21 v22 v23:Value,m=p.n - x/\x<=p.n/\tm=#[.int .i64 p.n,.chan (some p.jobs),.chan (some p.stop),undef,undef,undef,v6,.chan (some p.jobs),.int .i64 p.n,.int .i64 x,v10,v11,v12,v13,v14,v15,v16,v17,v18,v19,v20,v21,v22,v23]/\γ.ph=some p/\γ.tag i=.feed/\γ.deaf i=0/\γ.next=x/\Kept i γ0 w0 γ w
set_option maxRecDepth 100000 in
set_option maxHeartbeats 4000000 in
theorem lives_feed {c:Frame} {cs:List Frame} (hp:γ.ph=some p) (hf:p.f=i) (ht:γ.tag i=.feed) (hd:γ.deaf i=0) (h0:γ.next=0) (hb:p.n<=1000000)
  (hK:∀γ' w',Kept i γ w γ' w'->γ'.ph=some p->γ'.tag i=.shut->γ'.deaf i=0->GInv ty top γ' w'->LV Tryd.prog ty top Post i γ' w' (G (c.finish (.tuple #[])) cs)) :
  LV Tryd.prog ty top Post i γ w (G ((base 30).at ⟨#[.int .i64 p.n,.chan (some p.jobs),.chan (some p.stop)]++Array.replicate 21 undef,[]⟩ [.code (Tryd.f30.body.getD .skip)]) (c::cs)):=by
 have hg:γ.tag i≠.gone:=by rw[ht];simp
 have hon:i≠0\/p.f=0:=by rw[<- hf];exact(on_f hp).2
 simp only[Tryd.f30,Option.getD_some]
 walk_nrm;refine lsq hg ?_;refine lrg hg ?_;simp only[ix,Nat.reduceAdd];refine lop hg rfl rfl (by k_ne) fun v W H=>?_;go_simp;refine H _ _ rfl (by simp[go_sem]) ?_;clear H W v;try walk_nrm
 refine lives_ctl rfl hg (fun _=>stepG_defer_close rfl rfl (by k_ne) rfl) ?_
 (try walk_nrm);refine len hg ?_;refine lsq hg ?_;refine lrg hg ?_;simp only[ix,Nat.reduceAdd];(iterate 2 (refine lop hg rfl rfl (by k_ne) fun v W H=>?_;go_simp;refine H _ _ rfl (by simp[go_sem]) ?_;clear H W v;try walk_nrm));refine len hg ?_
 refine lives_ctl rfl hg (fun _=>stepG_block) ?_
 refine lives_ctl rfl hg (fun _=>stepG_loop) ?_
 refine lives_loop (FeedAt p i γ w) (m:=p.n) ⟨0,_,_,_,_,_,_,_,_,_,_,_,_,_,_,_,by omega,by omega,rfl,hp,ht,hd,h0,.refl _ _ _⟩ fun m ih tm γ1 w1 h=>?_
 clear ht hg hp hd h0
 obtain⟨x,v6,v10,v11,v12,v13,v14,v15,v16,v17,v18,v19,v20,v21,v22,v23,rfl,hx,rfl,hp,ht,hd,hnx,hkp⟩:=h
 have hg:γ1.tag i≠.gone:=by rw[ht];simp
 refine lsq hg ?_;refine lrg hg ?_;simp only[ix,Nat.reduceAdd];refine lop hg rfl rfl (by k_ne) fun v W H=>?_;go_simp;refine H _ _ rfl (by simp[go_sem]) ?_;clear H W v;(try walk_nrm);refine len hg ?_
 by_cases hxn:x < p.n
 ·simp only[hxn,decide_true]
  refine lsq hg ?_;refine lct hg rfl ?_;refine lsk hg ?_;refine lsq hg ?_
  refine lives_ctl rfl hg (fun _=>stepG_block) ?_
  refine lsq hg ?_;refine lrg hg ?_;simp only[ix,Nat.reduceAdd];(iterate 2 (refine lop hg rfl rfl (by k_ne) fun v W H=>?_;go_simp;refine H _ _ rfl (by simp[go_sem]) ?_;clear H W v;try walk_nrm));refine len hg ?_;refine lsq hg ?_;refine lsq hg ?_;refine lrg hg ?_;simp only[ix,Nat.reduceAdd];refine lop hg rfl rfl (by k_ne) fun v W H=>?_;go_simp;refine H _ _ rfl (by simp[go_sem]) ?_;clear H W v;(try walk_nrm);refine len hg ?_;refine lsq hg ?_;refine lrg hg ?_;simp only[ix,Nat.reduceAdd]
  refine lives_comm (cases:=#[rcase p.stop (.agg #[])]) (blocking:=false) (shape:=.select) rfl rfl (by k_ne) hg (fun _=>by kernel_rfl) (fun _=>by kernel_rfl) (fun γ2 w2 hrl hI=>.peek p _ ((hrl.live hg).ph _ ⟨hp,hon⟩) hf.symm (hrl.tag.trans ht) rfl rfl) fun γ2 w2 hrl hI kk v ok γ3 w3 hR hI3=>?_
  have l:=hrl.live hg
  have hp2:=l.ph _ ⟨hp,hon⟩
  have ht2:=hrl.tag.trans ht
  have hd2:=hrl.deaf.trans hd
  have hnx2:γ2.next=x:=(l.feed _ ⟨hp,hon⟩ hf).1.trans hnx
  have hkp2:=hkp.trans l.kept
  obtain⟨rfl,rfl,rfl,hpk⟩:=peek_result hR hI ht2
  rcases hpk with⟨rfl,rfl⟩|⟨rfl,hst⟩
  rotate_left
  ·have hg:γ3.tag i≠.gone:=by rw[ht2];simp
   obtain⟨u,hu⟩:∃u,commResult #[rcase p.stop (.agg #[])] .select 0 v false=.tuple #[.int .i64 0,.bool false,u]:=⟨v,by first|rfl|kernel_rfl⟩
   rw[hu]
   clear hR hrl l ih hp ht hd;walk_nrm;(iterate 2 (refine lop hg rfl rfl (by k_ne) fun v W H=>?_;go_simp;refine H _ _ rfl (by simp[go_sem]) ?_;clear H W v;try walk_nrm));refine len hg ?_
   refine lives_ctl rfl hg (fun _=>stepG_block) ?_
   refine lct hg rfl ?_
   refine lives_ctl rfl hg (fun _=>stepG_ret') ?_
   refine lives_close rfl hp2 hf ht2 (.inr hst) fun γ' w' hr1 hp1 ht1 hd1 hI1=>?_
   refine lives_ctl rfl (by rw[ht1];simp) (fun w2=>stepG_leave rfl rfl Tryd.func30 (results_none rfl _ _ _) (by kernel_rfl)) ?_
   exact hK γ' w' (hkp2.trans hr1.kept) hp1 ht1 (hd1.trans hd2) hI1
  clear hR hrl l hp ht hd hnx hkp hg hI
  have hg:γ3.tag i≠.gone:=by rw[ht2];simp
  rw[show commResult #[rcase p.stop (.agg #[])] .select (-1) undef false=.tuple #[.int .i64 (-1),.bool false,.agg #[]] from by kernel_rfl]
  walk_nrm;(iterate 2 (refine lop hg rfl rfl (by k_ne) fun v W H=>?_;go_simp;refine H _ _ rfl (by simp[go_sem]) ?_;clear H W v;try walk_nrm));refine len hg ?_
  refine lives_ctl rfl hg (fun _=>stepG_block) ?_
  refine lcf hg rfl ?_;refine lsk hg ?_
  refine lives_ctl rfl hg (fun _=>stepG_inBlock) ?_
  refine lsq hg ?_;refine lsq hg ?_;refine lsq hg ?_;refine lrg hg ?_;simp only[ix,Nat.reduceAdd];refine lop hg rfl rfl (by k_ne) fun v W H=>?_;go_simp;refine H _ _ rfl (by simp[go_sem]) ?_;clear H W v;(try walk_nrm);refine len hg ?_;refine lrg hg ?_;simp only[ix,Nat.reduceAdd];refine lop hg rfl rfl (by k_ne) fun v W H=>?_;go_simp;refine H _ _ rfl (by simp[go_sem]) ?_;clear H W v;(try walk_nrm);refine len hg ?_;refine lrg hg ?_;simp only[ix,Nat.reduceAdd];refine lop hg rfl rfl (by k_ne) fun v W H=>?_;go_simp;refine H _ _ rfl (by simp[go_sem]) ?_;clear H W v;(try walk_nrm);refine len hg ?_;refine lsq hg ?_;refine lrg hg ?_;simp only[ix,Nat.reduceAdd]
  refine lives_comm (cases:=#[scase p.jobs (.int .i64 x) (.int .i64 0),rcase p.stop (.agg #[])]) (blocking:=true) (shape:=.select) rfl rfl (by k_ne) hg (fun _=>by kernel_rfl) (fun _=>by kernel_rfl) (fun γ4 w4 hrl hI=>?_) fun γ4 w4 hrl hI kk v ok γ5 w5 hR hI5=>?_
  ·have l:=hrl.live hg
   have e:γ4.next=x:=(l.feed _ ⟨hp2,hon⟩ hf).1.trans hnx2
   exact .feed p _ _ (l.ph _ ⟨hp2,hon⟩) hf.symm (hrl.tag.trans ht2) rfl (by rw[e];exact hxn) (by rw[e])
  have l:=hrl.live hg
  have hp4:=l.ph _ ⟨hp2,hon⟩
  have ht4:=hrl.tag.trans ht2
  have hd4:=hrl.deaf.trans hd2
  have hnx4:γ4.next=x:=(l.feed _ ⟨hp2,hon⟩ hf).1.trans hnx2
  have hkp4:=hkp2.trans l.kept
  obtain⟨rfl,hfd⟩:=feed_result hR hI hp4 ht4
  rcases hfd with⟨rfl,rfl,h,s,hbh,hidle,rfl,rfl⟩|⟨rfl,hst,rfl,rfl⟩
  rotate_left
  ·have hg:γ5.tag i≠.gone:=by rw[ht4];simp
   obtain⟨u,hu⟩:∃u,commResult #[scase p.jobs (.int .i64 x) (.int .i64 0),rcase p.stop (.agg #[])] .select 1 v false=.tuple #[.int .i64 1,.bool false,u]:=⟨v,by first|rfl|kernel_rfl⟩
   rw[hu]
   clear hR hrl l ih hp2 ht2 hd2 hkp2;walk_nrm;(iterate 3 (refine lop hg rfl rfl (by k_ne) fun v W H=>?_;go_simp;refine H _ _ rfl (by simp[go_sem]) ?_;clear H W v;try walk_nrm));refine len hg ?_
   refine lives_ctl rfl hg (fun _=>stepG_block) ?_
   refine lcf hg rfl ?_;refine lct hg rfl ?_
   refine lives_ctl rfl hg (fun _=>stepG_ret') ?_
   refine lives_close rfl hp4 hf ht4 (.inr hst) fun γ' w' hr1 hp1 ht1 hd1 hI1=>?_
   refine lives_ctl rfl (by rw[ht1];simp) (fun w2=>stepG_leave rfl rfl Tryd.func30 (results_none rfl _ _ _) (by kernel_rfl)) ?_
   exact hK γ' w' (hkp4.trans hr1.kept) hp1 ht1 (hd1.trans hd4) hI1
  replace hkp4:=hkp4.trans (kept_pass hI hp4 h s)
  have hne:i≠h:=fun e=>by subst e;rw[ht4] at hidle;cases hidle
  have ht5:(γ4.pass p h).tag i=.feed:=(upd_ne _ _ hne).trans ht4
  have hd5:(γ4.pass p h).deaf i=0:=hd4
  have hnx5:(γ4.pass p h).next=x+1:=by show γ4.next+1=_;rw[hnx4]
  have hp6:(γ4.pass p h).ph=some p:=hp4
  generalize γ4.pass p h=γ6,w4.setChan p.jobs 0 #[] false s s false=w6 at hkp4 ht5 hd5 hnx5 hp6 hI5 ⊢
  clear hR hrl l hp2 ht2 hd2 hnx2 hkp2 hg hI hp4 ht4 hd4 hnx4
  have hg:γ6.tag i≠.gone:=by rw[ht5];simp
  rw[show commResult #[scase p.jobs (.int .i64 x) (.int .i64 0),rcase p.stop (.agg #[])] .select 0 undef false=.tuple #[.int .i64 0,.bool false,.agg #[]] from by kernel_rfl]
  walk_nrm;(iterate 3 (refine lop hg rfl rfl (by k_ne) fun v W H=>?_;go_simp;refine H _ _ rfl (by simp[go_sem]) ?_;clear H W v;try walk_nrm));refine len hg ?_
  refine lives_ctl rfl hg (fun _=>stepG_block) ?_
  refine lct hg rfl ?_;refine lsk hg ?_
  refine lives_ctl rfl hg (fun _=>stepG_inBlock) ?_
  refine lives_ctl rfl hg (fun _=>stepG_inBlock) ?_
  refine lrg hg ?_;simp only[ix,Nat.reduceAdd];(iterate 2 (refine lop hg rfl rfl (by k_ne) fun v W H=>?_;go_simp;refine H _ _ rfl (by simp[go_sem]) ?_;clear H W v;try walk_nrm));refine len hg ?_
  refine lives_ctl rfl hg (fun _=>stepG_inLoop) ?_
  rw[show IntKind.i64.wrap ((x:Int)+1)=((x+1:Nat):Int) from by rw[IntKind.wrap_i64];omega]
  refine ih (p.n - (x+1)) (by omega) _ _ _ ⟨x+1,_,_,_,_,_,_,_,_,_,_,_,_,_,_,_,rfl,by omega,rfl,hp6,ht5,hd5,hnx5,hkp4⟩
 ·simp only[hxn,decide_false]
  refine lsq hg ?_;refine lcf hg rfl ?_
  refine lives_ctl rfl hg (fun _=>stepG_exit rfl) ?_
  refine lives_ctl rfl hg (fun _=>stepG_end) ?_
  refine lives_close rfl hp hf ht (.inl (by omega)) fun γ' w' hr1 hp1 ht1 hd1 hI1=>?_
  refine lives_ctl rfl (by rw[ht1];simp) (fun w2=>stepG_leave rfl rfl Tryd.func30 (results_none rfl _ _ _) (by kernel_rfl)) ?_
  exact hK γ' w' (hkp.trans hr1.kept) hp1 ht1 (hd1.trans hd) hI1
end
end Go.Proofs.YtbicafgmfgdckaaDoor
