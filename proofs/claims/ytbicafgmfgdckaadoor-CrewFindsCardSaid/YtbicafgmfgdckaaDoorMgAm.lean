/- The crew's pact: the feeder's Add, and its Wait. For any program. A worker's Done up to its release, whatever the others do beside the group's block. For any program. The crew's pact: a worker's Done, and its end. For any program. The crew's pact: words for walks. For any program. A deferred 'close' of a channel. For any program. -/
import Derived.Test.YtbicafgmfgdckaaDoorMgAl
import Derived.Test.YtbicafgmfgdckaaDoorMgAi
import Derived.KernelRfl
import Derived.Conc.WgGenN3
import Derived.Conc.WgGenN2
import Derived.Conc.Walk
import Derived.Conc.Listed
import Derived.Conc.DeferLaws
import Derived.Conc.EventLaws
import Derived.Conc.CrowdComm
import Derived.Conc.EntryLaws
namespace Go.Proofs.YtbicafgmfgdckaaDoor
open Go Go.Conc Go.Conc.Lib Go.ConcR.Gen
open Go.ConcR (KK wgBlock WgAt stA smA rd wr mk DC0)
open Go.ConcN (sumTo upd upd_same upd_ne RelBy PermW WgLive)

section
variable {ty:TypeId} {top:Nat} {γ γ' γ2:Gho} {p:Ph} {c:Col} {w w' w2:World} {i j k n:Nat} {P:Program} {Post:Value->World->Prop} {es:Array Event} {g g':Goroutine}
theorem on_f (hp:γ.ph=some p):γ.on p.f p:=⟨hp,by
 by_cases h:p.f=0
 ·exact .inr h
 ·exact .inl h⟩
theorem relL_wg (hI:GInv ty top γ w) (hp:γ.ph=some p) (e:Tags γ γ') (hv:vcT γ'.tag p<=vcT γ.tag p) (ht:w'.tape=w.tape) (hh:∀b,b≠p.wg->w'.heap[b]?=w.heap[b]?):RelL i γ w γ' w':=by
 have hC:=hI.core _ hp
 have e1:γ'.bk=γ.bk:=by rw[e]
 have e3:γ'.hs=γ.hs:=by rw[e]
 have e5:γ'.ph=γ.ph:=by rw[e]
 have noph:∀ {q:Prop},γ.ph=none->q:=fun q=>by rw[hp] at q;cases q
 refine⟨by rw[e3];exact Nat.le_refl _,fun _ _ _=>by rw[e1],fun b h1 h2=>by rw[e3] at h1;rw[e1] at h2;exact⟨h1,h2⟩,fun b hb e=>hh b fun q=>?_,ht,fun _ q=>e5.trans q.1,fun q=>noph q,by rw[e],fun p' hp' _=>⟨by rw[e],?_⟩,fun _ _ q=>noph q,fun _ _ _ _ q=>noph q,(fun _ _=>by rw[e];exact Nat.le_refl _),(fun _ _ x=>by rw[e]),(fun _ _ q=>by rw[e];exact q),(fun _=>by rw[e]),fun p' hp' hk=>.of (c1:=by rw[e]) (by rw[e]) fun _=>by
  obtain rfl:=same_ph hp hp'.1
  simp only[World.cell?,hh p.out (fun r=>by have:=(hC.seek hk).bout;rw[r,hC.bwg] at this;cases this)]⟩
 ·subst q;rw[hC.bwg] at e;rcases e with e|⟨m,_,e⟩<;>cases e
 ·obtain rfl:=same_ph hp hp'.1
  exact hv
theorem setTag_at (γ:Gho) (i:Nat) (x:Tag):(γ.setTag i x).tag i=x:=upd_same _ _ _
theorem setDeaf_at (γ:Gho) (i d:Nat):(γ.setDeaf i d).deaf i=d:=upd_same _ _ _
theorem relL_deaf (γ:Gho) (w:World) (k d:Nat):RelL i γ w (γ.setDeaf k d) w:=⟨Nat.le_refl _,fun _ _ _=>rfl,fun _ h1 h2=>⟨h1,h2⟩,fun _ _ _=>rfl,rfl,fun _ h=>h.1,fun h _=>h,rfl,fun _ _ _=>⟨rfl,Nat.le_refl _⟩,fun _ _ _=>⟨rfl,rfl,rfl⟩,fun _ _ _ _ _=>⟨fun _ _ _=>rfl,rfl⟩,fun _ _=>Nat.le_refl _,fun _ _ _=>Iff.rfl,fun _ _ h=>h,fun _=>rfl,fun _ _ _=>.of (c1:=rfl) rfl fun _=>rfl⟩
theorem relL_tag (hI:GInv ty top γ w) (hp:γ.ph=some p) (x:Tag) (ht:w'.tape=w.tape) (hh:∀b,b≠p.wg->w'.heap[b]?=w.heap[b]?):RelL i γ w (γ.setTag p.f x) w':=by
 refine relL_wg hI hp (.set _ _ _) ?_ ht hh
 show vcT (upd γ.tag p.f x) p<=_
 rw[vc_out _ (hI.core _ hp).fd]
 exact Nat.le_refl _
section
variable {L:WgLink} {b₀:Frame} {a₀:Act} {ops₀:Array Oper} {i₀:Nat} {rest₀:List Nat} {k₀:List Item} {cs:List Frame}
abbrev Cont (b₀:Frame) (a₀:Act) (ops₀:Array Oper) (i₀:Nat) (rest₀:List Nat) (k₀:List Item) (cs:List Frame):Goroutine:=G (b₀.at (a₀.put ((ops₀[i₀]?).bind (·.dst)) (.tuple #[])) (.inRegion ops₀ rest₀::k₀)) cs
theorem deaf_on (d:Nat):deafBehind d #[mk .disable]=d+1:=rfl
theorem deaf_off (d:Nat):deafBehind (d+1) #[mk .enable]=d:=rfl
theorem add_tags {γ:Gho} {i j q:Nat} (h:γ.tag i=.add j q):γ.tag i≠.gone/\γ.tag i≠.idle/\γ.tag i≠.feed/\γ.tag i≠.coll/\∀x,γ.tag i≠.give x:=by rw[h];simp
theorem mute_word {m:Mark} (h:m=.disable\/m=.enable):∀e∈#[mk m],Event.mute e=true:=fun e he=>by
 simp only[List.mem_toArray,List.mem_singleton] at he
 subst he
 rcases h with rfl|rfl<;>rfl
set_option maxRecDepth 100000 in
theorem rep115 (a b:Value):#[a,b]++Array.replicate 115 undef=#[a,b,undef,undef,undef,undef,undef,undef,undef,undef,undef,undef,undef,undef,undef,undef,undef,undef,undef,undef,undef,undef,undef,undef,undef,undef,undef,undef,undef,undef,undef,undef,undef,undef,undef,undef,undef,undef,undef,undef,undef,undef,undef,undef,undef,undef,undef,undef,undef,undef,undef,undef,undef,undef,undef,undef,undef,undef,undef,undef,undef,undef,undef,undef,undef,undef,undef,undef,undef,undef,undef,undef,undef,undef,undef,undef,undef,undef,undef,undef,undef,undef,undef,undef,undef,undef,undef,undef,undef,undef,undef,undef,undef,undef,undef,undef,undef,undef,undef,undef,undef,undef,undef,undef,undef,undef,undef,undef,undef,undef,undef,undef,undef,undef,undef,undef,undef]:=by kernel_rfl
theorem lives_add (H:WgLib P L) (hp:γ.ph=some p) (ht:γ.tag p.f=.add j 0) (hj:j < p.W) (hd:γ.deaf p.f=0) (hI:GInv L.tWg top γ w)
  (hK:∀γ' w',RelL p.f γ w γ' w'->γ'.tag p.f=.add j 1->γ'.deaf p.f=0->GInv L.tWg top γ' w'->LV P L.tWg top Post p.f γ' w' (Cont b₀ a₀ ops₀ i₀ rest₀ k₀ cs)) :
  LV P L.tWg top Post p.f γ w (G ((base L.add).at ⟨#[.pointer (some ⟨p.wg,0,none⟩),.int .i64 1]++Array.replicate 115 undef,[]⟩ [.code (body_add L)]) (b₀.at a₀ (.inRegion ops₀ (i₀::rest₀)::k₀)::cs)):=by
 have hwl:WgLive L.tWg p.wg w:=let ⟨st,sm,h,_⟩:=(hI.core _ hp).wgm;⟨st,sm,h⟩
 have hsmall:=(hI.core _ hp).small
 have fin:∀γ3 w3 g3,RelL p.f γ w γ3 w3->γ3.tag p.f=.add j 1->γ3.deaf p.f=1->GInv L.tWg top γ3 w3->GM P (p.f==0) L.tWg p.wg (AtWord P (p.f==0) .enable (GM P (p.f==0) L.tWg p.wg fun g _=>g=Cont b₀ a₀ ops₀ i₀ rest₀ k₀ cs)) g3 w3->LV P L.tWg top Post p.f γ3 w3 g3:=by
  intro γ3 w3 g3 hr3 ht3 hd3 hI3 ⟨n3,hG3⟩
  refine lives_goes (p:=p) hG3 (on_f (hr3.ph _ (on_f hp))) (add_tags ht3).1 hI3 fun γ4 w4 g4 hr4 hI4 hi4 ⟨hrun,g5,hst,n5,hG5⟩=>⟨hrun,?_⟩
  have ht4:γ4.tag p.f=.add j 1:=hr4.tag.trans ht3
  have hd4:γ4.deaf p.f=0+1:=hr4.deaf.trans hd3
  have hDo:=do_mute (P:=P) (Post:=Post) hI4 hi4 (mute_word (.inr rfl)) (.inr (add_tags ht4).2) (mayWake P g4=true)
  rw[hd4,deaf_off] at hDo
  have hr5:=((hr3.trans (hr4.live (add_tags ht3).1)).trans (relL_deaf γ4 w4 p.f 0))
  refine .go g5 w4 _ _ hst hDo (lives_goes2 (p:=p) hG5 (on_f (hr5.ph _ (on_f hp))) (add_tags (show (γ4.setDeaf p.f 0).tag p.f=_ from ht4)).1 hDo.inv fun γ6 w6 g6 hr6 hI6 e6=>?_)
  rw[e6]
  exact hK γ6 w6 (hr5.trans (hr6.live (add_tags (show (γ4.setDeaf p.f 0).tag p.f=_ from ht4)).1)) (hr6.tag.trans ht4) (hr6.deaf.trans (upd_same _ _ _)) hI6
 have go:∀(v:Nat) (Nx:Goroutine->World->Prop),v=j->(∀γ3 w3 g3,RelL p.f γ w γ3 w3->γ3.tag p.f=.add j 1->γ3.deaf p.f=1->GInv L.tWg top γ3 w3->Nx g3 w3->LV P L.tWg top Post p.f γ3 w3 g3)->∀g,GM P (p.f==0) L.tWg p.wg (AtWord P (p.f==0) .disable (GM P (p.f==0) L.tWg p.wg (AtAdd P (p.f==0) L.tWg p.wg v Nx))) g w->LV P L.tWg top Post p.f γ w g:=by
  intro v Nx ev hN g ⟨n1,hG1⟩
  subst ev
  refine lives_goes (p:=p) hG1 (on_f hp) (add_tags ht).1 hI fun γ1 w1 g1 hr1 hI1 hi1 ⟨hrun,g2,hst,n2,hG2⟩=>⟨hrun,?_⟩
  have ht1:γ1.tag p.f=.add v 0:=hr1.tag.trans ht
  have hd1:γ1.deaf p.f=0:=hr1.deaf.trans hd
  have hDo:=do_mute (P:=P) (Post:=Post) hI1 hi1 (mute_word (.inl rfl)) (.inr (add_tags ht1).2) (mayWake P g1=true)
  rw[hd1,deaf_on] at hDo
  have hr2:=(hr1.live (add_tags ht).1).trans (relL_deaf γ1 w1 p.f 1)
  have ht2:(γ1.setDeaf p.f 1).tag p.f=.add v 0:=ht1
  refine .go g2 w1 _ _ hst hDo (lives_goes (p:=p) hG2 (on_f (hr2.ph _ (on_f hp))) (add_tags ht2).1 hDo.inv fun γ3 w3 g3 hr3 hI3 hi3 ⟨hrun3,h3⟩=>⟨hrun3,?_⟩)
  have hr3':=hr2.trans (hr3.live (add_tags ht2).1)
  have hp3:=hr3'.ph _ (on_f hp)
  obtain⟨hwg,hDo3⟩:=do_add (P:=P) (Post:=Post) hI3 hp3 (hr3.tag.trans ht2) hj (mayWake P g3=true)
  obtain⟨g4,hst4,hN4⟩:=h3 hwg
  refine .go g4 _ _ _ hst4 hDo3 (hN _ _ g4 (hr3'.trans (relL_tag hI3 hp3 _ rfl fun b hb=>heap_cell_ne _ _ _ hb)) (upd_same _ _ _) ?_ hDo3.inv hN4)
  show γ3.deaf p.f=1
  exact hr3.deaf.trans (setDeaf_at _ _ _)
 rw[rep115]
 rcases Nat.eq_zero_or_pos j with rfl|hj1
 ·refine go 0 _ rfl (fun γ3 w3 g3 hr3 ht3 hd3 hI3 ⟨n3,hG3⟩=>?_) _ (add_first (main:=p.f==0) (Next:=fun g _=>g=Cont b₀ a₀ ops₀ i₀ rest₀ k₀ cs) H (fun _ _=>rfl) w hwl)
  refine lives_goes (p:=p) hG3 (on_f (hr3.ph _ (on_f hp))) (add_tags ht3).1 hI3 fun γ4 w4 g4 hr4 hI4 hi4 ⟨hrun,g5,hst,hG5⟩=>⟨hrun,?_⟩
  have hr4':=hr3.trans (hr4.live (add_tags ht3).1)
  have hDo:=do_looks (P:=P) (Post:=Post) (es:=#[mk (.read (smA p.wg))]) hI4 (hr4'.ph _ (on_f hp)) (fun e he=>by
   simp only[List.mem_toArray,List.mem_singleton] at he
   exact .inr ⟨_,rfl,.inl he⟩) (mayWake P g4=true)
  exact .go g5 w4 _ _ hst hDo (fin γ4 w4 g5 hr4' (hr4.tag.trans ht3) (hr4.deaf.trans hd3) hI4 hG5)
 ·exact go j _ rfl fin _ (add_more (main:=p.f==0) (Next:=fun g _=>g=Cont b₀ a₀ ops₀ i₀ rest₀ k₀ cs) H hj1 (by omega) (fun _ _=>rfl) w hwl)
theorem shut_tags {γ:Gho} {i:Nat} (h:γ.tag i=.shut\/γ.tag i=.reg\/γ.tag i=.thru):γ.tag i≠.gone/\γ.tag i≠.idle/\γ.tag i≠.feed/\γ.tag i≠.coll/\∀x,γ.tag i≠.give x:=by rcases h with h|h|h<;>(rw[h];simp)
theorem lives_goes_at {Stop:Goroutine->World->Prop} {n wg:Nat}:∀ {g w γ},Goes P (i==0) (Rl ty wg) DC0 Stop n g w->γ.tag i≠.gone->(∀γ2 w2,Rel i γ w γ2 w2->WgLive ty wg w2) ->
  (∀γ2 w2 g',Rel i γ w γ2 w2->Stop g' w2->LV P ty top Post i γ2 w2 g')->LV P ty top Post i γ w g:=by
 induction n with
 | zero=>exact fun {g w γ} h ht hw hS=>hS γ w g (.refl _ _ _) (h w fun x=>x)
 | succ n ih =>
  intro g w γ h ht hw hS
  rcases h with h|⟨hg,h⟩
  ·exact hS γ w g (.refl _ _ _) (h w fun x=>x)
  ·refine lives_step hg ht fun γ2 w2 hrl hI2 hi=>?_
   have:=h w2 fun _=>hw γ2 w2 hrl
   obtain⟨g',w',es,hst,⟨e1,e2⟩,hG⟩:=goes_inv this
   subst e1
   subst e2
   exact .go g' _ #[] γ2 hst (do_idle hI2 hi _) (ih hG (by rw[hrl.tag];exact ht) (fun γ3 w3 hr3=>hw γ3 w3 (hrl.trans hr3)) fun γ3 w3 g3 hr3=>hS γ3 w3 g3 (hrl.trans hr3))
def Gho.past (γ:Gho) (p:Ph):Gho:=if p.f=0 then γ.over else γ.rest p.f
theorem do_past (hI:GInv ty top γ w) (hp:γ.ph=some p) (ht:γ.tag p.f=.thru) (hd:γ.deaf p.f=0) (wk:Prop):(crewPact P ty top Post).Do p.f γ w (γ.past p) w wk #[mk (.acquire (stA p.wg))]:=by
 unfold Gho.past
 by_cases hf:p.f=0
 ·rw[if_pos hf]
  rw[hf] at ht hd
  have:=do_over (P:=P) (Post:=Post) hI hp hf ht hd wk
  rw[hf];exact this
 ·rw[if_neg hf]
  cases hc:γ.col with
  | none=>exact absurd (hI.alone p hp hc).1 hf
  | some c=>exact do_rest hI hp hc ht hd wk
theorem past_wg (hI:GInv ty top γ w) (hp:γ.ph=some p) (hr:Rel p.f (γ.past p) w γ2 w2):WgLive ty p.wg w2:=by
 have hC:=hI.core _ hp
 obtain⟨st,sm,q,_⟩:=hC.wgm
 refine⟨st,sm,q.of_block ?_⟩
 unfold Gho.past at hr
 by_cases hf:p.f=0
 ·rw[if_pos hf,hf] at hr
  have tz:γ.over.tag 0=.solo:=by show upd γ.tag 0 Tag.solo 0=_;exact upd_same _ _ _
  cases hc:γ.col with
  | none=>rw[((hr.live (by rw[tz];simp)).still rfl hc rfl).1]
  | some c=>have:=(hI.mate p c hp hc).1;have:=(hI.coll c hc).f.1;omega
 ·rw[if_neg hf] at hr
  have tz:(γ.rest p.f).tag p.f=.fin:=by show upd γ.tag p.f Tag.fin p.f=_;exact upd_same _ _ _
  cases hc:γ.col with
  | none=>exact absurd (hI.alone p hp hc).1 hf
  | some c=>exact((hr.live (by rw[tz];simp)).pre hf c hc (hI.mate p c hp hc).1.symm rfl).1 _ (hC.lts hI.hs).1 hC.bwg
theorem past_tag (γ:Gho) (p:Ph):(γ.past p).tag p.f≠.gone:=by
 unfold Gho.past
 split
 ·rename_i hf
  have tz:γ.over.tag 0=.solo:=by show upd γ.tag 0 Tag.solo 0=_;exact upd_same _ _ _
  rw[hf,tz];simp
 ·have tz:(γ.rest p.f).tag p.f=.fin:=by show upd γ.tag p.f Tag.fin p.f=_;exact upd_same _ _ _
  rw[tz];simp
theorem lives_waited (hp:γ.ph=some p) (ht:γ.tag p.f=.thru) (hd:γ.deaf p.f=1) (hI:GInv ty top γ w) (h:Waited P (p.f==0) ty p.wg (fun g _=>g=Cont b₀ a₀ ops₀ i₀ rest₀ k₀ cs) g w)
  (hK:∀γ' w',RelL p.f γ w γ' w'->γ'.ph=some p->γ'.tag p.f=.thru->γ'.deaf p.f=0->GInv ty top γ' w'->∀γ2 w2,Rel p.f (γ'.past p) w' γ2 w2->LV P ty top Post p.f γ2 w2 (Cont b₀ a₀ ops₀ i₀ rest₀ k₀ cs)):LV P ty top Post p.f γ w g:=by
 obtain⟨n1,hG1⟩:=h
 refine lives_goes (i:=p.f) (p:=p) hG1 (on_f hp) (shut_tags (.inr (.inr ht))).1 hI fun γ1 w1 g1 hr1 hI1 hi1 ⟨hrun,g2,hst,n2,hG2⟩=>⟨hrun,?_⟩
 have ht1:γ1.tag p.f=.thru:=hr1.tag.trans ht
 have hd1:γ1.deaf p.f=0+1:=hr1.deaf.trans hd
 have hr1':=hr1.live (shut_tags (.inr (.inr ht))).1
 have hDo:=do_mute (P:=P) (Post:=Post) hI1 hi1 (mute_word (.inr rfl)) (.inr (shut_tags (.inr (.inr ht1))).2) (mayWake P g1=true)
 rw[hd1,deaf_off] at hDo
 have hr2:=hr1'.trans (relL_deaf γ1 w1 p.f 0)
 have ht2:(γ1.setDeaf p.f 0).tag p.f=.thru:=ht1
 refine .go g2 w1 _ _ hst hDo (lives_goes (i:=p.f) (p:=p) hG2 (on_f (hr2.ph _ (on_f hp))) (shut_tags (.inr (.inr ht2))).1 hDo.inv fun γ3 w3 g3 hr3 hI3 hi3 ⟨hrun3,g4,hst4,n4,hG4⟩=>⟨hrun3,?_⟩)
 have hr3':=hr2.trans (hr3.live (shut_tags (.inr (.inr ht2))).1)
 have hp3:=hr3'.ph _ (on_f hp)
 have ht3:γ3.tag p.f=.thru:=hr3.tag.trans ht2
 have hd3:γ3.deaf p.f=0:=hr3.deaf.trans (setDeaf_at _ _ _)
 have hDo3:=do_past (P:=P) (Post:=Post) hI3 hp3 ht3 hd3 (mayWake P g3=true)
 refine .go g4 w3 _ _ hst4 hDo3 (lives_goes_at hG4 (past_tag _ _) (fun γ5 w5 hr5=>past_wg hI3 hp3 hr5) fun γ5 w5 g5 hr5 e5=>?_)
 rw[e5]
 exact hK γ3 w3 hr3' hp3 ht3 hd3 hI3 γ5 w5 hr5
theorem lives_anch (H:WgLib P L) (N:Nat):∀ {γ w g},γ.ph=some p->γ.tag p.f=.shut->γ.deaf p.f=1->γ.vc p<=N->GInv L.tWg top γ w->Anch L p.wg (b₀.at a₀ (.inRegion ops₀ (i₀::rest₀)::k₀)) cs g w ->
  (∀γ' w',RelL p.f γ w γ' w'->γ'.ph=some p->γ'.tag p.f=.thru->γ'.deaf p.f=0->GInv L.tWg top γ' w'->∀γ2 w2,Rel p.f (γ'.past p) w' γ2 w2->LV P L.tWg top Post p.f γ2 w2 (Cont b₀ a₀ ops₀ i₀ rest₀ k₀ cs))->LV P L.tWg top Post p.f γ w g:=by
 induction N using Nat.strongRecOn with
 | _ N ih =>
 intro γ w g hp ht hd hv hI hA hK
 obtain⟨n1,hG1⟩:=wait_round (main:=p.f==0) (Next:=fun g _=>g=Cont b₀ a₀ ops₀ i₀ rest₀ k₀ cs) H (fun _ _=>rfl) g w hA
 refine lives_goes (i:=p.f) (p:=p) hG1 (on_f hp) (shut_tags (.inl ht)).1 hI fun γ1 w1 g1 hr1 hI1 hi1 ⟨hrun,h1⟩=>⟨hrun,?_⟩
 have ht1:γ1.tag p.f=.shut:=hr1.tag.trans ht
 have hd1:γ1.deaf p.f=1:=hr1.deaf.trans hd
 have hr1':=hr1.live (shut_tags (.inl ht)).1
 have hp1:=hr1'.ph _ (on_f hp)
 have hC1:=hI1.core _ hp1
 have ht1f:γ1.tag p.f=.shut:=ht1
 have hvW:vcT γ1.tag p < 2147483648:=by
  have:=Go.ConcN.sumTo_le (f:=fun j=>(γ1.tag (p.b+j)).cw) (c:=1) (j:=p.W) fun k _=>by cases (γ1.tag (p.b+k))<;>simp[Tag.cw]
  have:=hC1.small
  unfold vcT;omega
 have hv1:vcT γ1.tag p<=N:=Nat.le_trans ((hr1'.feed p (on_f hp) rfl).2) hv
 obtain⟨g2,hst2,hz,hnz⟩:=h1 _ hvW (hC1.nolast ht1f).1
 by_cases hv0:vcT γ1.tag p=0
 ·have hDo:=do_seen (P:=P) (Post:=Post) hI1 hp1 ht1f hv0 (mayWake P g1=true)
  have hr2:RelL p.f γ w (γ1.setTag p.f .thru) w1:=hr1'.trans (relL_tag (i:=p.f) hI1 hp1 .thru (w':=w1) rfl fun _ _=>rfl)
  exact .go g2 w1 _ _ hst2 hDo (lives_waited (hr2.ph _ (on_f hp)) (setTag_at _ _ _) hd1 hDo.inv (hz hv0) fun γ' w' hr'=>hK γ' w' (hr2.trans hr'))
 ·have hDo:=do_looks (P:=P) (Post:=Post) (es:=#[rd (stA p.wg)]) hI1 hp1 (fun e he=>by
   simp only[List.mem_toArray,List.mem_singleton] at he
   exact .inl ⟨_,_,he,rfl⟩) (mayWake P g1=true)
  obtain⟨n3,hG3⟩:=hnz hv0
  refine .go g2 w1 _ _ hst2 hDo (lives_goes (i:=p.f) (p:=p) hG3 (on_f hp1) (shut_tags (.inl ht1)).1 hI1 fun γ3 w3 g3 hr3 hI3 hi3 ⟨hrun3,h3⟩=>⟨hrun3,?_⟩)
  have ht3:γ3.tag p.f=.shut:=hr3.tag.trans ht1
  have hd3:γ3.deaf p.f=1:=hr3.deaf.trans hd1
  have hr3':=hr1'.trans (hr3.live (shut_tags (.inl ht1)).1)
  have hp3:=hr3'.ph _ (on_f hp)
  have hC3:=hI3.core _ hp3
  have ht3f:γ3.tag p.f=.shut:=ht3
  have hv3:vcT γ3.tag p<=vcT γ1.tag p:=((hr3.live (shut_tags (.inl ht1)).1).feed p (on_f hp1) rfl).2
  obtain⟨hhit,hmiss⟩:=h3 _ (Nat.lt_of_le_of_lt hv3 hvW) (hC3.nolast ht3f).1
  by_cases e:vcT γ3.tag p=vcT γ1.tag p
  ·obtain⟨g4,hst4,n4,hG4⟩:=hhit e
   have hDo3:=do_reg (P:=P) (Post:=Post) hI3 hp3 ht3f (by omega) (mayWake P g3=true)
   have hr4:RelL p.f γ w (γ3.setTag p.f .reg) (w3.setCell (stA p.wg) (.int .u64 (((vcT γ3.tag p:Nat):Int) * KK+1))):=hr3'.trans (relL_tag (i:=p.f) hI3 hp3 .reg (w':=w3.setCell (stA p.wg) (.int .u64 (((vcT γ3.tag p:Nat):Int) * KK+1))) rfl fun b hb=>heap_cell_ne _ _ _ hb)
   have ht4:(γ3.setTag p.f .reg).tag p.f=.reg:=setTag_at _ _ _
   refine .go g4 _ _ _ hst4 hDo3 (lives_goes (i:=p.f) (p:=p) hG4 (on_f (hr4.ph _ (on_f hp))) (shut_tags (.inr (.inl ht4))).1 hDo3.inv fun γ5 w5 g5 hr5 hI5 hi5 ⟨hrun5,g6,hst6,n6,hG6⟩=>⟨hrun5,?_⟩)
   have ht5:γ5.tag p.f=.reg:=hr5.tag.trans ht4
   have hr5':=hr4.trans (hr5.live (shut_tags (.inr (.inl ht4))).1)
   have hp5:=hr5'.ph _ (on_f hp)
   have hd5:γ5.deaf p.f=1:=hr5.deaf.trans hd3
   have hDo5:=do_looks (P:=P) (Post:=Post) (es:=#[mk (.write (smA p.wg))]) hI5 hp5 (fun e he=>by
    simp only[List.mem_toArray,List.mem_singleton] at he
    exact .inr ⟨_,rfl,.inr he⟩) (mayWake P g5=true)
   refine .go g6 w5 _ _ hst6 hDo5 (lives_goes (i:=p.f) (p:=p) hG6 (on_f hp5) (shut_tags (.inr (.inl ht5))).1 hI5 fun γ7 w7 g7 hr7 hI7 hi7 ⟨hrun7,hoff,hwt,hgo⟩=>⟨hrun7,?_⟩)
   have ht7:γ7.tag p.f=.reg:=hr7.tag.trans ht5
   have hr7':=hr5'.trans (hr7.live (shut_tags (.inr (.inl ht5))).1)
   have hp7:=hr7'.ph _ (on_f hp)
   have hd7:γ7.deaf p.f=1:=hr7.deaf.trans hd5
   rcases reg_modes hI7 hp7 ht7 with⟨q1,q2⟩|q
   ·exact .wait (hwt q2) hoff q1
   ·obtain⟨g8,hst8,n8,hG8⟩:=hgo q
    have hDo7:=do_through (P:=P) (Post:=Post) hI7 hp7 ht7 q (mayWake P g7=true)
    have hr8:RelL p.f γ w (γ7.setTag p.f .thru) (w7.setCell (smA p.wg) (.int .u32 0)):=hr7'.trans (relL_tag (i:=p.f) hI7 hp7 .thru (w':=w7.setCell (smA p.wg) (.int .u32 0)) rfl fun b hb=>heap_cell_ne _ _ _ hb)
    have ht8:(γ7.setTag p.f .thru).tag p.f=.thru:=setTag_at _ _ _
    refine .go g8 _ _ _ hst8 hDo7 (lives_goes (i:=p.f) (p:=p) hG8 (on_f (hr8.ph _ (on_f hp))) (shut_tags (.inr (.inr ht8))).1 hDo7.inv fun γ9 w9 g9 hr9 hI9 hi9 ⟨hrun9,h9⟩=>⟨hrun9,?_⟩)
    have ht9:γ9.tag p.f=.thru:=hr9.tag.trans ht8
    have hr9':=hr8.trans (hr9.live (shut_tags (.inr (.inr ht8))).1)
    have hp9:=hr9'.ph _ (on_f hp)
    have hd9:γ9.deaf p.f=1:=hr9.deaf.trans hd7
    have hw9:WgAt L.tWg p.wg w9 0 0:=by
     obtain⟨st,sm,m1,m2⟩:=(hI9.core _ hp9).wgm
     cases m2 with
     | opn m3=>rw[ht9] at m3;exact m3.elim
     | reg m3=>rw[ht9] at m3;cases m3
     | last _ _ m3=>rw[ht9] at m3;cases m3
     | sema m3=>rw[ht9] at m3;cases m3
     | fin=>exact m1
    obtain⟨g10,hst10,hW10⟩:=h9 hw9
    have hDo9:=do_looks (P:=P) (Post:=Post) (es:=#[rd (stA p.wg)]) hI9 hp9 (fun e he=>by
     simp only[List.mem_toArray,List.mem_singleton] at he
     exact .inl ⟨_,_,he,rfl⟩) (mayWake P g9=true)
    exact .go g10 w9 _ _ hst10 hDo9 (lives_waited hp9 ht9 hd9 hI9 hW10 fun γ' w' hr'=>hK γ' w' (hr9'.trans hr'))
  ·obtain⟨g4,hst4,n4,hG4⟩:=hmiss e
   have hDo3:=do_looks (P:=P) (Post:=Post) (es:=#[rd (stA p.wg)]) hI3 hp3 (fun e he=>by
    simp only[List.mem_toArray,List.mem_singleton] at he
    exact .inl ⟨_,_,he,rfl⟩) (mayWake P g3=true)
   refine .go g4 w3 _ _ hst4 hDo3 (lives_goes2 (i:=p.f) (p:=p) hG4 (on_f hp3) (shut_tags (.inl ht3)).1 hI3 fun γ5 w5 g5 hr5 hI5 hA5=>?_)
   have hr5':=hr3'.trans (hr5.live (shut_tags (.inl ht3)).1)
   have hv5:γ5.vc p<=γ3.vc p:=((hr5.live (shut_tags (.inl ht3)).1).feed p (on_f hp3) rfl).2
   have hv5':γ5.vc p<=vcT γ3.tag p:=hv5
   exact ih (γ5.vc p) (by omega) (hr5'.ph _ (on_f hp)) (hr5.tag.trans ht3) (hr5.deaf.trans hd3) (Nat.le_refl _) hI5 hA5 fun γ' w' hr'=>hK γ' w' (hr5'.trans hr')
theorem lives_wait (H:WgLib P L) (hp:γ.ph=some p) (ht:γ.tag p.f=.shut) (hd:γ.deaf p.f=0) (hI:GInv L.tWg top γ w)
  (hK:∀γ' w',RelL p.f γ w γ' w'->γ'.ph=some p->γ'.tag p.f=.thru->γ'.deaf p.f=0->GInv L.tWg top γ' w'->∀γ2 w2,Rel p.f (γ'.past p) w' γ2 w2->LV P L.tWg top Post p.f γ2 w2 (Cont b₀ a₀ ops₀ i₀ rest₀ k₀ cs)) :
  LV P L.tWg top Post p.f γ w (G ((base L.wait).at ⟨#[.pointer (some ⟨p.wg,0,none⟩)]++Array.replicate 83 undef,[]⟩ [.code (body_wait L)]) (b₀.at a₀ (.inRegion ops₀ (i₀::rest₀)::k₀)::cs)):=by
 have hwl:WgLive L.tWg p.wg w:=let ⟨st,sm,h,_⟩:=(hI.core _ hp).wgm;⟨st,sm,h⟩
 obtain⟨n1,hG1⟩:=wait_start (main:=p.f==0) (b₀:=b₀) (a₀:=a₀) (ops₀:=ops₀) (i₀:=i₀) (rest₀:=rest₀) (k₀:=k₀) (cs:=cs) H w hwl
 refine lives_goes (i:=p.f) (p:=p) hG1 (on_f hp) (shut_tags (.inl ht)).1 hI fun γ1 w1 g1 hr1 hI1 hi1 ⟨hrun,g2,hst,n2,hG2⟩=>⟨hrun,?_⟩
 have ht1:γ1.tag p.f=.shut:=hr1.tag.trans ht
 have hd1:γ1.deaf p.f=0:=hr1.deaf.trans hd
 have hr1':=hr1.live (shut_tags (.inl ht)).1
 have hDo:=do_mute (P:=P) (Post:=Post) hI1 hi1 (mute_word (.inl rfl)) (.inr (shut_tags (.inl ht1)).2) (mayWake P g1=true)
 rw[hd1,deaf_on] at hDo
 have hr2:=hr1'.trans (relL_deaf γ1 w1 p.f 1)
 have ht2:(γ1.setDeaf p.f 1).tag p.f=.shut:=ht1
 refine .go g2 w1 _ _ hst hDo (lives_goes2 (i:=p.f) (p:=p) hG2 (on_f (hr2.ph _ (on_f hp))) (shut_tags (.inl ht2)).1 hDo.inv fun γ3 w3 g3 hr3 hI3 hA3=>?_)
 have hr3':=hr2.trans (hr3.live (shut_tags (.inl ht2)).1)
 exact lives_anch H _ (hr3'.ph _ (on_f hp)) (hr3.tag.trans ht2) (hr3.deaf.trans (setDeaf_at _ _ _)) (Nat.le_refl _) hI3 hA3 fun γ' w' hr'=>hK γ' w' (hr3'.trans hr')
end
end
end Go.Proofs.YtbicafgmfgdckaaDoor
namespace Go.Proofs.YtbicafgmfgdckaaDoor
open Go Go.Conc Go.RowKit Go.Conc.Lib Go.ConcR.Gen
open Go.ConcR (KK wgBlock WgAt stA smA rd wr mk DC0)
open Go.ConcN (WgLive)
set_option linter.unusedSimpArgs false
section
variable {L:WgLink} {Wg:Nat}
set_option maxRecDepth 100000 in
set_option maxHeartbeats 8000000 in
theorem done_to {P:Program} (H:WgLib P L) {c:Frame} {cs:List Frame} (w:World) (hF:WgLive L.tWg Wg w) :
  GM P false L.tWg Wg (AtWord P false (.releaseMerge (stA Wg)) (GM P false L.tWg Wg (AtWord P false .disable fun _ _=>True)))
   (G ((baseD L.done).at ⟨#[.pointer (some ⟨Wg,0,none⟩),undef,undef,undef],[]⟩ [.code (body_done L)]) (c::cs)) w:=by
 lib_facts
 simp only[body_done,body_add,doneFn,addFn,Option.getD_some]
 refine⟨60,?_⟩
 u_reg rl_live hF
 u_op rl_live hF
 u_in rl_live hF
 refine goes_call rfl rfl (by k_ne) rfl H.f_add (nm_add L) rfl ⟨by u_nil,?_⟩
 walk_nrmf addFn
 u_c stepG_seq rl_live hF
 u_cond true rl_live hF
 u_c stepG_seq rl_live hF
 u_c stepG_seq rl_live hF
 u_reg rl_live hF
 u_op rl_live hF
 u_op rl_live hF
 u_c stepG_region_end rl_live hF
 u_cond true rl_live hF
 u_reg rl_live hF
 u_op rl_live hF
 u_conv H.underlying_tWgP H.room_tWg (Go.ConcN.Gen.WgLive.cell0 hF).choose_spec rl_live hF
 refine Goes.stop (fun w₁ h₁=>?_)
 replace hF:=rl_live hF h₁
 clear h₁
 refine⟨rfl,_,stepG_markAt .releaseMerge (by simp) rfl rfl (by k_ne) rfl H.f_relMerge (x_relMerge_n L) (x_relMerge_b L) (x_relMerge_x L) (x_relMerge_f L) (by simp[Act.eval,stA]),10,?_⟩
 walk_nrm
 u_c stepG_region_end rl_live hF
 u_c stepG_seq rl_live hF
 u_reg rl_live hF
 refine Goes.stop (fun w₁ h₁=>?_)
 exact⟨rfl,_,stepG_mark0 .disable (by simp) rfl rfl (by k_ne) rfl H.f_disable (x_disable_n L) (x_disable_b L) (x_disable_x L) (x_disable_f L),trivial⟩
end
end Go.Proofs.YtbicafgmfgdckaaDoor
namespace Go.Proofs.YtbicafgmfgdckaaDoor
open Go Go.Conc Go.Conc.Lib Go.ConcR.Gen
open Go.ConcR (KK wgBlock WgAt stA smA rd wr mk DC0 Payload)
open Go.ConcN (sumTo upd upd_same upd_ne RelBy PermW WgLive RW DWs Has PayAt AsideCell EvW AtR0 AtK1 AtD1 AtD2 AtD3 AtD4)

section
variable {ty:TypeId} {top:Nat} {γ γ' γ2:Gho} {p:Ph} {c:Col} {w w' w2:World} {i j k n:Nat} {P:Program} {Post:Value->World->Prop} {es:Array Event} {g g':Goroutine}
theorem goes_meet {m:Bool} {R1 R2:World->World->Prop} {D1 D2:World->World->Array Event->Prop} {S1 S2:Goroutine->World->Prop}:∀(n1 n2:Nat) {g:Goroutine} {w:World},Goes P m R1 D1 S1 n1 g w->Goes P m R2 D2 S2 n2 g w ->
  Goes P m (fun a b=>R1 a b/\R2 a b) D2 (fun g w=>S1 g w\/(S2 g w/\∃n w0,R1 w0 w/\Goes P m R1 D1 S1 n g w0)) n1 g w
 | 0,_,_,_,h1,_=>fun w1 hr=>.inl (h1 w1 hr.1)
 | n1+1,0,_,w,h1,h2=>.inl fun w1 hr=>.inr ⟨h2 w1 hr.2,n1+1,w,hr.1,h1⟩
 | n1+1,n2+1,g,w,h1,h2=>by
  rcases h2 with h2|⟨hg,h2⟩
  ·exact .inl fun w1 hr=>.inr ⟨h2 w1 hr.2,n1+1,w,hr.1,h1⟩
  ·rcases h1 with h1|⟨_,h1⟩
   ·exact .inl fun w1 hr=>.inl (h1 w1 hr.1)
   ·refine .inr ⟨hg,fun w1 hr=>?_⟩
    have q1:=h1 w1 hr.1
    have q2:=h2 w1 hr.2
    revert q1 q2
    cases stepG P m g w1<;>simp only[GStep.goes]<;>first|exact fun q=>q.elim|skip
    exact fun q1 q2=>⟨q2.1,goes_meet n1 n2 q1.2 q2.2⟩
theorem goes_clash {m:Bool} {R1 R2:World->World->Prop} {D1:World->World->Array Event->Prop} {S1 S2:Goroutine->World->Prop} (r1:∀w,R1 w w) (r2:∀w,R2 w w) (hS1:∀g w,S1 g w->∃g' a,stepG P m g w=.go g' w #[mk (.releaseMerge a)]) (hS2:∀g w,S2 g w->∃g',stepG P m g w=.go g' w #[mk .disable])
  (hD:∀w w' es,D1 w w' es->∀e∈es,e.loc≠.mark .disable):∀(n1 n2:Nat) {g:Goroutine} {w:World},Goes P m R1 D1 S1 n1 g w->Goes P m R2 DC0 S2 n2 g w->False:=by
 have two:∀ {g w},S1 g w->S2 g w->False:=fun {g w} h1 h2=>by
  obtain⟨g1,a,e1⟩:=hS1 g w h1
  obtain⟨g2,e2⟩:=hS2 g w h2
  rw[e1] at e2
  simp[mk] at e2
 have oneStep:∀ {g w g' es},S1 g w->stepG P m g w=.go g' w es->es=#[]->False:=fun {g w g' es} h1 h2 h3=>by
  obtain⟨g1,a,e1⟩:=hS1 g w h1
  rw[e1,h3] at h2
  simp[mk] at h2
 have stop2:∀(n1:Nat) {g w},Goes P m R1 D1 S1 n1 g w->S2 g w->False:=fun n1 {g w} h1 h2=>by
  cases n1 with
  | zero=>exact two (h1 w (r1 w)) h2
  | succ n1 =>
   rcases h1 with h1|⟨_,h1⟩
   ·exact two (h1 w (r1 w)) h2
   ·obtain⟨g2,e2⟩:=hS2 g w h2
    have:=h1 w (r1 w)
    rw[e2] at this
    exact hD _ _ _ this.1 (mk .disable) (by simp) rfl
 intro n1 n2
 induction n2 generalizing n1 with
 | zero=>exact fun h1 h2=>stop2 n1 h1 (h2 _ (r2 _))
 | succ n2 ih =>
  intro g w h1 h2
  rcases h2 with h2|⟨_,h2⟩
  ·exact stop2 n1 h1 (h2 _ (r2 _))
  ·obtain⟨g',w',es,hst,⟨e1,e2⟩,hG⟩:=goes_inv (h2 w (r2 w))
   subst e1
   cases n1 with
   | zero=>exact oneStep (h1 _ (r1 _)) hst e2
   | succ n1 =>
    rcases h1 with h1|⟨_,h1⟩
    ·exact oneStep (h1 _ (r1 _)) hst e2
    ·have:=h1 _ (r1 _)
     rw[hst] at this
     exact ih n1 this.2 hG
theorem lives_gen {R:World->World->Prop} {D:World->World->Array Event->Prop} {Stop:Goroutine->World->Prop} {J:Gho->Prop} (hJ:∀γ w γ2 w2,J γ->Rel i γ w γ2 w2->J γ2) (hg:∀γ,J γ->γ.tag i≠.gone)
  (hR:∀γ w γ2 w2,J γ->GInv ty top γ w->GInv ty top γ2 w2->Rel i γ w γ2 w2->R w w2) (hD:∀γ w w' es wk,J γ->GInv ty top γ w->i < γ.cnt->D w w' es->(crewPact P ty top Post).Do i γ w γ w' wk es) :
  ∀n {g w γ},Goes P (i==0) R D Stop n g w->J γ->GInv ty top γ w->(∀γ2 w2 g',J γ2->GInv ty top γ2 w2->i < γ2.cnt->Stop g' w2->g'.status=.running/\NX P ty top Post i γ2 w2 g')->LV P ty top Post i γ w g:=by
 have lt:∀ {γ w},GInv ty top γ w->γ.tag i≠.gone->i < γ.cnt:=fun hI ht=>Nat.lt_of_not_le fun q=>ht (hI.un i q)
 intro n
 induction n with
 | zero =>
  intro g w γ h hj hI hS
  refine lives_step (hS γ w g hj hI (lt hI (hg γ hj)) (h w (hR γ w γ w hj hI hI (.refl _ _ _)))).1 (hg γ hj) fun γ2 w2 hrl hI2 hi=>(hS γ2 w2 g (hJ _ _ _ _ hj hrl) hI2 hi (h w2 (hR _ _ _ _ hj hI hI2 hrl))).2
 | succ n ih =>
  intro g w γ h hj hI hS
  rcases h with h|⟨hgr,h⟩
  ·refine lives_step (hS γ w g hj hI (lt hI (hg γ hj)) (h w (hR γ w γ w hj hI hI (.refl _ _ _)))).1 (hg γ hj) fun γ2 w2 hrl hI2 hi=>(hS γ2 w2 g (hJ _ _ _ _ hj hrl) hI2 hi (h w2 (hR _ _ _ _ hj hI hI2 hrl))).2
  ·refine lives_step hgr (hg γ hj) fun γ2 w2 hrl hI2 hi=>?_
   have hj2:=hJ _ _ _ _ hj hrl
   obtain⟨g',w',es,hst,hd,hG⟩:=goes_inv (h w2 (hR _ _ _ _ hj hI hI2 hrl))
   have hDo:=hD γ2 w2 w' es (mayWake P g=true) hj2 hI2 hi hd
   exact .go g' w' es γ2 hst hDo (ih hG hj2 hDo.inv hS)
structure AtEnd (p:Ph) (i C:Nat) (x:Tag) (d:Nat) (γ:Gho):Prop where
 ph:γ.ph=some p
 tag:γ.tag i=x
 deaf:γ.deaf i=d
 c:γ.F i C
 i0:i≠0
theorem AtEnd.rely {C d:Nat} {x:Tag} (hx:x≠.gone) (h:AtEnd p i C x d γ) (hr:Rel i γ w γ2 w2):AtEnd p i C x d γ2:=by
 have l:=hr.live (by rw[h.tag];exact hx)
 exact⟨l.ph _ ⟨h.ph,.inl h.i0⟩,hr.tag.trans h.tag,hr.deaf.trans h.deaf,l.F h.c,h.i0⟩
theorem rw_of [Payload] {C d m:Nat} {x:Tag} (hx:x≠.gone) (h:AtEnd p i C x d γ) (hI2:GInv ty top γ2 w2) (hr:Rel i γ w γ2 w2):RW ty p.wg C m 0 0 w w2:=by
 have l:=hr.live (by rw[h.tag];exact hx)
 have e:w2.heap[C]?=w.heap[C]?:=l.keep _ h.c.1 (.inr h.c.2)
 refine⟨fun b hb=>absurd hb (Nat.not_lt_zero _),fun _=>?_,fun⟨cs,q1,q2⟩=>⟨cs,by rw[e];exact q1,q2⟩,Go.ConcN.cell_of_block e 0⟩
 obtain⟨st,sm,q,_⟩:=(hI2.core _ (l.ph _ ⟨h.ph,.inl h.i0⟩)).wgm
 exact⟨st,sm,q⟩
theorem rl_of {C d:Nat} {x:Tag} (hx:x≠.gone) (h:AtEnd p i C x d γ) (hI2:GInv ty top γ2 w2) (hr:Rel i γ w γ2 w2):Rl ty p.wg w w2:=fun _=>by
 have l:=hr.live (by rw[h.tag];exact hx)
 obtain⟨st,sm,q,_⟩:=(hI2.core _ (l.ph _ ⟨h.ph,.inl h.i0⟩)).wgm
 exact⟨st,sm,q⟩
theorem dc0_do (hI:GInv ty top γ w) (hi:i < γ.cnt) (h:DC0 w w' es) (wk:Prop):(crewPact P ty top Post).Do i γ w γ w' wk es:=by
 obtain⟨e1,e2⟩:=h
 subst e1
 subst e2
 exact do_idle hI hi wk
set_option linter.unusedVariables false in
theorem lives_done {L:WgLink} {C qt:Nat} {v:Value} {c:Frame} {cs:List Frame} (H:WgLib P L) (hp:γ.ph=some p) (hb:p.b<=i) (ht:γ.tag i=.out) (hd:γ.deaf i=0) (hI:GInv L.tWg top γ w) (hC:γ.F i C) (hv:w.cell? ⟨C,0,none⟩=some v)
  (hcm:c.mode=.returning) (hT:QuitsD P qt 0 (G c cs)):LV P L.tWg top Post i γ w (G ((baseD L.done).at ⟨#[.pointer (some ⟨p.wg,0,none⟩),undef,undef,undef],[]⟩ [.code (body_done L)]) (c::cs)):=by
 have hi0':i≠0:=by
  have:=(hI.core _ hp).fd
  omega
 have hi0:(i==0)=false:=by simpa using hi0'
 letI:Payload:=⟨0⟩
 have hwl:WgLive L.tWg p.wg w:=let ⟨st,sm,h,_⟩:=(hI.core _ hp).wgm;⟨st,sm,h⟩
 have hA:AtEnd p i C .out 0 γ:=⟨hp,ht,hd,hC,hi0'⟩
 have h1:=Go.ConcN.Gen.doneN (Own:=fun _ _=>False) (Rd:=fun _ _=>False) (Wg:=p.wg) (C:=C) (n:=0) (Low:=0) (k:=1) (val:=v) H hcm hT w ⟨hwl,hv⟩
 obtain⟨n2,h2⟩:=done_to (Wg:=p.wg) (c:=c) (cs:=cs) H w hwl
 have hm:=goes_meet _ _ h1 h2
 rw[<- hi0] at hm
 refine lives_gen (J:=AtEnd p i C .out 0) (fun γ w γ2 w2 h hr=>h.rely (by simp) hr) (fun γ h=>by rw[h.tag];simp) (fun γ w γ2 w2 h _ hI2 hr=>⟨rw_of (by simp) h hI2 hr,rl_of (by simp) h hI2 hr⟩) (fun γ w w' es wk _ hI hi hD=>dc0_do hI hi hD wk) _ hm hA hI fun γ1 w1 g1 hA1 hI1 hi1 hS=>?_
 have hrel:AtR0 P L.tWg p.wg C 0 0 1 v g1 w1:=by
  rcases hS with hS|⟨⟨_,g2,hst,n3,hG3⟩,n,w0,hr0,hG⟩
  ·exact hS
  ·have hG1:=Goes.rely (fun a b c h h'=>h.trans h') hG hr0
   cases n with
   | zero=>exact hG1 w1 (Go.ConcN.RW.refl w1)
   | succ n =>
    rcases hG1 with q|⟨_,q⟩
    ·exact q w1 (Go.ConcN.RW.refl w1)
    ·exfalso
     have:=q w1 (Go.ConcN.RW.refl w1)
     rw[hst] at this
     exact goes_clash (fun w=>Go.ConcN.RW.refl w) (fun w h=>h) (fun g w h=>let ⟨g',h',_⟩:=h.2.2;⟨g',_,by rw[hi0];exact h'⟩) (fun g w h=>let ⟨g',h',_⟩:=h.2;⟨g',h'⟩) (fun w w' es h e he=>(h.2 e he).2.1) _ _ this.2 hG3
 obtain⟨hrun,_,g2,hst,m2,hG2⟩:=hrel
 refine⟨hrun,?_⟩
 have hp1:=hA1.ph
 have hDo:=do_release (P:=P) (Post:=Post) hI1 hp1 hb hi1 hA1.tag hA1.deaf (mayWake P g1=true)
 rw[<- hi0] at hst hG2
 have hA2:AtEnd p i C .rel 0 (γ1.setTag i .rel):=⟨hp1,setTag_at _ _ _,hA1.deaf,hA1.c,hi0'⟩
 refine .go g2 w1 _ _ hst hDo (lives_gen (J:=AtEnd p i C .rel 0) (fun γ w γ2 w2 h hr=>h.rely (by simp) hr) (fun γ h=>by rw[h.tag];simp) (fun γ w γ2 w2 h _ hI2 hr=>rw_of (by simp) h hI2 hr) (fun γ w w' es wk _ hI hi hD=>dc0_do hI hi hD wk) _ hG2 hA2 hDo.inv fun γ3 w3 g3 hA3 hI3 hi3 ⟨hrun3,g4,hst4,m4,hG4⟩=>⟨hrun3,?_⟩)
 have hDo3:=do_mute (P:=P) (Post:=Post) hI3 hi3 (mute_word (.inl rfl)) (.inr (by rw[hA3.tag];simp)) (mayWake P g3=true)
 rw[hA3.deaf,deaf_on] at hDo3
 rw[<- hi0] at hst4 hG4
 have hA4:AtEnd p i C .rel 1 (γ3.setDeaf i 1):=⟨hA3.ph,hA3.tag,setDeaf_at _ _ _,hA3.c,hi0'⟩
 refine .go g4 w3 _ _ hst4 hDo3 (lives_gen (J:=AtEnd p i C .rel 1) (fun γ w γ2 w2 h hr=>h.rely (by simp) hr) (fun γ h=>by rw[h.tag];simp) (fun γ w γ2 w2 h _ hI2 hr=>rw_of (by simp) h hI2 hr) (fun γ w w' es wk _ hI hi hD=>dc0_do hI hi hD wk) _ hG4 hA4 hDo3.inv fun γ5 w5 g5 hA5 hI5 hi5 ⟨hrun5,h5⟩=>⟨hrun5,?_⟩)
 obtain⟨V,wt,a1,a2,a3,hDo5⟩:=do_done (P:=P) (Post:=Post) hI5 hA5.ph hb hi5 hA5.tag (by rw[hA5.deaf];exact Nat.one_pos) (mayWake P g5=true)
 obtain⟨g6,hst6,hlast,hgone⟩:=h5 V wt a1 a2 (by simpa using a3)
 rw[<- hi0] at hst6
 by_cases hl:V=0/\wt=1
 ·rw[if_pos hl] at hDo5
  obtain⟨m6,hG6⟩:=hlast hl
  rw[<- hi0] at hG6
  have hA6:AtEnd p i C (.last 2) 1 (γ5.setTag i (.last 2)):=⟨hA5.ph,setTag_at _ _ _,hA5.deaf,hA5.c,hi0'⟩
  refine .go g6 _ _ _ hst6 hDo5 (lives_gen (J:=AtEnd p i C (.last 2) 1) (fun γ w γ2 w2 h hr=>h.rely (by simp) hr) (fun γ h=>by rw[h.tag];simp) (fun γ w γ2 w2 h _ hI2 hr=>rw_of (by simp) h hI2 hr) (fun γ w w' es wk _ hI hi hD=>dc0_do hI hi hD wk) _ hG6 hA6 hDo5.inv fun γ7 w7 g7 hA7 hI7 hi7 ⟨hrun7,h7⟩=>⟨hrun7,?_⟩)
  have hm7:=last_mode hI7 hA7.ph hb hA7.tag
  obtain⟨g8,hst8,m8,hG8⟩:=h7 (by simpa using hm7.2.1)
  have hDo7:=do_peek (P:=P) (Post:=Post) hI7 hA7.ph hb hi7 hA7.tag (by rw[hA7.deaf];exact Nat.one_pos) (mayWake P g7=true)
  rw[<- hi0] at hst8 hG8
  refine .go g8 _ _ _ hst8 hDo7 (lives_gen (J:=AtEnd p i C (.last 2) 1) (fun γ w γ2 w2 h hr=>h.rely (by simp) hr) (fun γ h=>by rw[h.tag];simp) (fun γ w γ2 w2 h _ hI2 hr=>rw_of (by simp) h hI2 hr) (fun γ w w' es wk _ hI hi hD=>dc0_do hI hi hD wk) _ hG8 hA7 hDo7.inv fun γ9 w9 g9 hA9 hI9 hi9 ⟨hrun9,h9⟩=>⟨hrun9,?_⟩)
  have hm9:=last_mode hI9 hA9.ph hb hA9.tag
  obtain⟨g10,hst10,m10,hG10⟩:=h9 (by simpa using hm9.2.1)
  have hDo9:=do_clear (P:=P) (Post:=Post) hI9 hA9.ph hb hi9 hA9.tag (by rw[hA9.deaf];exact Nat.one_pos) (mayWake P g9=true)
  rw[<- hi0] at hst10 hG10
  have hA10:AtEnd p i C (.last 1) 1 (γ9.setTag i (.last 1)):=⟨hA9.ph,setTag_at _ _ _,hA9.deaf,hA9.c,hi0'⟩
  refine .go g10 _ _ _ hst10 hDo9 (lives_gen (J:=AtEnd p i C (.last 1) 1) (fun γ w γ2 w2 h hr=>h.rely (by simp) hr) (fun γ h=>by rw[h.tag];simp) (fun γ w γ2 w2 h _ hI2 hr=>rw_of (by simp) h hI2 hr) (fun γ w w' es wk _ hI hi hD=>dc0_do hI hi hD wk) _ hG10 hA10 hDo9.inv fun γ11 w11 g11 hA11 hI11 hi11 ⟨hrun11,hmw,h11⟩=>⟨hrun11,?_⟩)
  obtain⟨hw11,hDo11⟩:=do_wake (P:=P) (Post:=Post) hI11 hA11.ph hb hi11 hA11.tag (by rw[hA11.deaf];exact Nat.one_pos) (mayWake P g11=true) hmw
  obtain⟨g12,hst12,q,hq⟩:=h11 hw11
  rw[<- hi0] at hst12
  refine .go g12 _ _ _ hst12 hDo11 (Pact.Lives.quit (q:=q) ?_ ⟨hi0',setTag_at _ _ _⟩)
  show QuitsD P q (γ11.deaf i) g12
  rw[hA11.deaf];exact hq
 ·rw[if_neg hl] at hDo5
  obtain⟨q,hq⟩:=hgone hl
  refine .go g6 _ _ _ hst6 hDo5 (Pact.Lives.quit (q:=q) ?_ ⟨hi0',setTag_at _ _ _⟩)
  show QuitsD P q (γ5.deaf i) g6
  rw[hA5.deaf];exact hq
end
end Go.Proofs.YtbicafgmfgdckaaDoor
namespace Go.Proofs.YtbicafgmfgdckaaDoor
open Go Go.Conc
open Go.ConcR (KK wgBlock WgAt stA smA rd wr mk DC0)
open Go.ConcN (sumTo upd upd_same upd_ne RelBy PermW WgLive)

section
variable {ty:TypeId} {top:Nat} {γ γ' γ2:Gho} {p:Ph} {c:Col} {w w' w2:World} {i j k n:Nat} {P:Program} {Post:Value->World->Prop} {es:Array Event} {g g':Goroutine}
theorem array_nil {es:Array Event} (h:∀e∈es,False):es=#[]:=by
 rcases es with⟨l⟩
 cases l with
 | nil=>rfl
 | cons a l=>exact(h a (by simp)).elim
theorem lives_pure (hr:g.status=.running) (ht:γ.tag i≠.gone) (h:∀w2,(stepG P (i==0) g w2).goes fun g' w' es=>(w'=w2/\∀e∈es,False)/\LV P ty top Post i γ w g'):LV P ty top Post i γ w g :=
 lives_step hr ht fun γ2 w2 hrl hI hi=>by
  obtain⟨g',w',es,hst,⟨e1,e2⟩,hL⟩:=goes_inv (h w2)
  subst e1
  obtain rfl:=array_nil e2
  exact .go g' _ #[] γ2 hst (do_idle hI hi _) (hL.rely hrl)
theorem rel_self_grown (hs:γ.hs=w.heap.size):Rel i γ w (γ.grown i w) w :=
 ⟨rfl,rfl,⟨rfl,rfl⟩,fun _=>⟨by show γ.hs<=w.heap.size;omega,fun b hb _=>grown_bk hb,fun b h1 h2=>by
  have h1':b < w.heap.size:=h1
  rw[grown_bk (by omega)] at h2
  exact⟨by omega,h2⟩,fun _ _ _=>rfl,rfl,fun _ h=>h.1,fun h _=>h,rfl,fun _ _ _=>⟨rfl,Nat.le_refl _⟩,fun _ _ _=>⟨rfl,hs.symm,rfl⟩,fun _ _ _ _ _=>⟨fun _ _ _=>rfl,rfl⟩,fun _ _=>Nat.le_refl _,fun _ _ _=>Iff.rfl,fun _ _ h=>h,fun _=>rfl,fun _ _ _=>.of (c1:=rfl) rfl fun _=>rfl⟩⟩
theorem lives_read (hr:g.status=.running) (ht:¬(γ.tag i).tied) (h:∀γ2 w2,Rel i γ w γ2 w2->GInv ty top γ2 w2->(stepG P (i==0) g w2).goes fun g' w' es=>(w'=w2/\∀e∈es,EvS (γ2.S i) (γ2.F i) e)/\LV P ty top Post i γ w g'):LV P ty top Post i γ w g :=
 lives_own hr ht fun γ2 w2 hrl hI=>by
  obtain⟨g',w',es,hst,⟨e1,e2⟩,hL⟩:=goes_inv (h γ2 w2 hrl hI)
  subst e1
  refine⟨g',_,es,hst,⟨Nat.le_refl _,rfl,rfl,rfl,fun _ _ _=>rfl,fun e he=>by rw[grow_self];exact e2 e he⟩,hL.rely (hrl.trans (rel_self_grown hI.hs))⟩
theorem no_listed {fn:FuncId} {a:Act} {o:Oper} (h:(execOp a.eval o).events P w #[]=#[]):∀e∈listed P fn a o w,False:=fun e he=>by
 have:=mem_listed he
 rw[h] at this
 simp at this
end
section
variable {ty:TypeId} {top:Nat} {γ:Gho} {w:World} {i l id:Nat} {P:Program} {Post:Value->World->Prop} {b:Frame} {a:Act} {k:List Item} {cs:List Frame} {ops:Array Oper} {rest:List Nat} {o:Oper} {x y:Code} {c:Operand}
theorem lop (hg:γ.tag i≠.gone) (ho:ops[l]?=some o) (hw:Region.wanted o (yielded ops a.tmps)=true) (hk:b.kind≠.early)
  (h:∀(w2:World) (K':Act->World->Prop),(∀a' (w':World),w'=w2->(execOp a.eval o).events P w2 #[]=#[]->LV P ty top Post i γ w (G (b.at a' (.inRegion ops rest::k)) cs)->K' a' w')->uponK o a K' ((execOp a.eval o).run P w2)) :
  LV P ty top Post i γ w (G (b.at a (.inRegion ops (l::rest)::k)) cs) :=
 lives_pure rfl hg fun w2=>goes_oper_k ho hw hk fun K' hK=>h w2 K' fun a' w' e1 e2 e3=>hK a' w' ⟨⟨e1,no_listed e2⟩,e3⟩
theorem lsq (hg:γ.tag i≠.gone) (h:LV P ty top Post i γ w (G (b.at a (.code x::.code y::k)) cs)):LV P ty top Post i γ w (G (b.at a (.code (.seq x y)::k)) cs):=lives_ctl rfl hg (fun _=>stepG_seq) h
theorem len (hg:γ.tag i≠.gone) (h:LV P ty top Post i γ w (G (b.at a k) cs)):LV P ty top Post i γ w (G (b.at a (.inRegion ops []::k)) cs):=lives_ctl rfl hg (fun _=>stepG_region_end) h
theorem lsk (hg:γ.tag i≠.gone) (h:LV P ty top Post i γ w (G (b.at a k) cs)):LV P ty top Post i γ w (G (b.at a (.code .skip::k)) cs):=lives_ctl rfl hg (fun _=>stepG_skip) h
theorem lun (hg:γ.tag i≠.gone) (ho:ops[l]?=some o) (hw:Region.wanted o (yielded ops a.tmps)=false) (h:LV P ty top Post i γ w (G (b.at (a.put o.dst undef) (.inRegion ops rest::k)) cs)):LV P ty top Post i γ w (G (b.at a (.inRegion ops (l::rest)::k)) cs):=lives_ctl rfl hg (fun _=>stepG_unwanted ho hw) h
theorem lct (hg:γ.tag i≠.gone) (e:a.eval c=.bool true) (h:LV P ty top Post i γ w (G (b.at a (.code x::k)) cs)):LV P ty top Post i γ w (G (b.at a (.code (.cond c x y)::k)) cs):=lives_ctl rfl hg (fun _=>stepG_cond (t:=true) e) h
theorem lcf (hg:γ.tag i≠.gone) (e:a.eval c=.bool false) (h:LV P ty top Post i γ w (G (b.at a (.code y::k)) cs)):LV P ty top Post i γ w (G (b.at a (.code (.cond c x y)::k)) cs):=lives_ctl rfl hg (fun _=>stepG_cond (t:=false) e) h
def ix (n:Nat):List Oper->List Nat
 | []=>[]
 | _::l=>n::ix (n+1) l
theorem ix_range:∀(l:List Oper) (n:Nat),ix n l=List.range' n l.length
 | [],_=>rfl
 | _::l,n=>by rw[ix,ix_range l (n+1),List.length_cons,List.range'_succ]
theorem lrg {l:List Oper} (hg:γ.tag i≠.gone) (h:LV P ty top Post i γ w (G (b.at a (.inRegion l.toArray (ix 0 l)::k)) cs)):LV P ty top Post i γ w (G (b.at a (.code (.region id l.toArray false)::k)) cs) :=
 lives_ctl rfl hg (fun _=>stepG_region) (by rw[List.size_toArray,List.range_eq_range',<- ix_range];exact h)
end
end Go.Proofs.YtbicafgmfgdckaaDoor
namespace Go.Proofs.YtbicafgmfgdckaaDoor
open Go Go.Conc
section
variable {P:Program} {main:Bool} {b:Frame} {a:Act} {k:List Item} {cs:List Frame} {w:World}
def dclose (ats:Array TypeId) (ty:TypeId) (consts:Array Bool) (v:Value):Deferred:={ target:=.builtin .close ats ty consts,args:=#[v] }
theorem stepG_defer_close {ops:Array Oper} {i:Nat} {rest:List Nat} {o:Oper} {x:Nat} {ats:Array TypeId} (ho:ops[i]?=some o) (hw:Region.wanted o (yielded ops a.tmps)=true) (hk:b.kind≠.early)
  (hop:o.op=.defer { callee:=.builtin .close,args:=#[.tmp x],argTypes:=ats }) :
  stepG P main (G (b.at a (.inRegion ops (i::rest)::k)) cs) w=.go (G (b.at (Act.put ⟨a.tmps,dclose ats o.type #[false] (a.eval (.tmp x))::a.defers⟩ o.dst undef) (.inRegion ops rest::k)) cs) w #[]:=by
 have hr:(execOp a.eval o).run P w=.ok (.defer (dclose ats o.type #[false] (a.eval (.tmp x)))) w:=by
  unfold execOp
  simp[hop,resolve,dclose]
 have he:(execOp a.eval o).events P w #[]=#[]:=by
  unfold execOp
  simp[hop,resolve]
 have hfin:(b.at ⟨a.tmps,dclose ats o.type #[false] (a.eval (.tmp x))::a.defers⟩ (.inRegion ops (i::rest)::k)).finish undef=b.at (Act.put ⟨a.tmps,dclose ats o.type #[false] (a.eval (.tmp x))::a.defers⟩ o.dst undef) (.inRegion ops rest::k):=by rw[Frame.finish_at,ho];rfl
 have hk':(b.kind==CallKind.early)=false:=by simpa using hk
 rw[stepG_oper ho hw,<- hfin]
 simp[stepG.apply,hr,he,G,Frame.at,hk',GStep.after,seen_none]
theorem stepG_unwind_close {todo:List Item} {ds:List Deferred} {ats:Array TypeId} {ty:TypeId} {consts:Array Bool} {r room s rc:Nat} {buf:Array Value} {tm:Bool} (hd:a.defers=dclose ats ty consts (.chan (some r))::ds)
  (h:w.heap[r]?=some (.chan room buf false s rc tm)) :
  stepG P main (G { b.at a todo with mode:=.returning } cs) w=.go (G { b.at ⟨a.tmps,ds⟩ todo with mode:=.returning } cs) (w.setChan r room buf true s rc tm) #[⟨.obj r,false,true⟩,⟨.obj r,true,true⟩]:=by
 have hr:(builtin .close ats ty consts #[.chan (some r)]).run P w=.ok (.value (.tuple #[])) (w.setChan r room buf true s rc tm):=by
  show (do pure (Next.value (<- Builtin.close_ ats ty #[.chan (some r)])):Sem Next).run P w=_
  simp[run_close_open ats ty h]
  rfl
 have he:(builtin .close ats ty consts #[.chan (some r)]).events P w #[]=#[⟨.obj r,false,true⟩,⟨.obj r,true,true⟩]:=by
  show (do pure (Next.value (<- Builtin.close_ ats ty #[.chan (some r)])):Sem Next).events P w #[]=_
  simp[run_close_open ats ty h,events_close_open ats ty h]
 have hs:seen P b.fn #[⟨.obj r,false,true⟩,⟨.obj r,true,true⟩]=#[⟨.obj r,false,true⟩,⟨.obj r,true,true⟩]:=by
  rw[seen_def,seen_fold_sync _ _ _ _ (fun x hx=>by
   simp only[List.mem_cons,List.not_mem_nil,or_false] at hx
   rcases hx with rfl|rfl<;>exact⟨rfl,fun g h=>by cases h⟩)]
  rfl
 simp[G,stepG,unwind,callDeferred,Frame.at,hd,dclose,invoke,hr,he,hs,GStep.after]
theorem stepG_callv {ops:Array Oper} {i:Nat} {rest:List Nat} {o:Oper} {f:FuncId} {fn:Func} {c:Code} {x:Operand} {args:Array Operand} {ats:Array TypeId} {first caps:Array Value}
  (ho:ops[i]?=some o) (hw:Region.wanted o (yielded ops a.tmps)=true) (hk:b.kind≠.early) (hop:o.op=.call { callee:=.value x,args,argTypes:=ats }) (hx:a.eval x=.func (.func f) first caps)
  {vs:Array Value} (hvs:first++args.map a.eval++caps=vs) (hf:P.funcs[f]?=some fn) (hname:(fn.name == "runtime.NumGoroutine")=false) (hb:fn.body=some c) :
  stepG P main (G (b.at a (.inRegion ops (i::rest)::k)) cs) w=.go (G ((base f).at { tmps:=vs++Array.replicate (fn.ntmps - vs.size) undef,defers:=[] } [.code c]) (b.at a (.inRegion ops (i::rest)::k)::cs)) w #[]:=by
 subst hvs
 have h1:¬fn.name = "runtime.NumGoroutine":=by simpa using hname
 have hr:(execOp a.eval o).run P w=.ok (.enter f (first++args.map a.eval++caps)) w:=by
  unfold execOp
  simp[hop,resolve,Deferred.ofValue,hx,invoke,callFunc,hf,h1,hb]
 have he:(execOp a.eval o).events P w #[]=#[]:=by
  unfold execOp
  simp[hop,resolve,Deferred.ofValue,hx,invoke,callFunc,hf,h1,hb]
 rw[stepG_enter ho hw hk hr,enter_at _ hf hb]
 have:listed P b.fn a o w=#[]:=by unfold listed;rw[he];exact seen_none P _
 rw[this]
theorem stepG_callE {ops:Array Oper} {i:Nat} {rest:List Nat} {o:Oper} {f:FuncId} {fn:Func} {args:Array Operand} {ats:Array TypeId}
  (ho:ops[i]?=some o) (hw:Region.wanted o (yielded ops a.tmps)=true) (hk:b.kind≠.early) (hop:o.op=.call { callee:=.value (.func f),args,argTypes:=ats }) {vs:Array Value} (hvs:args.map a.eval=vs)
  (hf:P.funcs[f]?=some fn) (hname:(fn.name == "runtime.NumGoroutine")=false) (hb:fn.body.isNone=false) :
  stepG P main (G (b.at a (.inRegion ops (i::rest)::k)) cs) w=.go (G (Frame.enter P f vs .normal) (b.at a (.inRegion ops (i::rest)::k)::cs)) w #[]:=by
 subst hvs
 rw[stepG_enter ho hw hk (run_call_body hop hf hname hb)]
 have:listed P b.fn a o w=#[]:=by unfold listed;rw[events_call_body hop hf hname hb];exact seen_none P _
 rw[this]
end
end Go.Proofs.YtbicafgmfgdckaaDoor
