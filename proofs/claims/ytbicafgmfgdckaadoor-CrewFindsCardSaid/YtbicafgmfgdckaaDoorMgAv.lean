/- A worker and the flag of the once, the end of the feeding, the least place: one step each. A worker: the deferred Unlock; what it takes to the least place. The crew's pact: a region that draws its order. For any program. The once, in the crew. -/
import Derived.Test.YtbicafgmfgdckaaDoorMgAp
import Derived.Test.YtbicafgmfgdckaaDoorMgAm
import Derived.Test.YtbicafgmfgdckaaDoorMgAu
import Derived.Test.YtbicafgmfgdckaaDoorMgAn
import Derived.Conc.CompanyDraw
import Derived.Conc.TokenWalk
namespace Go.Proofs.YtbicafgmfgdckaaDoor
open Go Go.RowKit Go.Conc Go.Conc.Lib Go.ConcR.Gen
open Go.ConcR (KK wgBlock WgAt stA smA rd wr mk DC0)
open Go.ConcN (sumTo upd upd_same upd_ne RelBy PermW WgLive)
section
variable {P:Program} {ty:TypeId} {top:Nat} {γ γ' γ2:Gho} {p:Ph} {w w' w2:World} {i j n m y d:Nat} {f:Nat->ML} {Post:Value->World->Prop} {g g':Goroutine}
theorem lv_flag {gv:Bool->Goroutine} (h:In p i y d f γ) (hr:g.status=.running) (hst:∀(w:World) (b:Bool),w.cell? ⟨p.once,0,none⟩=some (.int .u32 (if b then 1 else 0))->stepG P (i==0) g w=.go (gv b) w #[rd ⟨p.once,0,none⟩])
  (K:∀γ' w',In p i y d f γ'->Aft i p γ γ'->(γ'.sk.od=true->∃x,γ'.sk.took x)->LV P ty top Post i γ' w' (gv γ'.sk.od)):LV P ty top Post i γ w g:=by
 refine lv_step h hr fun γ2 w2 h2 hrel hA hI hi=>?_
 have hS:=h2.seek hI
 have c1:w2.cell? ⟨p.once,0,none⟩=some (.int .u32 (if γ2.sk.od then 1 else 0)):=by simp[World.cell?,hS.once]
 refine nx_look h2 hI hi rfl rfl (.refl _) (fun z hz=>?_) (by simp[deafBehind,rd]) (hst w2 _ c1) (K _ _ h2 hA fun q=>hS.stp (hS.od1 q))
 simp only[List.mem_toArray,List.mem_singleton] at hz
 subst hz
 exact .inl ⟨_,false,rfl,(hS.lt hI.hs).2,.inl ⟨_,hS.bonce⟩⟩
theorem lv_halt (h:In p i y 0 (upd f 1 (.own 1)) γ) (hr:g.status=.running) (h2:∀k,k < 2->k≠1->f k=.off\/f k=.fresh) (hod:γ.sk.od=false) {x:Nat} (hx:γ.sk.took x) (hwk:mayWake P g=true)
  (hst:∀w s rc,w.heap[p.stop]?=some (.chan 0 #[] false s rc false)->stepG P (i==0) g w=.go g' (w.setChan p.stop 0 #[] true s rc false) #[⟨.obj p.stop,false,true⟩,⟨.obj p.stop,true,true⟩])
  (K:∀γ' w',In p i y 0 (upd f 1 (.own 2)) γ'->Aft i p γ γ'->γ'.stp=true->LV P ty top Post i γ' w' g'):LV P ty top Post i γ w g:=by
 refine lv_step h hr fun γ2 w2 h2' hrel hA hI hi=>?_
 have hS:=h2'.seek hI
 have e1:=hrel.od _ (h.own_ (m:=1) (by omega))
 have hml:=h2'.own_ (m:=1) (by omega)
 have hod2:γ2.sk.od=false:=e1.1.trans hod
 have hst2:γ2.stp=false:=by
  cases q:γ2.stp with
  | false=>rfl
  | true =>
   obtain⟨k,hk⟩:=hS.od0 hod2 q
   have:=(hS.mi 1 (by omega)).one hk hml
   subst this
   rw[hml] at hk
   cases hk
 have hc:=(hI.core p h2'.ph).stop
 rw[hst2] at hc
 have hDo:=do_halt (P:=P) (Post:=Post) hI h2'.ph h2'.kind h2'.b hi h2'.tag hml (h2'.others h2) hod2 (hA.took x hx) hc (mayWake P g=true) hwk
 have q:=h2'.owns (k':=2) (o:=none) (B:=p.out) (tk:=γ2.sk.took) (od:=γ2.sk.od) (d':=0)
 have A2:=own_aft (k':=2) (o:=none) (tk:=γ2.sk.took) (od:=γ2.sk.od) (d':=0) h2' hI (by omega) fun _ q=>q
 refine .go g' _ _ _ (hst w2 _ _ hc) hDo (K _ _ ⟨q.ph,q.kind,q.b,q.i0,q.tag,?_,q.ml⟩ (hA.trans ⟨⟨A2.kw.hs,A2.kw.fx,A2.kw.ph,A2.kw.col,A2.kw.next⟩,A2.took,A2.v⟩) rfl)
 show upd γ2.deaf i (γ2.deaf i) i=0
 rw[upd_same];exact h2'.deaf
theorem lv_made (h:In p i y 0 (upd f 1 (.own 2)) γ) (hr:g.status=.running) (h2:∀k,k < 2->k≠1->f k=.off\/f k=.fresh) (hs:γ.stp=true)
  (hst:∀w u,w.cell? ⟨p.once,0,none⟩=some u->w.frozen? ⟨p.once,0,none⟩=false->stepG P (i==0) g w=.go g' (w.setCell ⟨p.once,0,none⟩ (.int .u32 1)) #[wr ⟨p.once,0,none⟩])
  (K:∀γ' w',In p i y 0 (upd f 1 (.own 1)) γ'->Aft i p γ γ'->LV P ty top Post i γ' w' g'):LV P ty top Post i γ w g:=by
 refine lv_step h hr fun γ2 w2 h2' hrel hA hI hi=>?_
 have hS:=h2'.seek hI
 have e1:=hrel.od _ (h.own_ (m:=1) (by omega))
 have c1:w2.cell? ⟨p.once,0,none⟩=some (.int .u32 (if γ2.sk.od then 1 else 0)):=by simp[World.cell?,hS.once]
 have hDo:=do_made (P:=P) (Post:=Post) hI h2'.ph h2'.kind h2'.b hi h2'.tag (h2'.own_ (by omega)) (h2'.others h2) (e1.2.trans hs) (mayWake P g=true)
 rw[h2'.deaf] at hDo
 exact .go g' _ _ _ (hst w2 _ c1 (by simp[World.frozen?,hS.once])) hDo (K _ _ h2'.owns (hA.trans (own_aft h2' hI (by omega) fun _ q=>q)))
theorem lv_at {v v':Int} (h:In p i y 0 (upd f 0 (.own 1)) γ) (hr:g.status=.running) (h2:∀k,k < 2->k≠0->f k=.off\/f k=.fresh) (hv:w.cell? ⟨p.out,2,none⟩=some (.int .i64 v)) {tk:Nat->Prop} (hy:p.hit y) (ht:∀x,tk x↔γ.sk.took x\/(x=y/\tk y)) (hB:BestV tk v')
  (hst:∀w:World,w.cell? ⟨p.out,2,none⟩=some (.int .i64 v)->w.frozen? ⟨p.out,2,none⟩=false->∃w' es,stepG P (i==0) g w=.go g' w' es/\(w'=w/\v'=v\/w'=w.setCell ⟨p.out,2,none⟩ (.int .i64 v'))/\∀e∈es,∃z,e=⟨.cell ⟨p.out,2,none⟩,z,false⟩)
  (K:∀γ' w',In p i y 0 (upd f 0 (.own 1)) γ'->Aft i p γ γ'->(∀x,γ'.sk.took x↔tk x)->w'.cell? ⟨p.out,2,none⟩=some (.int .i64 v')->LV P ty top Post i γ' w' g'):LV P ty top Post i γ w g:=by
 refine lv_step h hr fun γ2 w2 h2' hrel hA hI hi=>?_
 have hS:=h2'.seek hI
 obtain⟨e1,e2⟩:=hrel.at_ (h.own_ (m:=0) (by omega))
 rw[hv] at e1
 obtain⟨vb,qb,_⟩:=hS.best
 have hfr:w2.frozen? ⟨p.out,2,none⟩=false:=by simp[World.frozen?,qb]
 obtain⟨w3,es,q1,q2,q3⟩:=hst w2 e1 hfr
 have c3:w3.cell? ⟨p.out,2,none⟩=some (.int .i64 v'):=by
  rcases q2 with⟨rfl,rfl⟩|rfl
  ·exact e1
  ·rw[World.cell?,heap_setCell];simp[qb]
 have hlt:=((hI.core p h2'.ph).busy.1 i y (.inl h2'.tag)).1
 have hDo:=do_at (P:=P) (Post:=Post) (tk:=tk) (w':=w3) (es:=es) hI h2'.ph h2'.kind h2'.b hi h2'.tag (h2'.own_ (by omega)) (h2'.others h2) (by rcases q2 with⟨e,_⟩|e;exact .inl e;exact .inr ⟨v',e⟩) (fun u hu=>by rw[c3] at hu;injection hu with hu;injection hu with _ hu;subst hu;exact hB) (fun x hx=>by rcases (ht x).1 hx with q|⟨rfl,_⟩;exact hS.took x ((e2 x).2 q);exact⟨hy,hlt⟩) (fun x hx=>(ht x).2 (.inl ((e2 x).1 hx))) q3 (mayWake P g=true)
 rw[h2'.deaf] at hDo
 exact .go g' _ _ _ q1 hDo (K _ _ h2'.owns (hA.trans (own_aft h2' hI (by omega) fun x hx=>(ht x).2 (.inl ((e2 x).1 hx)))) (fun _=>Iff.rfl) c3)
theorem lv_best {gv:Int->Goroutine} (h:In p i y 0 (upd f 0 (.own 1)) γ) (hr:g.status=.running) (h2:∀k,k < 2->k≠0->f k=.off\/f k=.fresh)
  (hst:∀(w:World) (v:Int),w.cell? ⟨p.out,2,none⟩=some (.int .i64 v)->stepG P (i==0) g w=.go (gv v) w #[⟨.cell ⟨p.out,2,none⟩,false,false⟩])
  (K:∀γ2 w2 (v:Int),In p i y 0 (upd f 0 (.own 1)) γ2->Aft i p γ γ2->w2.cell? ⟨p.out,2,none⟩=some (.int .i64 v)->BestV γ2.sk.took v->LV P ty top Post i γ2 w2 (gv v)):LV P ty top Post i γ w g:=by
 refine lv_step h hr fun γ2 w2 h2' hrel hA hI hi=>?_
 have hS:=h2'.seek hI
 obtain⟨vb,qb,hb⟩:=hS.best
 have e1:w2.cell? ⟨p.out,2,none⟩=some (.int .i64 vb):=by simp[World.cell?,qb]
 have hDo:=do_at (P:=P) (Post:=Post) (tk:=γ2.sk.took) (w':=w2) (es:=#[⟨.cell ⟨p.out,2,none⟩,false,false⟩]) hI h2'.ph h2'.kind h2'.b hi h2'.tag (h2'.own_ (by omega)) (h2'.others h2) (.inl rfl) (fun u hu=>by rw[e1] at hu;injection hu with hu;injection hu with _ hu;subst hu;exact hb) (fun x hx=>hS.took x hx) (fun _ q=>q) (fun e he=>⟨false,by simpa using he⟩) (mayWake P g=true)
 rw[h2'.deaf] at hDo
 exact .go _ _ _ _ (hst w2 _ e1) hDo (K _ _ _ h2'.owns (hA.trans (own_aft h2' hI (by omega) fun _ q=>q)) e1 hb)
theorem lv_looked (h:In p i y 0 f γ) (hr:g.status=.running) (h2:∀k,k < 2->f k=.off\/f k=.fresh) (hy:p.hit y->γ.sk.took y) (hst:∀w,stepG P (i==0) g w=.go g' w #[])
  (K:∀γ' w',Kw i γ γ'->γ'.ph=some p->γ'.tag i=.idle->γ'.deaf i=0->LV P ty top Post i γ' w' g'):LV P ty top Post i γ w g:=by
 refine lv_step h hr fun γ2 w2 h2' hrel hA hI hi=>?_
 have hDo:=do_looked (P:=P) (Post:=Post) hI h2'.ph h2'.kind h2'.b hi h2'.tag h2'.deaf (fun z hz=>by rw[h2'.ml z hz];exact h2 z hz) (fun q=>hA.took y (hy q)) (mayWake P g=true)
 exact .go _ _ _ _ (hst w2) hDo (K _ _ ⟨hA.kw.hs,hA.kw.fx,hA.kw.ph,hA.kw.col,hA.kw.next⟩ h2'.ph (upd_same _ _ _) h2'.deaf)
section
variable {main:Bool} {b:Frame} {a:Act} {kk:List Item} {cs:List Frame} {ops:Array Oper} {l:Nat} {rest:List Nat} {o:Oper}
theorem stepG_loadP {x:Operand} (ho:ops[l]?=some o) (hw:Region.wanted o (yielded ops a.tmps)=true) (hk:b.kind≠.early) (hop:o.op=.load 3 x)
  {ad:Addr} {v:Int} (hx:a.eval x=.pointer (some ad)) (hq:(Tryd.prog.funcs[b.fn]?).any (·.norace)=false) (hc:w.cell? ad=some (.int .i64 v)) :
  stepG Tryd.prog main (G (b.at a (.inRegion ops (l::rest)::kk)) cs) w=.go (G (b.at (a.put o.dst (.int .i64 v)) (.inRegion ops rest::kk)) cs) w #[⟨.cell ad,false,false⟩]:=by
 have hr:(execOp a.eval o).run Tryd.prog w=.ok (.value (.int .i64 v)) w:=by
  unfold execOp
  simp only[hop,hx]
  simp[go_sem,hc]
 have he:(execOp a.eval o).events Tryd.prog w #[]=#[⟨.cell ad,false,false⟩]:=by
  unfold execOp
  simp only[hop,hx]
  simp[go_sem,hc]
 rw[stepG_value ho hw hk hr]
 unfold listed
 rw[he,seen_def,hq]
 simp[seenStep]
theorem stepG_storeP {x z:Operand} (ho:ops[l]?=some o) (hw:Region.wanted o (yielded ops a.tmps)=true) (hk:b.kind≠.early) (hop:o.op=.store 3 x z)
  {ad:Addr} {v:Int} {u:Value} (hx:a.eval x=.pointer (some ad)) (hz:a.eval z=.int .i64 v) (hq:(Tryd.prog.funcs[b.fn]?).any (·.norace)=false) (hc:w.cell? ad=some u) (hf:w.frozen? ad=false) :
  stepG Tryd.prog main (G (b.at a (.inRegion ops (l::rest)::kk)) cs) w=.go (G (b.at (a.put o.dst undef) (.inRegion ops rest::kk)) cs) (w.setCell ad (.int .i64 v)) #[⟨.cell ad,true,false⟩]:=by
 have hr:(execOp a.eval o).run Tryd.prog w=.ok .skip (w.setCell ad (.int .i64 v)):=by
  unfold execOp
  simp only[hop,hx,hz]
  simp[go_sem,hc,hf]
 have he:(execOp a.eval o).events Tryd.prog w #[]=#[⟨.cell ad,true,false⟩]:=by
  unfold execOp
  simp only[hop,hx,hz]
  simp[go_sem,hc,hf]
 rw[stepG_none ho hw hk hr]
 unfold listed
 rw[he,seen_def,hq]
 simp[seenStep]
end
end
end Go.Proofs.YtbicafgmfgdckaaDoor
namespace Go.Proofs.YtbicafgmfgdckaaDoor
open Go Go.RowKit Go.Conc Go.Conc.Lib Go.ConcR.Gen
open Go.ConcR (KK wgBlock WgAt stA smA rd wr mk DC0)
open Go.ConcN (sumTo upd upd_same upd_ne RelBy PermW WgLive)
section
variable {top:Nat} {γ γ' γ2:Gho} {p:Ph} {w w' w2:World} {i j k n m y:Nat} {f:Nat->ML} {a b:ML} {Post:Value->World->Prop} {es:Array Event} {g g':Goroutine} {c:Frame} {cs:List Frame}
set_option maxRecDepth 100000 in
set_option maxHeartbeats 4000000 in
theorem lives_unlockD (hm:m < 2) (h2:∀k,k < 2->k≠m->f k=.off\/f k=.fresh) (h:In p i y 0 (upd f m (.own 1)) γ) (hc:c.mode=.returning)
  (KD:∀γ' w',In p i y 0 (upd f m .off) γ'->Aft i p γ γ'->LV Tryd.prog wgLink.tWg top Post i γ' w' (G c cs)) :
  LV Tryd.prog wgLink.tWg top Post i γ w (G ((baseD 40).at ⟨#[.pointer (some (p.muA m))]++Array.replicate 5 undef,[]⟩ [.code (Tryd.f40.body.getD .skip)]) (c::cs)):=by
 have hg:=h.ng
 simp only[Tryd.f40,Option.getD_some]
 (try walk_nrm);refine lrg hg ?_;simp only[ix,Nat.reduceAdd];(iterate 3 (refine lop hg rfl rfl (by k_ne) fun v W H=>?_;go_simp;refine H _ _ rfl (by simp[go_sem]) ?_;clear H W v;try walk_nrm))
 refine lives_ctl rfl hg (fun _=>stepG_callv (first:=#[]) (caps:=#[]) (vs:=#[.pointer (some (p.muA m))]) rfl rfl (by k_ne) rfl rfl (by simp[Act.eval]) Tryd.func70 (by kernel_rfl) rfl) ?_
 refine lives_unlockI hm h2 h fun γ4 w4 h4 A4=>?_
 rw[Frame.finish_at];clear hg;have hg:=h4.ng;(try walk_nrm);refine len hg ?_
 refine lives_ctl rfl hg (fun _=>stepG_end) ?_
 exact lives_ctl rfl hg (fun w2=>stepG_leave_deferred (v:=.tuple #[]) rfl rfl Tryd.func40 (by kernel_rfl) (by kernel_rfl) hc) (KD _ _ h4 A4)
set_option maxRecDepth 100000 in
set_option maxHeartbeats 4000000 in
theorem lives_take (h2:∀k,k < 2->k≠0->f k=.off\/f k=.fresh) (h:In p i y 0 (upd f 0 .fresh) γ) (hy:p.hit y)
  (KD:∀γ' w',In p i y 0 (upd f 0 .off) γ'->Aft i p γ γ'->γ'.sk.took y->LV Tryd.prog wgLink.tWg top Post i γ' w' (G (c.finish (.tuple #[])) cs)) :
  LV Tryd.prog wgLink.tWg top Post i γ w (G ((base 24).at ⟨#[.pointer (some ⟨p.out,0,none⟩),.int .i64 (y:Nat)]++Array.replicate 26 undef,[]⟩ [.code (Tryd.f24.body.getD .skip)]) (c::cs)):=by
 have hg:=h.ng
 simp only[Tryd.f24,Option.getD_some]
 (try walk_nrm);refine lsq hg ?_;refine lrg hg ?_;simp only[ix,Nat.reduceAdd];(iterate 3 (refine lop hg rfl rfl (by k_ne) fun v W H=>?_;go_simp;refine H _ _ rfl (by simp[go_sem]) ?_;clear H W v;try walk_nrm))
 refine lives_ctl rfl hg (fun _=>stepG_callv (first:=#[]) (caps:=#[]) (vs:=#[.pointer (some ⟨p.out,0,none⟩)]) rfl rfl (by k_ne) rfl rfl (by simp[Act.eval]) Tryd.func39 (by kernel_rfl) rfl) ?_
 refine lives_lock (m:=0) (by omega) h2 h fun γ4 w4 h4 A4=>?_
 rw[Frame.finish_at];clear hg;have hg:=h4.ng;(try walk_nrm);refine len hg ?_;refine lsq hg ?_;refine lrg hg ?_;simp only[ix,Nat.reduceAdd];(iterate 3 (refine lop hg rfl rfl (by k_ne) fun v W H=>?_;go_simp;refine H _ _ rfl (by simp[go_sem]) ?_;clear H W v;try walk_nrm))
 refine lives_ctl rfl hg (fun _=>stepG_defer rfl rfl (by k_ne) rfl) ?_
 (try walk_nrm);refine len hg ?_;refine lsq hg ?_;refine lrg hg ?_;simp only[ix,Nat.reduceAdd];(iterate 3 (refine lop hg rfl rfl (by k_ne) fun v W H=>?_;go_simp;refine H _ _ rfl (by simp[go_sem]) ?_;clear H W v;try walk_nrm))
 refine lv_best h4 rfl h2 (fun w v hc=>stepG_loadP rfl rfl (by k_ne) rfl (by simp[Act.eval]) (by kernel_rfl) hc) fun γ7 w7 v h7 A7 hv hB=>?_
 clear hg;have hg:=h7.ng;try walk_nrm
 by_cases hneg:v < 0
 ·have hB':BestV (fun x=>γ7.sk.took x\/x=y) (y:Int):=by
   rcases hB with⟨rfl,hn⟩|⟨z,rfl,_⟩
   ·exact .inr ⟨y,rfl,.inr rfl,fun x hx=>by rcases hx with q|rfl;exact absurd q (hn x);exact Nat.le_refl _⟩
   ·omega
  have n1:decide (v < 0)=true:=by simpa using hneg
  (iterate 2 (refine lop hg rfl rfl (by k_ne) fun v W H=>?_;go_simp;refine H _ _ rfl (by simp[go_sem]) ?_;clear H W v;try walk_nrm));refine lun hg rfl rfl ?_;(try walk_nrm);refine lun hg rfl rfl ?_;(try walk_nrm);refine lun hg rfl rfl ?_;(try walk_nrm);refine lun hg rfl rfl ?_;(try walk_nrm);refine lun hg rfl rfl ?_;(try walk_nrm);refine lun hg rfl rfl ?_;(try walk_nrm);refine lop hg rfl rfl (by k_ne) fun v W H=>?_;go_simp;refine H _ _ rfl (by simp[go_sem]) ?_;clear H W v;(try walk_nrm);refine len hg ?_;refine lct hg rfl ?_;refine lrg hg ?_;simp only[ix,Nat.reduceAdd];(iterate 4 (refine lop hg rfl rfl (by k_ne) fun v W H=>?_;go_simp;refine H _ _ rfl (by simp[go_sem]) ?_;clear H W v;try walk_nrm))
  refine lv_at (v':=(y:Int)) h7 rfl h2 hv (tk:=fun x=>γ7.sk.took x\/x=y) hy (fun x=>⟨fun q=>q.imp id fun e=>⟨e,.inr rfl⟩,fun q=>q.imp id And.left⟩) hB' (fun w hc hf=>⟨_,_,stepG_storeP rfl rfl (by k_ne) rfl (by simp[Act.eval]) (by simp[Act.eval]) (by kernel_rfl) hc hf,.inr rfl,fun e he=>⟨true,by simpa using he⟩⟩) fun γ8 w8 h8 A8 t8 _=>?_
  clear hg;have hg:=h8.ng;(try walk_nrm);refine len hg ?_
  refine lives_ctl rfl hg (fun _=>stepG_end) ?_
  refine lives_ctl rfl hg (fun _=>stepG_unwind_enter rfl Tryd.func40 (by kernel_rfl) rfl) ?_
  refine lives_unlockD (m:=0) (by omega) h2 h8 rfl fun γ9 w9 h9 A9=>?_
  clear hg;have hg:=h9.ng
  exact lives_ctl rfl hg (fun w2=>stepG_leave (v:=.tuple #[]) rfl rfl Tryd.func24 (by kernel_rfl) (by kernel_rfl)) (KD _ _ h9 (((A4.trans A7).trans A8).trans A9) (A9.took _ ((t8 y).2 (.inr rfl))))
 ·have n1:decide (v < 0)=false:=by simpa using hneg
  by_cases hlt:(y:Int) < v
  ·have n2:decide ((y:Int) < v)=true:=by simpa using hlt
   have hB':BestV (fun x=>γ7.sk.took x\/x=y) (y:Int):=by
    rcases hB with⟨rfl,hn⟩|⟨z,rfl,hz,hm⟩
    ·omega
    ·exact .inr ⟨y,rfl,.inr rfl,fun x hx=>by rcases hx with q|rfl;exact(by have:=hm x q;omega);exact Nat.le_refl _⟩
   (iterate 6 (refine lop hg rfl rfl (by k_ne) fun v W H=>?_;go_simp;refine H _ _ rfl (by simp[go_sem]) ?_;clear H W v;try walk_nrm))
   refine lv_at (v':=v) h7 rfl h2 hv (tk:=γ7.sk.took) hy (fun x=>⟨.inl,fun q=>q.elim id fun e=>e.1 ▸ e.2⟩) hB (fun w hc hf=>⟨_,_,stepG_loadP rfl rfl (by k_ne) rfl (by simp[Act.eval]) (by kernel_rfl) hc,.inl ⟨rfl,rfl⟩,fun e he=>⟨false,by simpa using he⟩⟩) fun γ10 w10 h10 A10 t10 hv10=>?_
   clear hv
   have hv:=hv10
   replace hB':BestV (fun x=>γ10.sk.took x\/x=y) (y:Int):=by
    rw[show (fun x=>γ10.sk.took x\/x=y)=(fun x=>γ7.sk.took x\/x=y) from funext fun x=>by rw[propext (t10 x)]]
    exact hB'
   clear hg;have hg:=h10.ng;(try walk_nrm);(iterate 2 (refine lop hg rfl rfl (by k_ne) fun v W H=>?_;go_simp;refine H _ _ rfl (by simp[go_sem]) ?_;clear H W v;try walk_nrm));refine len hg ?_;refine lct hg rfl ?_;refine lrg hg ?_;simp only[ix,Nat.reduceAdd];(iterate 4 (refine lop hg rfl rfl (by k_ne) fun v W H=>?_;go_simp;refine H _ _ rfl (by simp[go_sem]) ?_;clear H W v;try walk_nrm))
   refine lv_at (v':=(y:Int)) h10 rfl h2 hv (tk:=fun x=>γ10.sk.took x\/x=y) hy (fun x=>⟨fun q=>q.imp id fun e=>⟨e,.inr rfl⟩,fun q=>q.imp id And.left⟩) hB' (fun w hc hf=>⟨_,_,stepG_storeP rfl rfl (by k_ne) rfl (by simp[Act.eval]) (by simp[Act.eval]) (by kernel_rfl) hc hf,.inr rfl,fun e he=>⟨true,by simpa using he⟩⟩) fun γ8 w8 h8 A8 t8 _=>?_
   clear hg;have hg:=h8.ng;(try walk_nrm);refine len hg ?_
   refine lives_ctl rfl hg (fun _=>stepG_end) ?_
   refine lives_ctl rfl hg (fun _=>stepG_unwind_enter rfl Tryd.func40 (by kernel_rfl) rfl) ?_
   refine lives_unlockD (m:=0) (by omega) h2 h8 rfl fun γ9 w9 h9 A9=>?_
   clear hg;have hg:=h9.ng
   exact lives_ctl rfl hg (fun w2=>stepG_leave (v:=.tuple #[]) rfl rfl Tryd.func24 (by kernel_rfl) (by kernel_rfl)) (KD _ _ h9 ((((A4.trans A7).trans A10).trans A8).trans A9) (A9.took _ ((t8 y).2 (.inr rfl))))
  ·have n2:decide ((y:Int) < v)=false:=by simpa using hlt
   have hB':BestV (fun x=>γ7.sk.took x\/x=y) v:=by
    rcases hB with⟨rfl,hn⟩|⟨z,rfl,hz,hm⟩
    ·omega
    ·exact .inr ⟨z,rfl,.inl hz,fun x hx=>by rcases hx with q|rfl;exact hm x q;omega⟩
   (iterate 6 (refine lop hg rfl rfl (by k_ne) fun v W H=>?_;go_simp;refine H _ _ rfl (by simp[go_sem]) ?_;clear H W v;try walk_nrm))
   refine lv_at (v':=v) h7 rfl h2 hv (tk:=fun x=>γ7.sk.took x\/x=y) hy (fun x=>⟨fun q=>q.imp id fun e=>⟨e,.inr rfl⟩,fun q=>q.imp id And.left⟩) hB' (fun w hc hf=>⟨_,_,stepG_loadP rfl rfl (by k_ne) rfl (by simp[Act.eval]) (by kernel_rfl) hc,.inl ⟨rfl,rfl⟩,fun e he=>⟨false,by simpa using he⟩⟩) fun γ10 w10 h10 A10 t10 _=>?_
   clear hg;have hg:=h10.ng;(try walk_nrm);(iterate 2 (refine lop hg rfl rfl (by k_ne) fun v W H=>?_;go_simp;refine H _ _ rfl (by simp[go_sem]) ?_;clear H W v;try walk_nrm));refine len hg ?_;refine lcf hg rfl ?_;refine lsk hg ?_
   refine lives_ctl rfl hg (fun _=>stepG_end) ?_
   refine lives_ctl rfl hg (fun _=>stepG_unwind_enter rfl Tryd.func40 (by kernel_rfl) rfl) ?_
   refine lives_unlockD (m:=0) (by omega) h2 h10 rfl fun γ9 w9 h9 A9=>?_
   clear hg;have hg:=h9.ng
   exact lives_ctl rfl hg (fun w2=>stepG_leave (v:=.tuple #[]) rfl rfl Tryd.func24 (by kernel_rfl) (by kernel_rfl)) (KD _ _ h9 (((A4.trans A7).trans A10).trans A9) (A9.took _ ((t10 y).2 (.inr rfl))))
end
end Go.Proofs.YtbicafgmfgdckaaDoor
namespace Go.Proofs.YtbicafgmfgdckaaDoor
open Go Go.Conc
section
variable {ty:TypeId} {top:Nat} {γ γ' γ2:Gho} {p:Ph} {w w' w2:World} {i j n:Nat} {P:Program} {Post:Value->World->Prop} {es:Array Event} {g g':Goroutine} {b:Frame} {a:Act} {k:List Item} {cs:List Frame} {ops:Array Oper} {D:List Deferred}
theorem lives_draw {id:Nat} (hm:P.follows .mixedOrders=true) (ht:¬(γ.tag i).tied) (h:∀t,LV P ty top Post i γ w (G (b.at a (.inRegion ops (Region.linearise.go .any ops ops.size t (Array.replicate ops.size false) [])::k)) cs)) :
  LV P ty top Post i γ w (G (b.at a (.code (.region id ops true)::k)) cs):=by
 refine lives_own rfl ht fun γ2 w2 hrl hI=>⟨_,_,_,stepG_region_draw,⟨Nat.le_refl _,rfl,rfl,rfl,fun _ _ _=>rfl,fun e he=>by simp at he⟩,?_⟩
 simp only[Region.schedule,hm,Bool.true_or,if_true]
 exact(h _).rely (hrl.trans ((rel_self_grown hI.hs).trans (Rel.at _ _ _ _)))
theorem lives_any (J:Nat->Array Bool->Array Value->Gho->World->Prop)
  (hnil:∀listed T γ w,J 0 listed T γ w->LV P ty top Post i γ w (G (b.at ⟨T,D⟩ (.inRegion ops []::k)) cs))
  (hne:∀m listed T γ w,J (m+1) listed T γ w->Region.ready .any ops listed≠[])
  (hst:∀m listed T γ w,J (m+1) listed T γ w->∀l∈Region.ready .any ops listed,∀rest,(∀T' γ' w',J m (listed.setIfInBounds l true) T' γ' w'->LV P ty top Post i γ' w' (G (b.at ⟨T',D⟩ (.inRegion ops rest::k)) cs)) ->
   LV P ty top Post i γ w (G (b.at ⟨T,D⟩ (.inRegion ops (l::rest)::k)) cs)) :
  ∀m t listed T γ w,J m listed T γ w->LV P ty top Post i γ w (G (b.at ⟨T,D⟩ (.inRegion ops (Region.linearise.go .any ops m t listed [])::k)) cs):=by
 intro m
 induction m with
 | zero=>intro t listed T γ w h;exact hnil _ _ _ _ h
 | succ m ih =>
  intro t listed T γ w h
  have h0:=hne m _ _ _ _ h
  simp only[Region.linearise.go]
  change LV P ty top Post i γ w (G (b.at ⟨T,D⟩ (.inRegion ops (match (Region.ready .any ops listed)[t % (Region.ready .any ops listed).length]? with
   | some i=>Region.linearise.go .any ops m (t / (Region.ready .any ops listed).length) (listed.setIfInBounds i true) [i]
   | none=>[].reverse)::k)) cs)
  cases hi:(Region.ready .any ops listed)[t % (Region.ready .any ops listed).length]? with
  | none =>
   exfalso
   cases hr:Region.ready .any ops listed with
   | nil=>exact h0 hr
   | cons x xs =>
    rw[hr] at hi
    have hlt:t % (x::xs).length < (x::xs).length:=Nat.mod_lt _ (by simp)
    simp at hi
    simp at hlt
    omega
  | some l =>
   simp only[]
   rw[linearise_go_acc,List.reverse_singleton,List.singleton_append]
   exact hst m _ _ _ _ h l (List.mem_of_getElem? hi) _ fun T' γ' w' h'=>ih _ _ _ _ _ h'
end
end Go.Proofs.YtbicafgmfgdckaaDoor
namespace Go.Proofs.YtbicafgmfgdckaaDoor
open Go Go.RowKit Go.Conc Go.Conc.Lib Go.ConcR.Gen
open Go.ConcR (KK wgBlock WgAt stA smA rd wr mk DC0)
open Go.ConcN (sumTo upd upd_same upd_ne RelBy PermW WgLive)
section
variable {SB:Nat} {tS:TypeId} {mS:Nat × Nat} {top:Nat} {γ γ' γ2:Gho} {p:Ph} {w w' w2:World} {i j k n m y:Nat} {f:Nat->ML} {a b:ML} {Post:Value->World->Prop} {es:Array Event} {g g':Goroutine} {c:Frame} {cs:List Frame}
set_option maxRecDepth 100000 in
set_option maxHeartbeats 4000000 in
theorem lives_flag (h:In p i y 0 f γ) (KD:∀γ' w',In p i y 0 f γ'->Aft i p γ γ'->(γ'.sk.od=true->∃x,γ'.sk.took x)->LV Tryd.prog wgLink.tWg top Post i γ' w' (G (c.finish (.bool γ'.sk.od)) cs)) :
  LV Tryd.prog wgLink.tWg top Post i γ w (G ((base 54).at ⟨#[.pointer (some ⟨p.once,0,none⟩)]++Array.replicate 7 undef,[]⟩ [.code (Tryd.f54.body.getD .skip)]) (c::cs)):=by
 have hg:=h.ng
 simp only[Tryd.f54,Option.getD_some]
 (try walk_nrm);refine lsq hg ?_;refine lrg hg ?_;simp only[ix,Nat.reduceAdd];refine lop hg rfl rfl (by k_ne) fun v W H=>?_;go_simp;refine H _ _ rfl (by simp[go_sem]) ?_;clear H W v;(try walk_nrm);refine len hg ?_;refine lsq hg ?_;refine lrg hg ?_;simp only[ix,Nat.reduceAdd];(iterate 3 (refine lop hg rfl rfl (by k_ne) fun v W H=>?_;go_simp;refine H _ _ rfl (by simp[go_sem]) ?_;clear H W v;try walk_nrm))
 refine lv_flag h rfl (fun w b hc=>stepG_load_atomic rfl rfl (by k_ne) rfl Tryd.func75 mu_lod_n mu_lod_b mu_lod_x .u32 mu_lod_f (by simp[Act.eval]) hc) fun γ1 w1 h1 A1 t1=>?_
 replace KD:=KD γ1 w1 h1 A1 t1
 clear hg;have hg:=h1.ng;try walk_nrm
 generalize γ1.sk.od=od at *
 cases od with
 | true =>
  simp only[if_true]
  (iterate 2 (refine lop hg rfl rfl (by k_ne) fun v W H=>?_;go_simp;refine H _ _ rfl (by simp[go_sem]) ?_;clear H W v;try walk_nrm));refine len hg ?_
  refine lives_ctl rfl hg (fun _=>stepG_ret') ?_
  exact lives_ctl rfl hg (fun w2=>stepG_leave (v:=.bool true) rfl rfl Tryd.func54 (by kernel_rfl) (by kernel_rfl)) KD
 | false =>
  simp only[Bool.false_eq_true,if_false]
  (iterate 2 (refine lop hg rfl rfl (by k_ne) fun v W H=>?_;go_simp;refine H _ _ rfl (by simp[go_sem]) ?_;clear H W v;try walk_nrm));refine len hg ?_
  refine lives_ctl rfl hg (fun _=>stepG_ret') ?_
  exact lives_ctl rfl hg (fun w2=>stepG_leave (v:=.bool false) rfl rfl Tryd.func54 (by kernel_rfl) (by kernel_rfl)) KD
noncomputable def stOps:Array Oper:=match Tryd.f76.body with|some (.region _ ops _)=>ops|_=>#[]
theorem ready_st:∀b0 b1 b2 b3 b4 b5:Bool,Region.ready .any stOps #[b0,b1,b2,b3,b4,b5]=[]->(b0&&b1&&b2&&b3&&b4&&b5)=true:=by decide +kernel
theorem ready_st0:∀b0 b1 b2 b3 b4 b5:Bool,0∈Region.ready .any stOps #[b0,b1,b2,b3,b4,b5]->(!b0)=true:=by decide +kernel
theorem ready_st1:∀b0 b1 b2 b3 b4 b5:Bool,1∈Region.ready .any stOps #[b0,b1,b2,b3,b4,b5]->(!b1&&b0)=true:=by decide +kernel
theorem ready_st2:∀b0 b1 b2 b3 b4 b5:Bool,2∈Region.ready .any stOps #[b0,b1,b2,b3,b4,b5]->(!b2&&b1)=true:=by decide +kernel
theorem ready_st3:∀b0 b1 b2 b3 b4 b5:Bool,3∈Region.ready .any stOps #[b0,b1,b2,b3,b4,b5]->(!b3)=true:=by decide +kernel
theorem ready_st4:∀b0 b1 b2 b3 b4 b5:Bool,4∈Region.ready .any stOps #[b0,b1,b2,b3,b4,b5]->(!b4&&b3)=true:=by decide +kernel
theorem ready_st5:∀b0 b1 b2 b3 b4 b5:Bool,5∈Region.ready .any stOps #[b0,b1,b2,b3,b4,b5]->(!b5&&b2&&b4)=true:=by decide +kernel
def StAt (p:Ph) (i y:Nat) (f:Nat->ML) (γ0:Gho) (m:Nat) (listed:Array Bool) (T:Array Value) (γ:Gho) (_:World):Prop :=
 ∃b0 b1 b2 b3 b4 b5:Bool,∃t4 t5 t6 t7 t8 t9:Value,listed=#[b0,b1,b2,b3,b4,b5]/\m=(if b0 then 0 else 1)+(if b1 then 0 else 1)+(if b2 then 0 else 1)+(if b3 then 0 else 1)+(if b4 then 0 else 1)+(if b5 then 0 else 1)/\T=#[.pointer (some ⟨p.once,0,none⟩),.bool true,undef,undef,t4,t5,t6,t7,t8,t9] /\
 (b0=true->t4=(Value.pointer (some ⟨p.once,0,none⟩)))/\(b1=true->t5=(Value.pointer (some ⟨p.once,0,none⟩)))/\(b2=true->t6=(Value.pointer (some ⟨p.once,0,none⟩)))/\(b3=true->t7=(Value.bool true))/\(b4=true->t8=(Value.int .u32 1))/\In p i y 0 (upd f 1 (.own (if b5 then 1 else 2))) γ/\Aft i p γ0 γ/\(b5=false->γ.stp=true)
set_option maxRecDepth 100000 in
set_option maxHeartbeats 4000000 in
theorem lives_storeD (h2:∀k,k < 2->k≠1->f k=.off\/f k=.fresh) (h:In p i y 0 (upd f 1 (.own 2)) γ) (hstp:γ.stp=true) (hc:c.mode=.returning)
  (KD:∀γ' w',In p i y 0 (upd f 1 (.own 1)) γ'->Aft i p γ γ'->LV Tryd.prog wgLink.tWg top Post i γ' w' (G c cs)) :
  LV Tryd.prog wgLink.tWg top Post i γ w (G ((baseD 76).at ⟨#[.pointer (some ⟨p.once,0,none⟩),.bool true]++Array.replicate 8 undef,[]⟩ [.code (Tryd.f76.body.getD .skip)]) (c::cs)):=by
 have hs:=h.ns
 simp only[Tryd.f76,Option.getD_some]
 try walk_nrm
 refine lives_draw (by kernel_rfl) hs fun t=>?_
 refine lives_any (StAt p i y f γ) (fun listed T γ' w h=>?_) (fun m listed T γ' w h=>?_) (fun m listed T γ' w h l hl rest hnext=>?_) _ _ _ _ _ _ ⟨_,_,_,_,_,_,_,_,_,_,_,_,rfl,rfl,rfl,nofun,nofun,nofun,nofun,nofun,(by simpa using h),.refl _ _ _,fun _=>hstp⟩
 ·obtain⟨b0,b1,b2,b3,b4,b5,t4,t5,t6,t7,t8,t9,rfl,hm,rfl,q0,q1,q2,q3,q4,hin,hA,hst⟩:=h
  obtain rfl:b5=true:=by cases b5 with
   | true=>rfl
   | false=>simp at hm
  simp only[if_true] at hin
  have hg:=hin.ng;refine len hg ?_
  refine lives_ctl rfl hg (fun _=>stepG_end) ?_
  exact lives_ctl rfl hg (fun w2=>stepG_leave_deferred (v:=.tuple #[]) rfl rfl Tryd.func76 (by kernel_rfl) (by kernel_rfl) hc) (KD _ _ hin hA)
 ·obtain⟨b0,b1,b2,b3,b4,b5,t4,t5,t6,t7,t8,t9,rfl,hm,rfl,q0,q1,q2,q3,q4,hin,hA,hst⟩:=h
  intro hr
  have:=ready_st _ _ _ _ _ _ hr
  simp only[Bool.and_eq_true] at this
  obtain⟨⟨⟨⟨⟨rfl,rfl⟩,rfl⟩,rfl⟩,rfl⟩,rfl⟩:=this
  simp at hm
 ·obtain⟨b0,b1,b2,b3,b4,b5,t4,t5,t6,t7,t8,t9,rfl,hm,rfl,q0,q1,q2,q3,q4,hin,hA,hst⟩:=h
  have hg:=hin.ng
  have hl3:l < 6:=by
   have hl':=hl
   unfold Region.ready at hl'
   have:=(List.mem_filter.1 hl').1
   simpa using this
  have hl4:l=0\/l=1\/l=2\/l=3\/l=4\/l=5:=by omega
  clear hl3
  rcases hl4 with rfl|rfl|rfl|rfl|rfl|rfl
  ·have hb:=ready_st0 _ _ _ _ _ _ hl
   simp only[Bool.and_eq_true,Bool.not_eq_true'] at hb
   obtain rfl:=hb
   refine lop hg rfl rfl (by k_ne) fun v W H=>?_;go_simp;refine H _ _ rfl (by simp[go_sem]) ?_;clear H W v;try walk_nrm
   exact hnext _ _ _ ⟨_,_,_,_,_,_,_,_,_,_,_,_,rfl,(by simp only[Bool.false_eq_true,if_false,if_true] at hm ⊢;omega),rfl,(fun _=>rfl),q1,q2,q3,q4,hin,hA,hst⟩
  ·have hb:=ready_st1 _ _ _ _ _ _ hl
   simp only[Bool.and_eq_true,Bool.not_eq_true'] at hb
   obtain⟨rfl,rfl⟩:=hb
   obtain rfl:=q0 rfl
   refine lop hg rfl rfl (by k_ne) fun v W H=>?_;go_simp;refine H _ _ rfl (by simp[go_sem]) ?_;clear H W v;try walk_nrm
   exact hnext _ _ _ ⟨_,_,_,_,_,_,_,_,_,_,_,_,rfl,(by simp only[Bool.false_eq_true,if_false,if_true] at hm ⊢;omega),rfl,(fun _=>rfl),(fun _=>rfl),q2,q3,q4,hin,hA,hst⟩
  ·have hb:=ready_st2 _ _ _ _ _ _ hl
   simp only[Bool.and_eq_true,Bool.not_eq_true'] at hb
   obtain⟨rfl,rfl⟩:=hb
   obtain rfl:=q1 rfl
   refine lop hg rfl rfl (by k_ne) fun v W H=>?_;go_simp;refine H _ _ rfl (by simp[go_sem]) ?_;clear H W v;try walk_nrm
   exact hnext _ _ _ ⟨_,_,_,_,_,_,_,_,_,_,_,_,rfl,(by simp only[Bool.false_eq_true,if_false,if_true] at hm ⊢;omega),rfl,q0,(fun _=>rfl),(fun _=>rfl),q3,q4,hin,hA,hst⟩
  ·have hb:=ready_st3 _ _ _ _ _ _ hl
   simp only[Bool.and_eq_true,Bool.not_eq_true'] at hb
   obtain rfl:=hb
   refine lop hg rfl rfl (by k_ne) fun v W H=>?_;go_simp;refine H _ _ rfl (by simp[go_sem]) ?_;clear H W v;try walk_nrm
   exact hnext _ _ _ ⟨_,_,_,_,_,_,_,_,_,_,_,_,rfl,(by simp only[Bool.false_eq_true,if_false,if_true] at hm ⊢;omega),rfl,q0,q1,q2,(fun _=>rfl),q4,hin,hA,hst⟩
  ·have hb:=ready_st4 _ _ _ _ _ _ hl
   simp only[Bool.and_eq_true,Bool.not_eq_true'] at hb
   obtain⟨rfl,rfl⟩:=hb
   obtain rfl:=q3 rfl
   refine lives_ctl rfl hg (fun _=>stepG_callv (first:=#[]) (caps:=#[]) (vs:=#[.bool true]) rfl rfl (by k_ne) rfl rfl (by simp[Act.eval]) Tryd.func87 (by kernel_rfl) rfl) ?_
   simp only[Tryd.f87,Option.getD_some]
   (try walk_nrm);refine lsq hg ?_;refine lrg hg ?_;simp only[ix,Nat.reduceAdd];refine lop hg rfl rfl (by k_ne) fun v W H=>?_;go_simp;refine H _ _ rfl (by simp[go_sem]) ?_;clear H W v;(try walk_nrm);refine len hg ?_;refine lsq hg ?_;refine lsq hg ?_;refine lrg hg ?_;simp only[ix,Nat.reduceAdd];refine lop hg rfl rfl (by k_ne) fun v W H=>?_;go_simp;refine H _ _ rfl (by simp[go_sem]) ?_;clear H W v;(try walk_nrm);refine len hg ?_;refine lct hg rfl ?_;refine lsq hg ?_;refine lrg hg ?_;simp only[ix,Nat.reduceAdd];refine lop hg rfl rfl (by k_ne) fun v W H=>?_;go_simp;refine H _ _ rfl (by simp[go_sem]) ?_;clear H W v;(try walk_nrm);refine len hg ?_
   refine lives_ctl rfl hg (fun _=>stepG_ret') ?_
   refine lives_ctl rfl hg (fun w2=>stepG_leave (v:=.int .u32 1) rfl rfl Tryd.func87 (by kernel_rfl) (by kernel_rfl)) ?_
   rw[Frame.finish_at];try walk_nrm
   exact hnext _ _ _ ⟨_,_,_,_,_,_,_,_,_,_,_,_,rfl,(by simp only[Bool.false_eq_true,if_false,if_true] at hm ⊢;omega),rfl,q0,q1,q2,(fun _=>rfl),(fun _=>rfl),hin,hA,hst⟩
  ·have hb:=ready_st5 _ _ _ _ _ _ hl
   simp only[Bool.and_eq_true,Bool.not_eq_true'] at hb
   obtain⟨⟨rfl,rfl⟩,rfl⟩:=hb
   obtain rfl:=q2 rfl
   obtain rfl:=q4 rfl
   simp only[Bool.false_eq_true,if_false] at hin
   refine lv_made hin rfl h2 (hst rfl) (fun w u hc hf=>stepG_store_atomic rfl rfl (by k_ne) rfl Tryd.func86 mu_sto_n mu_sto_b mu_sto_x mu_sto_f (by simp[Act.eval]) (by simp[Act.eval]) hc hf) fun γ1 w1 h1 A1=>?_
   exact hnext _ _ _ ⟨_,_,_,_,_,_,_,_,_,_,_,_,rfl,(by simp only[Bool.false_eq_true,if_false,if_true] at hm ⊢;omega),rfl,q0,q1,(fun _=>rfl),q3,(fun _=>rfl),(by simpa using h1),hA.trans A1,nofun⟩
set_option maxRecDepth 100000 in
set_option maxHeartbeats 4000000 in
theorem lives_stopIt (h2:∀k,k < 2->k≠1->f k=.off\/f k=.fresh) (h:In p i y 0 (upd f 1 (.own 1)) γ) (hod:γ.sk.od=false) {x:Nat} (hx:γ.sk.took x) (hF:γ.F i SB) (hH:p.H SB=some (.cells #[.chan (some p.stop)] tS mS))
  (KD:∀γ' w',In p i y 0 (upd f 1 (.own 2)) γ'->Aft i p γ γ'->γ'.stp=true->LV Tryd.prog wgLink.tWg top Post i γ' w' (G (c.finish (.tuple #[])) cs)) :
  LV Tryd.prog wgLink.tWg top Post i γ w (G ((base 29).at ⟨#[.pointer (some ⟨SB,0,none⟩)]++Array.replicate 1 undef,[]⟩ [.code (Tryd.f29.body.getD .skip)]) (c::cs)):=by
 have hg:=h.ng
 have hs:=h.ns
 have hFix:=hF
 simp only[Tryd.f29,Option.getD_some]
 (try walk_nrm);refine lrg hg ?_;simp only[ix,Nat.reduceAdd]
 refine lives_read rfl hs (fun γV wV hrl hIV=>?_)
 have hcell:wV.cell? ⟨SB,0,none⟩=some (.chan (some p.stop)):=fix_cell hIV ((hrl.live hg).ph _ h.on) ((hrl.live hg).kw.F hF) hH
 refine goes_oper_k rfl rfl (by k_ne) (fun W hW=>?_)
 go_simp
 refine hW _ _ ⟨⟨rfl,fun e he=>?_⟩,?_⟩
 ·have hm:=mem_listed he
  simp[go_sem,hcell] at hm
  subst hm
  exact .inl ⟨_,rfl,rfl,.inr ⟨(hrl.live hg).kw.F hFix,rfl⟩⟩
 clear hW hcell;clear W;clear hrl hIV;clear γV wV;try walk_nrm
 refine lv_halt h rfl h2 hod hx rfl (fun w s rc hc=>stepG_close rfl rfl (by k_ne) rfl (by simp[Act.eval]) hc (by kernel_rfl)) fun γ1 w1 h1 A1 q1=>?_
 clear hg;have hg:=h1.ng;(try walk_nrm);refine len hg ?_
 refine lives_ctl rfl hg (fun _=>stepG_end) ?_
 exact lives_ctl rfl hg (fun w2=>stepG_leave (v:=.tuple #[]) rfl rfl Tryd.func29 (by kernel_rfl) (by kernel_rfl)) (KD _ _ h1 A1 q1)
set_option maxRecDepth 100000 in
set_option maxHeartbeats 4000000 in
theorem lives_doSlow (h2:∀k,k < 2->k≠1->f k=.off\/f k=.fresh) (h:In p i y 0 (upd f 1 .fresh) γ) {x:Nat} (hx:γ.sk.took x) (hF:γ.F i SB) (hH:p.H SB=some (.cells #[.chan (some p.stop)] tS mS))
  (KD:∀γ' w',In p i y 0 (upd f 1 .off) γ'->Aft i p γ γ'->LV Tryd.prog wgLink.tWg top Post i γ' w' (G (c.finish (.tuple #[])) cs)) :
  LV Tryd.prog wgLink.tWg top Post i γ w (G ((base 55).at ⟨#[.pointer (some ⟨p.once,0,none⟩),.func (.func 29) #[] #[.pointer (some ⟨SB,0,none⟩)]]++Array.replicate 19 undef,[]⟩ [.code (Tryd.f55.body.getD .skip)]) (c::cs)):=by
 have hg:=h.ng
 simp only[Tryd.f55,Option.getD_some]
 (try walk_nrm);refine lsq hg ?_;refine lrg hg ?_;simp only[ix,Nat.reduceAdd];(iterate 3 (refine lop hg rfl rfl (by k_ne) fun v W H=>?_;go_simp;refine H _ _ rfl (by simp[go_sem]) ?_;clear H W v;try walk_nrm))
 refine lives_ctl rfl hg (fun _=>stepG_callv (first:=#[]) (caps:=#[]) (vs:=#[.pointer (some ⟨p.once,1,none⟩)]) rfl rfl (by k_ne) rfl rfl (by simp[Act.eval]) Tryd.func39 (by kernel_rfl) rfl) ?_
 refine lives_lock (m:=1) (by omega) h2 h fun γ4 w4 h4 A4=>?_
 rw[Frame.finish_at];clear hg;have hg:=h4.ng;(try walk_nrm);refine len hg ?_;refine lsq hg ?_;refine lrg hg ?_;simp only[ix,Nat.reduceAdd];(iterate 3 (refine lop hg rfl rfl (by k_ne) fun v W H=>?_;go_simp;refine H _ _ rfl (by simp[go_sem]) ?_;clear H W v;try walk_nrm))
 refine lives_ctl rfl hg (fun _=>stepG_defer rfl rfl (by k_ne) rfl) ?_
 (try walk_nrm);refine len hg ?_;refine lsq hg ?_;refine lrg hg ?_;simp only[ix,Nat.reduceAdd];(iterate 3 (refine lop hg rfl rfl (by k_ne) fun v W H=>?_;go_simp;refine H _ _ rfl (by simp[go_sem]) ?_;clear H W v;try walk_nrm))
 refine lives_ctl rfl hg (fun _=>stepG_callv (first:=#[]) (caps:=#[]) (vs:=#[.pointer (some ⟨p.once,0,none⟩)]) rfl rfl (by k_ne) rfl rfl (by simp[Act.eval]) Tryd.func54 (by kernel_rfl) rfl) ?_
 refine lives_flag h4 fun γ5 w5 h5 A5 _=>?_
 rw[Frame.finish_at];clear hg;have hg:=h5.ng;try walk_nrm
 obtain⟨od,hod⟩:∃od,γ5.sk.od=od:=⟨_,rfl⟩
 rw[hod]
 replace A5:=A4.trans A5
 cases od with
 | true =>
  refine lop hg rfl rfl (by k_ne) fun v W H=>?_;go_simp;refine H _ _ rfl (by simp[go_sem]) ?_;clear H W v;(try walk_nrm);refine len hg ?_;refine lcf hg rfl ?_;refine lsk hg ?_
  refine lives_ctl rfl hg (fun _=>stepG_end) ?_
  refine lives_ctl rfl hg (fun _=>stepG_unwind_enter rfl Tryd.func40 (by kernel_rfl) rfl) ?_
  refine lives_unlockD (m:=1) (by omega) h2 h5 rfl fun γ9 w9 h9 A9=>?_
  clear hg;have hg:=h9.ng
  exact lives_ctl rfl hg (fun w2=>stepG_leave (v:=.tuple #[]) rfl rfl Tryd.func55 (by kernel_rfl) (by kernel_rfl)) (KD _ _ h9 (A5.trans A9))
 | false =>
  refine lop hg rfl rfl (by k_ne) fun v W H=>?_;go_simp;refine H _ _ rfl (by simp[go_sem]) ?_;clear H W v;(try walk_nrm);refine len hg ?_;refine lct hg rfl ?_;refine lsq hg ?_;refine lrg hg ?_;simp only[ix,Nat.reduceAdd];(iterate 3 (refine lop hg rfl rfl (by k_ne) fun v W H=>?_;go_simp;refine H _ _ rfl (by simp[go_sem]) ?_;clear H W v;try walk_nrm))
  refine lives_ctl rfl hg (fun _=>stepG_defer rfl rfl (by k_ne) rfl) ?_
  (try walk_nrm);refine len hg ?_;refine lrg hg ?_;simp only[ix,Nat.reduceAdd];refine lop hg rfl rfl (by k_ne) fun v W H=>?_;go_simp;refine H _ _ rfl (by simp[go_sem]) ?_;clear H W v;try walk_nrm
  refine lives_ctl rfl hg (fun _=>stepG_callv (first:=#[]) (caps:=#[.pointer (some ⟨SB,0,none⟩)]) (vs:=#[.pointer (some ⟨SB,0,none⟩)]) rfl rfl (by k_ne) rfl rfl (by simp[Act.eval]) Tryd.func29 (by kernel_rfl) rfl) ?_
  refine lives_stopIt h2 h5 hod (A5.took x hx) (A5.kw.F hF) hH fun γ6 w6 h6 A6 q6=>?_
  rw[Frame.finish_at];clear hg;have hg:=h6.ng;(try walk_nrm);refine len hg ?_
  refine lives_ctl rfl hg (fun _=>stepG_end) ?_
  refine lives_ctl rfl hg (fun _=>stepG_unwind_enter rfl Tryd.func76 (by kernel_rfl) rfl) ?_
  refine lives_storeD h2 h6 q6 rfl fun γ7 w7 h7 A7=>?_
  clear hg;have hg:=h7.ng;try walk_nrm
  refine lives_ctl rfl hg (fun _=>stepG_unwind_enter rfl Tryd.func40 (by kernel_rfl) rfl) ?_
  refine lives_unlockD (m:=1) (by omega) h2 h7 rfl fun γ9 w9 h9 A9=>?_
  clear hg;have hg:=h9.ng
  exact lives_ctl rfl hg (fun w2=>stepG_leave (v:=.tuple #[]) rfl rfl Tryd.func55 (by kernel_rfl) (by kernel_rfl)) (KD _ _ h9 (((A5.trans A6).trans A7).trans A9))
set_option maxRecDepth 100000 in
set_option maxHeartbeats 4000000 in
theorem lives_once (h2:∀k,k < 2->k≠1->f k=.off\/f k=.fresh) (h:In p i y 0 (upd f 1 .fresh) γ) {x:Nat} (hx:γ.sk.took x) (hF:γ.F i SB) (hH:p.H SB=some (.cells #[.chan (some p.stop)] tS mS))
  (KD:∀γ' w' a,(a=.off\/a=.fresh)->In p i y 0 (upd f 1 a) γ'->Aft i p γ γ'->LV Tryd.prog wgLink.tWg top Post i γ' w' (G (c.finish (.tuple #[])) cs)) :
  LV Tryd.prog wgLink.tWg top Post i γ w (G ((base 28).at ⟨#[.pointer (some ⟨p.once,0,none⟩),.func (.func 29) #[] #[.pointer (some ⟨SB,0,none⟩)]]++Array.replicate 10 undef,[]⟩ [.code (Tryd.f28.body.getD .skip)]) (c::cs)):=by
 have hg:=h.ng
 simp only[Tryd.f28,Option.getD_some]
 (try walk_nrm);refine lsq hg ?_;refine lrg hg ?_;simp only[ix,Nat.reduceAdd];(iterate 3 (refine lop hg rfl rfl (by k_ne) fun v W H=>?_;go_simp;refine H _ _ rfl (by simp[go_sem]) ?_;clear H W v;try walk_nrm))
 refine lives_ctl rfl hg (fun _=>stepG_callv (first:=#[]) (caps:=#[]) (vs:=#[.pointer (some ⟨p.once,0,none⟩)]) rfl rfl (by k_ne) rfl rfl (by simp[Act.eval]) Tryd.func54 (by kernel_rfl) rfl) ?_
 refine lives_flag h fun γ5 w5 h5 A5 _=>?_
 rw[Frame.finish_at];clear hg;have hg:=h5.ng;try walk_nrm
 generalize γ5.sk.od=od at *
 cases od with
 | true =>
  refine lop hg rfl rfl (by k_ne) fun v W H=>?_;go_simp;refine H _ _ rfl (by simp[go_sem]) ?_;clear H W v;(try walk_nrm);refine len hg ?_;refine lcf hg rfl ?_;refine lsk hg ?_
  refine lives_ctl rfl hg (fun _=>stepG_end) ?_
  exact lives_ctl rfl hg (fun w2=>stepG_leave (v:=.tuple #[]) rfl rfl Tryd.func28 (by kernel_rfl) (by kernel_rfl)) (KD _ _ _ (.inr rfl) h5 A5)
 | false =>
  refine lop hg rfl rfl (by k_ne) fun v W H=>?_;go_simp;refine H _ _ rfl (by simp[go_sem]) ?_;clear H W v;(try walk_nrm);refine len hg ?_;refine lct hg rfl ?_;refine lrg hg ?_;simp only[ix,Nat.reduceAdd];(iterate 2 (refine lop hg rfl rfl (by k_ne) fun v W H=>?_;go_simp;refine H _ _ rfl (by simp[go_sem]) ?_;clear H W v;try walk_nrm))
  refine lives_ctl rfl hg (fun _=>stepG_callv (first:=#[]) (caps:=#[]) (vs:=#[.pointer (some ⟨p.once,0,none⟩),.func (.func 29) #[] #[.pointer (some ⟨SB,0,none⟩)]]) rfl rfl (by k_ne) rfl rfl (by simp[Act.eval]) Tryd.func55 (by kernel_rfl) rfl) ?_
  refine lives_doSlow h2 h5 (A5.took x hx) (A5.kw.F hF) hH fun γ6 w6 h6 A6=>?_
  rw[Frame.finish_at];clear hg;have hg:=h6.ng;(try walk_nrm);refine len hg ?_
  refine lives_ctl rfl hg (fun _=>stepG_end) ?_
  exact lives_ctl rfl hg (fun w2=>stepG_leave (v:=.tuple #[]) rfl rfl Tryd.func28 (by kernel_rfl) (by kernel_rfl)) (KD _ _ _ (.inl rfl) h6 (A5.trans A6))
end
end Go.Proofs.YtbicafgmfgdckaaDoor
