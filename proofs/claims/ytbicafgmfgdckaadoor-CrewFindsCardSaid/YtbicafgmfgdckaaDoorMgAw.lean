/- A worker's life. -/
import Derived.Test.YtbicafgmfgdckaaDoorMgAn
import Derived.Test.YtbicafgmfgdckaaDoorMgAv
import Derived.Test.YtbicafgmfgdckaaDoorMgAp
import Derived.Test.YtbicafgmfgdckaaDoorProg
import Derived.Conc.WgGenW
import Derived.Walk
import Derived.KernelRfl
namespace Go.Proofs.YtbicafgmfgdckaaDoor
open Go Go.RowKit Go.Conc Go.Conc.Lib Go.ConcR.Gen
open Go.ConcR (KK wgBlock WgAt stA smA rd wr mk DC0)
open Go.ConcN (sumTo upd upd_same upd_ne RelBy PermW WgLive)
section
variable {top:Nat} {γ γ' γ2:Gho} {p:Ph} {w w' w2:World} {i j k n:Nat} {Post:Value->World->Prop} {es:Array Event} {g g':Goroutine}
noncomputable def bot:Frame:={ (default:Frame) with fn:=Tryd.prog.funcs.size,defers:=[],mode:=.panicking [goexitEntry] }
def skF:Nat->ML:=upd (fun _=>.fresh) 0 .off
theorem skF_ok:∀k,k < 2->k≠1->skF k=.off\/skF k=.fresh:=by
 intro k hk hk1
 obtain rfl:k=0:=by omega
 exact .inl (upd_same _ _ _)
def Job (p:Ph) (top:Nat) (Post:Value->World->Prop) (i:Nat) (γ:Gho) (w:World) (f:FuncId) (caps:Array Value):Prop :=
 ∀x γ1 w1 c cs fn cd,Tryd.prog.funcs[f]?=some fn->fn.body=some cd->Kw i γ γ1->γ1.ph=some p->γ1.tag i=.busy x->γ1.deaf i=0->(∀m,γ1.sk.ml m i=.fresh)->x < p.n->GInv wgLink.tWg top γ1 w1 ->
  (∀γ2 w2,Kw i γ1 γ2->γ2.ph=some p->γ2.tag i=.idle->γ2.deaf i=0->LV Tryd.prog wgLink.tWg top Post i γ2 w2 (G (c.finish (.bool true)) cs)) ->
  (∀γ2 w2,p.kind=.seek->Kw i γ1 γ2->In p i x 0 (upd skF 1 .fresh) γ2->γ2.sk.took x->LV Tryd.prog wgLink.tWg top Post i γ2 w2 (G (c.finish (.bool false)) cs)) ->
  LV Tryd.prog wgLink.tWg top Post i γ1 w1 (G ((base f).at ⟨#[.int .i64 x]++caps++Array.replicate (fn.ntmps - (#[Value.int .i64 (x:Int)]++caps).size) undef,[]⟩ [.code cd]) (c::cs))
def WorkAt (p:Ph) (J D i:Nat) (oc sb:Value) (γ0:Gho) (w0:World) (m:Nat) (tm:Array Value) (γ:Gho) (w:World):Prop :=
 ∃v5 v7 v8 v9 v10 v11 v12 v13 v14 v15:Value,m=p.n - γ.next/\tm=#[.pointer (some ⟨p.wg,0,none⟩),.pointer (some ⟨J,0,none⟩),.pointer (some ⟨D,0,none⟩),oc,sb,v5,.chan (some p.jobs),v7,v8,v9,v10,v11,v12,v13,v14,v15]/\γ.ph=some p/\γ.tag i=.idle/\γ.deaf i=0/\Kw i γ0 γ
theorem quitsTail (T:Array Value) (todo:List Item):QuitsD Tryd.prog 2 0 (G { (baseD 26).at ⟨T,[]⟩ todo with mode:=.returning } [bot]):=by
 refine QuitsD.ctl (g':=G bot []) rfl (fun w=>?_) ?_
 ·simp[G,stepG,unwind,doReturn,results,Frame.at,baseD,bot,Tryd.func26,Tryd.f26,seen,GStep.after,goexitEntry]
 refine QuitsD.ctl (g':={ G bot [] with status:=.finished }) rfl (fun w=>?_) ⟨rfl,rfl⟩
 simp[G,stepG,unwind,bot,goexitEntry,Frame.catches]
 rfl
set_option maxRecDepth 100000 in
set_option maxHeartbeats 4000000 in
theorem lives_worker {J D:Nat} {f:FuncId} {fn:Func} {cd:Code} {caps:Array Value} {oc sb:Value} {tJ tD:TypeId} {mJ mD:Nat × Nat} (hff:Tryd.prog.funcs[f]?=some fn) (hfb:fn.body=some cd) (hfn:(fn.name == "runtime.NumGoroutine")=false)
  (hp:γ.ph=some p) (hbi:p.b<=i) (hi0:i≠0) (ht:γ.tag i=.idle) (hd:γ.deaf i=0) (hJ:γ.F i J) (hJH:p.H J=some (.cells #[.chan (some p.jobs)] tJ mJ)) (hD:γ.F i D) (hDH:p.H D=some (.cells #[.func (.func f) #[] caps] tD mD)) (hsk:p.kind=.seek->oc=.pointer (some ⟨p.once,0,none⟩)/\∃SB tS mS,sb=.pointer (some ⟨SB,0,none⟩)/\γ.F i SB/\p.H SB=some (.cells #[.chan (some p.stop)] tS mS)) (hdo:Job p top Post i γ w f caps) :
  LV Tryd.prog wgLink.tWg top Post i γ w (G ((baseD 26).at ⟨#[.pointer (some ⟨p.wg,0,none⟩),.pointer (some ⟨J,0,none⟩),.pointer (some ⟨D,0,none⟩),oc,sb]++Array.replicate 11 undef,[]⟩ [.code (Tryd.f26.body.getD .skip)]) [bot]):=by
 have hg:γ.tag i≠.gone:=by rw[ht];simp
 have hs:¬(γ.tag i).tied:=by rw[ht];exact fun h=>h
 simp only[Tryd.f26,Option.getD_some]
 walk_nrm;refine lsq hg ?_;refine lrg hg ?_;simp only[ix,Nat.reduceAdd]
 refine lives_ctl rfl hg (fun _=>stepG_defer rfl rfl (by k_ne) rfl) ?_
 (try walk_nrm);refine len hg ?_;refine lsq hg ?_;refine lrg hg ?_;simp only[ix,Nat.reduceAdd]
 have hFix:=hJ
 refine lives_read rfl hs (fun γV wV hrl hIV=>?_)
 have hcell:wV.cell? ⟨J,0,none⟩=some (.chan (some p.jobs)):=fix_cell hIV ((hrl.live hg).ph _ ⟨hp,.inl hi0⟩) ((hrl.live hg).kw.F hJ) hJH
 refine goes_oper_k rfl rfl (by k_ne) (fun W hW=>?_)
 go_simp
 refine hW _ _ ⟨⟨rfl,fun e he=>?_⟩,?_⟩
 ·have hm:=mem_listed he
  simp[go_sem,hcell] at hm
  subst hm
  exact .inl ⟨_,rfl,rfl,.inr ⟨(hrl.live hg).kw.F hFix,rfl⟩⟩
 clear hW hcell;clear W;clear hrl hIV;clear γV wV;(try walk_nrm);clear hFix;refine len hg ?_
 refine lives_ctl rfl hg (fun _=>stepG_block) ?_
 refine lives_ctl rfl hg (fun _=>stepG_loop) ?_
 refine lives_loop (WorkAt p J D i oc sb γ w) (m:=p.n - γ.next) ⟨_,_,_,_,_,_,_,_,_,_,rfl,rfl,hp,ht,hd,.refl _ _⟩ fun m ih tm γ1 w1 h=>?_
 clear ht hg hs hp hd
 obtain⟨v5,v7,v8,v9,v10,v11,v12,v13,v14,v15,rfl,rfl,hp,ht,hd,hkp⟩:=h
 have hg:γ1.tag i≠.gone:=by rw[ht];simp
 refine lsq hg ?_;refine lrg hg ?_;simp only[ix,Nat.reduceAdd]
 refine lives_comm (cases:=#[rcase p.jobs (.int .i64 0)]) (blocking:=true) (shape:=.recv true) rfl rfl (by k_ne) hg (fun _=>by kernel_rfl) (fun _=>by kernel_rfl) (fun γ2 w2 hrl hI=>.idle p _ ((hrl.live hg).ph _ ⟨hp,.inl hi0⟩) hbi (hrl.tag.trans ht) rfl rfl) fun γ2 w2 hrl hI kk v ok γ3 w3 hR hI3=>?_
 have hp2:=(hrl.live hg).ph _ ⟨hp,.inl hi0⟩
 have ht2:=hrl.tag.trans ht
 have hd2:=hrl.deaf.trans hd
 have hkp2:=hkp.trans (hrl.live hg).kw
 have hnx2:γ1.next<=γ2.next:=(hrl.live hg).next _ ⟨hp,.inl hi0⟩
 rw[show commResult #[rcase p.jobs (.int .i64 0)] (.recv true) kk v ok=.tuple #[v,.bool ok] from rfl]
 rcases idle_result hR hI hp2 ht2 with⟨rfl,rfl,rfl,hlt,s,rfl⟩|⟨rfl,rfl,rfl⟩
 ·obtain⟨x,hx⟩:∃x,γ2.next=x:=⟨_,rfl⟩
  have ht3:(γ2.pass p i).tag i=.busy x:=by rw[<- hx];exact upd_same _ _ _
  have hd3:(γ2.pass p i).deaf i=0:=hd2
  have hml3:∀m,(γ2.pass p i).sk.ml m i=.fresh:=fun m=>if_pos rfl
  have hnx3:(γ2.pass p i).next=x+1:=by show γ2.next+1=_;rw[hx]
  have hkp3:=hkp2.trans (kw_pass γ2 p i)
  have hp3:(γ2.pass p i).ph=some p:=hp2
  rw[hx] at hlt hnx2 ⊢
  generalize γ2.pass p i=γ4,w2.setChan p.jobs 0 #[] false s s false=w4 at hkp3 ht3 hd3 hnx3 hp3 hI3 hml3 ⊢
  clear hR hrl hp2 ht2 hd2 hkp2 hI hx hg hp ht hd hkp
  have hg:γ4.tag i≠.gone:=by rw[ht3];simp
  have hs:¬(γ4.tag i).tied:=by rw[ht3];exact fun h=>h
  walk_nrm;refine lop hg rfl rfl (by k_ne) fun v W H=>?_;go_simp;refine H _ _ rfl (by simp[go_sem]) ?_;clear H W v;(try walk_nrm);refine len hg ?_;refine lsq hg ?_;refine lct hg rfl ?_;refine lsk hg ?_
  refine lives_ctl rfl hg (fun _=>stepG_block) ?_
  refine lsq hg ?_;refine lrg hg ?_;simp only[ix,Nat.reduceAdd];(iterate 2 (refine lop hg rfl rfl (by k_ne) fun v W H=>?_;go_simp;refine H _ _ rfl (by simp[go_sem]) ?_;clear H W v;try walk_nrm));refine len hg ?_;refine lsq hg ?_;refine lrg hg ?_;simp only[ix,Nat.reduceAdd]
  have hFix:=hkp3.F hD
  refine lives_read rfl hs (fun γV wV hrl hIV=>?_)
  have hcell:wV.cell? ⟨D,0,none⟩=some (.func (.func f) #[] caps):=fix_cell hIV ((hrl.live hg).ph _ ⟨hp3,.inl hi0⟩) ((hrl.live hg).kw.F hFix) hDH
  refine goes_oper_k rfl rfl (by k_ne) (fun W hW=>?_)
  go_simp
  refine hW _ _ ⟨⟨rfl,fun e he=>?_⟩,?_⟩
  ·have hm:=mem_listed he
   simp[go_sem,hcell] at hm
   subst hm
   exact .inl ⟨_,rfl,rfl,.inr ⟨(hrl.live hg).kw.F hFix,rfl⟩⟩
  clear hW hcell;clear W;clear hrl hIV;clear γV wV;(try walk_nrm);refine lop hg rfl rfl (by k_ne) fun v W H=>?_;go_simp;refine H _ _ rfl (by simp[go_sem]) ?_;clear H W v;try walk_nrm
  refine lives_ctl rfl hg (fun _=>stepG_callv (vs:=#[.int .i64 x]++caps) rfl rfl (by k_ne) rfl rfl (by simp[Act.eval]) hff hfn hfb) ?_
  refine hdo x γ4 w4 _ _ fn cd hff hfb hkp3 hp3 ht3 hd3 hml3 hlt hI3 (fun γ5 w5 hkp5 hp5 ht5 hd5=>?_) fun γ5 w5 hkd hkp5 hin tk=>?_
  ·have hlt5:p.n - γ5.next < p.n - γ1.next:=by have:=hkp5.next _ ⟨hp3,.inl hi0⟩;omega
   replace hkp5:=hkp3.trans hkp5
   clear hg hs hkp3 hp3 ht3 hd3 hI3 hnx3 hFix
   have hg:γ5.tag i≠.gone:=by rw[ht5];simp
   rw[Frame.finish_at];walk_nrm;refine lop hg rfl rfl (by k_ne) fun v W H=>?_;go_simp;refine H _ _ rfl (by simp[go_sem]) ?_;clear H W v;(try walk_nrm);refine len hg ?_;refine lcf hg rfl ?_;refine lsk hg ?_
   refine lives_ctl rfl hg (fun _=>stepG_inBlock) ?_
   refine lives_ctl rfl hg (fun _=>stepG_inLoop) ?_
   exact ih _ hlt5 _ _ _ ⟨_,_,_,_,_,_,_,_,_,_,rfl,rfl,hp5,ht5,hd5,hkp5⟩
  ·have hlt5:p.n - γ5.next < p.n - γ1.next:=by have:=hkp5.next _ ⟨hp3,.inl hi0⟩;omega
   replace hkp5:=hkp3.trans hkp5
   clear hg hs hkp3 hp3 ht3 hd3 hI3 hnx3 hFix
   obtain⟨rfl,SB,tS,mS,rfl,hSF,hSH⟩:=hsk hkd
   have hg:γ5.tag i≠.gone:=hin.ng
   rw[Frame.finish_at];walk_nrm;refine lop hg rfl rfl (by k_ne) fun v W H=>?_;go_simp;refine H _ _ rfl (by simp[go_sem]) ?_;clear H W v;(try walk_nrm);refine len hg ?_;refine lct hg rfl ?_;refine lrg hg ?_;simp only[ix,Nat.reduceAdd];refine lop hg rfl rfl (by k_ne) fun v W H=>?_;go_simp;refine H _ _ rfl (by first | (simp[go_sem];done) | rfl|kernel_rfl) ?_;clear H W v;try walk_nrm
   refine lives_ctl rfl hg (fun _=>stepG_callv (first:=#[]) (caps:=#[]) (vs:=#[.pointer (some ⟨p.once,0,none⟩),.func (.func 29) #[] #[.pointer (some ⟨SB,0,none⟩)]]) rfl rfl (by k_ne) rfl rfl (by simp[Act.eval]) Tryd.func28 (by kernel_rfl) rfl) ?_
   refine lives_once skF_ok hin tk (hkp5.F hSF) hSH fun γ6 w6 a6 ha6 h6 A6=>?_
   rw[Frame.finish_at];clear hg;have hg:=h6.ng;try walk_nrm
   refine lv_looked h6 rfl (fun k hk=>?_) (fun _=>A6.took _ tk) (fun w=>stepG_region_end) fun γ7 w7 hk7 hp7 ht7 hd7=>?_
   ·by_cases q:k=1
    ·subst q;rw[upd_same];exact ha6
    ·rw[upd_ne _ _ q];exact skF_ok k hk q
   have hlt7:p.n - γ7.next < p.n - γ1.next:=by have:=(A6.kw.trans hk7).next _ hin.on;omega
   replace hkp5:=hkp5.trans (A6.kw.trans hk7)
   clear hg
   have hg:γ7.tag i≠.gone:=by rw[ht7];simp
   try walk_nrm
   refine lives_ctl rfl hg (fun _=>stepG_inBlock) ?_
   refine lives_ctl rfl hg (fun _=>stepG_inLoop) ?_
   exact ih _ hlt7 _ _ _ ⟨_,_,_,_,_,_,_,_,_,_,rfl,rfl,hp7,ht7,hd7,hkp5⟩
 ·have ht3:(γ2.setTag i .out).tag i=.out:=upd_same _ _ _
  have hd3:(γ2.setTag i .out).deaf i=0:=hd2
  have hkp3:=hkp2.trans (kw_tag γ2 i .out)
  have hp3:(γ2.setTag i .out).ph=some p:=hp2
  generalize γ2.setTag i .out=γ4 at hkp3 ht3 hd3 hp3 hI3 ⊢
  clear hR hrl hp2 ht2 hd2 hkp2 hI hg hp ht hd hkp hnx2 ih hdo
  have hg:γ4.tag i≠.gone:=by rw[ht3];simp
  walk_nrm;refine lop hg rfl rfl (by k_ne) fun v W H=>?_;go_simp;refine H _ _ rfl (by simp[go_sem]) ?_;clear H W v;(try walk_nrm);refine len hg ?_;refine lsq hg ?_;refine lcf hg rfl ?_
  refine lives_ctl rfl hg (fun _=>stepG_exit rfl) ?_
  refine lives_ctl rfl hg (fun _=>stepG_end) ?_
  refine lives_ctl rfl hg (fun _=>stepG_unwind_enter rfl Tryd.func27 (nm_done wgLink) rfl) ?_
  have hJ4:=hkp3.F hJ
  exact lives_done (qt:=2) wgLib hp3 hbi ht3 hd3 hI3 hJ4 (fix_cell hI3 hp3 hJ4 hJH) rfl (quitsTail _ _)
end
end Go.Proofs.YtbicafgmfgdckaaDoor
