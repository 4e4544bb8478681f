/- each, by whoever has the phase. -/
import Derived.Test.YtbicafgmfgdckaaDoorMgAn
import Derived.Test.YtbicafgmfgdckaaDoorMgAw
namespace Go.Proofs.YtbicafgmfgdckaaDoor
open Go Go.RowKit Go.Conc Go.Conc.Lib Go.ConcR.Gen
open Go.ConcR (KK wgBlock WgAt stA smA rd wr mk DC0)
open Go.ConcN (sumTo upd upd_same upd_ne RelBy PermW WgLive)
section
variable {top:Nat} {γ γ' γ2:Gho} {p:Ph} {w w' w2:World} {i j k n W0:Nat} {Post:Value->World->Prop} {es:Array Event} {g g':Goroutine}
theorem born_step (caps:Array Value) (w:World) (h:caps.size=5):stepG Tryd.prog false (born Tryd.prog { target:=.fn (.func 26) caps,args:=#[] }) w =
  .go (G ((baseD 26).at ⟨caps++Array.replicate 11 undef,[]⟩ [.code (Tryd.f26.body.getD .skip)]) [bot]) w #[]:=by
 simp[born,stepG,unwind,callDeferred,invoke,callFunc,Tryd.func26,Tryd.f26,seen,GStep.after,G,Frame.enter,Frame.at,baseD,bot,h]
def EachFx (i:Nat) (kind:Kind) (out:Nat) (γE:Gho) (b:Nat):Prop:=b < γE.hs/\γE.bk b=.priv i/\¬(kind=.fill/\b=out)
set_option maxRecDepth 100000 in
set_option maxHeartbeats 8000000 in
theorem lives_each_any {f:FuncId} {fn:Func} {cd:Code} {caps:Array Value} {c:Frame} {cs:List Frame} {kind:Kind} {out:Nat} {oty:TypeId} {val:Nat->Nat->Value} {hit:Nat->Prop} (s0:Lon i γ w) (hff:Tryd.prog.funcs[f]?=some fn) (hfb:fn.body=some cd) (hfn:(fn.name == "runtime.NumGoroutine")=false)
  (hn:n<=1000) (hW:1<=W0) (hW2:W0<=1000) (hcnt:γ.cnt+W0<=top) (hkind:(γ.col=none/\kind≠.hand)\/∃c,γ.col=some c/\kind=.hand/\n=c.n/\W0<=c.W) (hsk:kind=.seek->W0<=16/\i=0/\(out < γ.hs/\γ.bk out=.lock)/\w.heap[out]?=some (.cells #[.int .i32 0,.int .u32 0,.int .i64 (-1)] oty (0,0))) (ho:kind=.fill->(out < γ.hs/\γ.bk out=.priv i)/\∃cells,w.heap[out]?=some (.cells cells oty (0,0))/\cells.size=32 * n)
  (hjob:∀p γ' w' j,p.f=i->p.b<=j->j≠0->p.n=n->p.out=out->p.oty=oty->p.val=val->p.kind=kind->p.hit=hit->(∀b,b < γ.hs->((γ.bk b=.priv i/\¬(kind=.fill/\b=out))\/∃m,m<=i/\γ.bk b=.fix m)->γ'.F j b/\p.H b=w.heap[b]?)->γ.hs<=γ'.hs->γ'.col=γ.col->Job p top Post j γ' w' f caps)
  (hK:∀(p:Ph) γE wE γ6 w6 γ7 w7,Lon i γE wE->LonLater (fun b=>γ.hs<=b) i γ w γE wE->p.f=i->p.b=γE.cnt->p.W=W0->p.n=n->p.out=out->p.oty=oty->p.val=val->p.kind=kind->p.hit=hit->(∀b,p.H b=wE.heap[b]?)->Kept i (γE.enter p (EachFx i kind out γE)) wE γ6 w6 ->
   γ6.ph=some p->γ6.tag i=.thru->γ6.deaf i=0->GInv wgLink.tWg top γ6 w6->Rel i (γ6.past p) w6 γ7 w7->LV Tryd.prog wgLink.tWg top Post i γ7 w7 (G (c.finish (.tuple #[])) cs)) :
  LV Tryd.prog wgLink.tWg top Post i γ w (G ((base 19).at ⟨#[.int .i64 n,.int .i64 W0,.func (.func f) #[] caps]++Array.replicate 20 undef,[]⟩ [.code (Tryd.f19.body.getD .skip)]) (c::cs)):=by
 have hg:γ.tag i≠.gone:=s0.ng
 have L:=LonLater.refl (fun b=>γ.hs<=b) i γ w
 simp only[Tryd.f19,Option.getD_some]
 walk_nrm;refine lsq hg ?_;refine lrg hg ?_;simp only[ix,Nat.reduceAdd]
 refine lon_push false s0 rfl fun wV=>?_
 refine goes_oper_k rfl rfl (by k_ne) (fun W hW=>?_)
 go_simp
 refine hW _ _ ⟨_,rfl,rfl,rfl,rfl,no_listed (by simp[go_sem]),fun γ1 w1 s1 l1 a1 fd=>?_⟩
 clear hW;clear W
 generalize wV.heap.size=Bd at a1 fd ⊢
 clear wV
 replace L:=L.trans l1 (fun _ q=>q) (fun _ _ q=>q.elim)
 clear l1 s0
 have hg:γ1.tag i≠.gone:=s1.ng
 (try walk_nrm);refine len hg ?_;refine lsq hg ?_;refine lrg hg ?_;simp only[ix,Nat.reduceAdd]
 refine lon_push true s1 rfl fun wV=>?_
 refine goes_oper_k rfl rfl (by k_ne) (fun W hW=>?_)
 go_simp
 refine hW _ _ ⟨_,rfl,rfl,rfl,rfl,no_listed (by first | (simp[go_sem];done) | (simp[go_sem];kernel_rfl)),fun γ2 w2 s2 l2 a2 fj=>?_⟩
 clear hW;clear W
 generalize wV.heap.size=Bj at a2 fj ⊢
 clear wV
 have oBj:Bd < Bj:=by have:=fd.lt;omega
 replace L:=L.trans l2 (fun _ q=>q) (fun _ _ q=>q.elim)
 replace fd:=fd.next (.inl rfl) l2 id
 clear l2 s1
 have hg:γ2.tag i≠.gone:=s2.ng
 try walk_nrm
 refine lon_push false s2 rfl fun wV=>?_
 refine goes_oper_k rfl rfl (by k_ne) (fun W hW=>?_)
 go_simp
 refine hW _ _ ⟨_,rfl,rfl,rfl,rfl,no_listed (by simp[go_sem]),fun γ3 w3 s3 l3 a3 fJ=>?_⟩
 clear hW;clear W
 generalize wV.heap.size=BJ at a3 fJ ⊢
 clear wV
 have oBJ:Bj < BJ:=by have:=fj.lt;omega
 replace L:=L.trans l3 (fun _ q=>q) (fun _ _ q=>q.elim)
 replace fd:=fd.next (.inl rfl) l3 id
 replace fj:=fj.next (.inr rfl) l3 id
 clear l3 s2
 have hg:γ3.tag i≠.gone:=s3.ng
 try walk_nrm
 refine lon_store (v:=.chan (some Bj)) s3 rfl fJ fun wV eV=>?_
 refine goes_oper_k rfl rfl (by k_ne) (fun W hW=>?_)
 have hcell:wV.cell? ⟨BJ,0,none⟩=some (.chan none):=by simp[World.cell?,eV]
 have hfro:wV.frozen? ⟨BJ,0,none⟩=false:=by simp[World.frozen?,eV]
 go_simp
 refine hW _ _ ⟨rfl,fun e he=>by have hm:=mem_listed he;simp[go_sem,hcell,hfro] at hm;first|exact hm | (rw[events_store _ _ _ _ _ _ rfl,hcell] at hm;simp[hfro] at hm;exact hm),fun γ4 w4 s4 l4 fX=>?_⟩
 clear hW;clear W hcell hfro eV;clear wV
 replace L:=L.trans l4 (fun _ q=>q) (fun b _ q=>by have q':b=BJ:=q;show γ.hs<=b;omega)
 replace fd:=fd.next (.inl rfl) l4 (fun q=>by have q':_=BJ:=q;omega)
 replace fj:=fj.next (.inr rfl) l4 (fun q=>by have q':_=BJ:=q;omega)
 replace fJ:=fX
 clear l4 s3
 have hg:γ4.tag i≠.gone:=s4.ng
 (try walk_nrm);refine len hg ?_;refine lsq hg ?_;refine lrg hg ?_;simp only[ix,Nat.reduceAdd]
 refine lon_push true s4 rfl fun wV=>?_
 refine goes_oper_k rfl rfl (by k_ne) (fun W hW=>?_)
 go_simp
 refine hW _ _ ⟨_,rfl,rfl,rfl,rfl,no_listed (by first | (simp[go_sem];done) | (simp[go_sem];kernel_rfl)),fun γ5 w5 s5 l5 a5 fs=>?_⟩
 clear hW;clear W
 generalize wV.heap.size=Bs at a5 fs ⊢
 clear wV
 have oBs:BJ < Bs:=by have:=fJ.lt;omega
 replace L:=L.trans l5 (fun _ q=>q) (fun _ _ q=>q.elim)
 replace fd:=fd.next (.inl rfl) l5 id
 replace fj:=fj.next (.inr rfl) l5 id
 replace fJ:=fJ.next (.inl rfl) l5 id
 clear l5 s4
 have hg:γ5.tag i≠.gone:=s5.ng
 try walk_nrm
 refine lon_push false s5 rfl fun wV=>?_
 refine goes_oper_k rfl rfl (by k_ne) (fun W hW=>?_)
 go_simp
 refine hW _ _ ⟨_,rfl,rfl,rfl,rfl,no_listed (by simp[go_sem]),fun γ6 w6 s6 l6 a6 fS=>?_⟩
 clear hW;clear W
 generalize wV.heap.size=BS at a6 fS ⊢
 clear wV
 have oBS:Bs < BS:=by have:=fs.lt;omega
 replace L:=L.trans l6 (fun _ q=>q) (fun _ _ q=>q.elim)
 replace fd:=fd.next (.inl rfl) l6 id
 replace fj:=fj.next (.inr rfl) l6 id
 replace fJ:=fJ.next (.inl rfl) l6 id
 replace fs:=fs.next (.inr rfl) l6 id
 clear l6 s5
 have hg:γ6.tag i≠.gone:=s6.ng
 try walk_nrm
 refine lon_store (v:=.chan (some Bs)) s6 rfl fS fun wV eV=>?_
 refine goes_oper_k rfl rfl (by k_ne) (fun W hW=>?_)
 have hcell:wV.cell? ⟨BS,0,none⟩=some (.chan none):=by simp[World.cell?,eV]
 have hfro:wV.frozen? ⟨BS,0,none⟩=false:=by simp[World.frozen?,eV]
 go_simp
 refine hW _ _ ⟨rfl,fun e he=>by have hm:=mem_listed he;simp[go_sem,hcell,hfro] at hm;first|exact hm | (rw[events_store _ _ _ _ _ _ rfl,hcell] at hm;simp[hfro] at hm;exact hm),fun γ7 w7 s7 l7 fX=>?_⟩
 clear hW;clear W hcell hfro eV;clear wV
 replace L:=L.trans l7 (fun _ q=>q) (fun b _ q=>by have q':b=BS:=q;show γ.hs<=b;omega)
 replace fd:=fd.next (.inl rfl) l7 (fun q=>by have q':_=BS:=q;omega)
 replace fj:=fj.next (.inr rfl) l7 (fun q=>by have q':_=BS:=q;omega)
 replace fJ:=fJ.next (.inl rfl) l7 (fun q=>by have q':_=BS:=q;omega)
 replace fs:=fs.next (.inr rfl) l7 (fun q=>by have q':_=BS:=q;omega)
 replace fS:=fX
 clear l7 s6
 have hg:γ7.tag i≠.gone:=s7.ng
 (try walk_nrm);refine len hg ?_;refine lsq hg ?_;refine lrg hg ?_;simp only[ix,Nat.reduceAdd]
 refine lon_push true s7 rfl fun wV=>?_
 refine goes_oper_k rfl rfl (by k_ne) (fun W hW=>?_)
 go_simp
 refine hW _ _ ⟨_,rfl,rfl,rfl,rfl,no_listed (by simp[go_sem]),fun γ8 w8 s8 l8 a8 fo=>?_⟩
 clear hW;clear W
 generalize wV.heap.size=Bo at a8 fo ⊢
 clear wV
 have oBo:BS < Bo:=by have:=fS.lt;omega
 replace L:=L.trans l8 (fun _ q=>q) (fun _ _ q=>q.elim)
 replace fd:=fd.next (.inl rfl) l8 id
 replace fj:=fj.next (.inr rfl) l8 id
 replace fJ:=fJ.next (.inl rfl) l8 id
 replace fs:=fs.next (.inr rfl) l8 id
 replace fS:=fS.next (.inl rfl) l8 id
 clear l8 s7
 have hg:γ8.tag i≠.gone:=s8.ng
 (try walk_nrm);refine len hg ?_;refine lsq hg ?_;refine lrg hg ?_;simp only[ix,Nat.reduceAdd]
 refine lon_push true s8 rfl fun wV=>?_
 refine goes_oper_k rfl rfl (by k_ne) (fun W hW=>?_)
 go_simp
 refine hW _ _ ⟨_,rfl,rfl,rfl,rfl,no_listed (by simp[go_sem]),fun γ9 w9 s9 l9 a9 fw=>?_⟩
 clear hW;clear W
 generalize wV.heap.size=Bw at a9 fw ⊢
 clear wV
 have oBw:Bo < Bw:=by have:=fo.lt;omega
 replace L:=L.trans l9 (fun _ q=>q) (fun _ _ q=>q.elim)
 replace fd:=fd.next (.inl rfl) l9 id
 replace fj:=fj.next (.inr rfl) l9 id
 replace fJ:=fJ.next (.inl rfl) l9 id
 replace fs:=fs.next (.inr rfl) l9 id
 replace fS:=fS.next (.inl rfl) l9 id
 replace fo:=fo.next (.inr rfl) l9 id
 clear l9 s8
 have hg:γ9.tag i≠.gone:=s9.ng
 (try walk_nrm);refine len hg ?_;refine lsq hg ?_;refine lsq hg ?_;refine lrg hg ?_;simp only[ix,Nat.reduceAdd];(iterate 2 (refine lop hg rfl rfl (by k_ne) fun v W H=>?_;go_simp;refine H _ _ rfl (by simp[go_sem]) ?_;clear H W v;try walk_nrm));refine len hg ?_
 refine lon_enter s9 rfl (fun _=>stepG_block) fun γE wE sE lE hIE=>?_
 replace L:=L.trans lE (fun _ q=>q) (fun _ _ q=>q.elim)
 replace fd:=fd.next (.inl rfl) lE id
 replace fj:=fj.next (.inr rfl) lE id
 replace fJ:=fJ.next (.inl rfl) lE id
 replace fs:=fs.next (.inr rfl) lE id
 replace fS:=fS.next (.inl rfl) lE id
 replace fo:=fo.next (.inr rfl) lE id
 replace fw:=fw.next (.inr rfl) lE id
 clear s9 lE hg
 have hEsz:=sE.hs
 have holdo:kind=.fill->(out < γE.hs/\γE.bk out=.priv i)/\∃cells,wE.heap[out]?=some (.cells cells oty (0,0))/\cells.size=32 * n:=fun hk=>by
  obtain⟨⟨q1,q2⟩,cells,q3,q4⟩:=ho hk
  exact⟨⟨Nat.lt_of_lt_of_le q1 L.hs,(own_same L q1 (.inl q2)).trans q2⟩,cells,(L.heap out q1 (Nat.not_le.2 q1) (.inl q2)).trans q3,q4⟩
 have hskE:kind=.seek->SeekB γE wE (⟨i,γE.cnt,W0,n,Bw,Bj,Bs,out,oty,fun b=>wE.heap[b]?,val,kind,Bo,66,hit⟩:Ph):=fun hk=>by
  obtain⟨q1,rfl,⟨q3,q4⟩,q5⟩:=hsk hk
  have q6:=(own_same L q3 (.inr (.inr (.inr ⟨rfl,q4⟩)))).trans q4
  exact⟨⟨Nat.lt_of_lt_of_le q3 L.hs,q6⟩,(L.heap out q3 (Nat.not_le.2 q3) (.inr (.inr (.inr ⟨rfl,q4⟩)))).trans q5,⟨fo.lt,fo.bk⟩,fo.heap,⟨by show Bo≠Bw;omega,by show Bo≠Bj;omega,by show Bo≠Bs;omega⟩,q1⟩
 have nout:∀b,γ.hs<=b->¬(kind=.fill/\b=out):=fun b hb q=>by have:=(ho q.1).1.1;omega
 refine⟨(⟨i,γE.cnt,W0,n,Bw,Bj,Bs,out,oty,fun b=>wE.heap[b]?,val,kind,Bo,66,hit⟩:Ph),EachFx i kind out γE,rfl,?_,fun hI=>?_⟩
 ·refine⟨sE.lone,?_,hskE,rfl,hW,by show W0 < _;omega,by rw[L.cnt];exact hcnt,⟨fw.lt,fw.bk⟩,⟨fj.lt,fj.bk⟩,⟨fs.lt,fs.bk⟩,⟨by show Bj≠Bw;omega,by show Bs≠Bw;omega,by show Bj≠Bs;omega⟩,fun hk=>(holdo hk).1,fun b h=>⟨h.1,h.2.1,fun hk e=>h.2.2 ⟨hk,e⟩⟩,fun _ _=>rfl,fun _ _ _ _=>rfl,fw.heap,fj.heap,fs.heap,fun hk=>(holdo hk).2,sE.deaf⟩
  rw[L.col];exact hkind
 have hC0:=hI.core _ rfl
 have hiE:i < γE.cnt:=hC0.fd
 have hcE:=hIE.cnt
 have tE:(γE.enter (⟨i,γE.cnt,W0,n,Bw,Bj,Bs,out,oty,fun b=>wE.heap[b]?,val,kind,Bo,66,hit⟩:Ph) (EachFx i kind out γE)).tag i=.add 0 0:=by show upd γE.tag i (Tag.add 0 0) i=_;exact upd_same _ _ _
 have dE:(γE.enter (⟨i,γE.cnt,W0,n,Bw,Bj,Bs,out,oty,fun b=>wE.heap[b]?,val,kind,Bo,66,hit⟩:Ph) (EachFx i kind out γE)).deaf i=0:=sE.deaf
 have pE:(γE.enter (⟨i,γE.cnt,W0,n,Bw,Bj,Bs,out,oty,fun b=>wE.heap[b]?,val,kind,Bo,66,hit⟩:Ph) (EachFx i kind out γE)).ph=some (⟨i,γE.cnt,W0,n,Bw,Bj,Bs,out,oty,fun b=>wE.heap[b]?,val,kind,Bo,66,hit⟩:Ph):=rfl
 have cE:(γE.enter (⟨i,γE.cnt,W0,n,Bw,Bj,Bs,out,oty,fun b=>wE.heap[b]?,val,kind,Bo,66,hit⟩:Ph) (EachFx i kind out γE)).col=γE.col:=rfl
 have hsE:(γE.enter (⟨i,γE.cnt,W0,n,Bw,Bj,Bs,out,oty,fun b=>wE.heap[b]?,val,kind,Bo,66,hit⟩:Ph) (EachFx i kind out γE)).hs=γE.hs:=rfl
 have fixE:∀b j,i<=j->b < γE.hs->γE.bk b=.priv i->¬(kind=.fill/\b=out)->(γE.enter (⟨i,γE.cnt,W0,n,Bw,Bj,Bs,out,oty,fun b=>wE.heap[b]?,val,kind,Bo,66,hit⟩:Ph) (EachFx i kind out γE)).F j b:=fun b j hj hb hpv hne=>⟨hb,i,hj,by simp only[Gho.enter];rw[if_pos ⟨hb,hpv,hne⟩]⟩
 have fixO:∀b j,i<=j->b < γE.hs->(∃m,m<=i/\γE.bk b=.fix m)->(γE.enter (⟨i,γE.cnt,W0,n,Bw,Bj,Bs,out,oty,fun b=>wE.heap[b]?,val,kind,Bo,66,hit⟩:Ph) (EachFx i kind out γE)).F j b:=fun b j hj hb ⟨m,hm,q⟩=>⟨hb,m,Nat.le_trans hm hj,by
  simp only[Gho.enter]
  rw[if_neg (fun r=>by have r2:=r.2.1;rw[q] at r2;cases r2),if_neg (fun r=>by have:=(holdo r.1).1.2;rw[<- r.2,q] at this;cases this)]
  exact q⟩
 have hon:i≠0\/Ph.f (⟨i,γE.cnt,W0,n,Bw,Bj,Bs,out,oty,fun b=>wE.heap[b]?,val,kind,Bo,66,hit⟩:Ph)=0:=(on_f (p:=(⟨i,γE.cnt,W0,n,Bw,Bj,Bs,out,oty,fun b=>wE.heap[b]?,val,kind,Bo,66,hit⟩:Ph)) pE).2
 obtain⟨γ',hγ'⟩:∃γ',γE.enter (⟨i,γE.cnt,W0,n,Bw,Bj,Bs,out,oty,fun b=>wE.heap[b]?,val,kind,Bo,66,hit⟩:Ph) (EachFx i kind out γE)=γ':=⟨_,rfl⟩
 have nx:γ'.next=0:=by rw[<- hγ'];rfl
 rw[hγ'] at hI tE dE pE cE hsE fixE fixO ⊢
 have hg:γ'.tag i≠.gone:=by rw[tE];simp
 refine lives_ctl rfl hg (fun _=>stepG_loop) ?_
 refine lives_loop (fun m tm γx wx=>∃x:Nat,∃v14 v15 v16 v17:Value,m=W0 - x/\x<=W0/\tm=#[.int .i64 n,.int .i64 W0,.func (.func f) #[] caps,undef,undef,.pointer (some ⟨Bd,0,none⟩),.pointer (some ⟨BJ,0,none⟩),.pointer (some ⟨BS,0,none⟩),.pointer (some ⟨Bo,0,none⟩),.pointer (some ⟨Bw,0,none⟩),.chan (some Bj),.chan (some Bs),.int .i64 W0,.int .i64 (x:Int),v14,v15,v16,v17,undef,undef,undef,undef,undef]/\γx.ph=some (⟨i,γE.cnt,W0,n,Bw,Bj,Bs,out,oty,fun b=>wE.heap[b]?,val,kind,Bo,66,hit⟩:Ph)/\γx.tag i=.add x 0/\γx.deaf i=0/\Kept i γ' wE γx wx) (m:=W0) ⟨0,_,_,_,_,by omega,by omega,rfl,pE,tE,dE,.refl _ _ _⟩ fun m ih tm γ1 w1 h=>?_
 clear hg tE dE hI
 obtain⟨x,v14,v15,v16,v17,rfl,hx,rfl,hp1,ht1,hd1,hk1⟩:=h
 have hg:γ1.tag i≠.gone:=by rw[ht1];simp
 refine lsq hg ?_;refine lrg hg ?_;simp only[ix,Nat.reduceAdd];refine lop hg rfl rfl (by k_ne) fun v W H=>?_;go_simp;refine H _ _ rfl (by simp[go_sem]) ?_;clear H W v;(try walk_nrm);refine len hg ?_
 by_cases hxW:x < W0
 ·simp only[hxW,decide_true]
  refine lsq hg ?_;refine lct hg rfl ?_;refine lsk hg ?_;refine lsq hg ?_
  refine lives_ctl rfl hg (fun _=>stepG_block) ?_
  refine lsq hg ?_;refine lrg hg ?_;simp only[ix,Nat.reduceAdd]
  refine lives_step rfl hg fun γ2 w2 hrl hI hi=>?_
  have l2:=hrl.live hg
  have hp2:=l2.ph _ ⟨hp1,hon⟩
  have ht2:=hrl.tag.trans ht1
  have hd2:=hrl.deaf.trans hd1
  have hk2:=hk1.trans l2.kept
  refine .go _ w2 #[] γ2 (stepG_callv (first:=#[]) (caps:=#[]) (vs:=#[.pointer (some ⟨Bw,0,none⟩),.int .i64 1]) rfl rfl (by k_ne) rfl rfl (by simp[Act.eval]) wgLib.f_add (nm_add wgLink) rfl) (do_idle hI hi _) ?_
  refine lives_add (p:=(⟨i,γE.cnt,W0,n,Bw,Bj,Bs,out,oty,fun b=>wE.heap[b]?,val,kind,Bo,66,hit⟩:Ph)) (j:=x) wgLib hp2 ht2 hxW hd2 hI fun γ3 w3 hr3 ht3 hd3 hI3=>?_
  have hk3:=hk2.trans hr3.kept
  have hp3:=hr3.ph _ ⟨hp2,hon⟩
  replace ht3:γ3.tag i=.add x 1:=ht3
  replace hd3:γ3.deaf i=0:=hd3
  clear hr3 hI hi l2 hrl hp2 ht2 hd2 hk2 hp1 ht1 hd1 hk1 hg
  have hg:γ3.tag i≠.gone:=by rw[ht3];simp
  clear hI3;walk_nrm;refine len hg ?_;refine lrg hg ?_;simp only[ix,Nat.reduceAdd];refine lop hg rfl rfl (by k_ne) fun v W H=>?_;go_simp;refine H _ _ rfl (by first | (simp[go_sem];done) | (simp[go_sem];kernel_rfl)) ?_;clear H W v;try walk_nrm
  refine lives_step rfl hg fun γ4 w4 hrl4 hI4 hi4=>?_
  have l4:=hrl4.live hg
  have hp4:=l4.ph _ ⟨hp3,hon⟩
  have ht4:=hrl4.tag.trans ht3
  have hd4:=hrl4.deaf.trans hd3
  have hk4:=hk3.trans l4.kept
  have hcn:γ4.cnt=γE.cnt+x:=by
   have h1:=(hI4.core _ hp4).cnt
   unfold Gho.started at h1
   rw[show γ4.tag (Ph.f (⟨i,γE.cnt,W0,n,Bw,Bj,Bs,out,oty,fun b=>wE.heap[b]?,val,kind,Bo,66,hit⟩:Ph))=_ from ht4] at h1
   exact h1
  refine .spawn _ _ (γ4.spawn (⟨i,γE.cnt,W0,n,Bw,Bj,Bs,out,oty,fun b=>wE.heap[b]?,val,kind,Bo,66,hit⟩:Ph) x) (stepG_gov rfl rfl (by k_ne) rfl rfl) (do_spawn hI4 hp4 ht4 hd4) ?_ ?_
  ·have ht5:(γ4.spawn (⟨i,γE.cnt,W0,n,Bw,Bj,Bs,out,oty,fun b=>wE.heap[b]?,val,kind,Bo,66,hit⟩:Ph) x).tag i=.add (x+1) 0:=(upd_ne _ _ (by omega)).trans (upd_same _ _ _)
   have hd5:(γ4.spawn (⟨i,γE.cnt,W0,n,Bw,Bj,Bs,out,oty,fun b=>wE.heap[b]?,val,kind,Bo,66,hit⟩:Ph) x).deaf i=0:=(upd_ne _ _ (by omega)).trans hd4
   have hp5:(γ4.spawn (⟨i,γE.cnt,W0,n,Bw,Bj,Bs,out,oty,fun b=>wE.heap[b]?,val,kind,Bo,66,hit⟩:Ph) x).ph=some (⟨i,γE.cnt,W0,n,Bw,Bj,Bs,out,oty,fun b=>wE.heap[b]?,val,kind,Bo,66,hit⟩:Ph):=hp4
   have hk5:Kept i γ' wE (γ4.spawn (⟨i,γE.cnt,W0,n,Bw,Bj,Bs,out,oty,fun b=>wE.heap[b]?,val,kind,Bo,66,hit⟩:Ph) x) w4:=hk4.trans ⟨Nat.le_refl _,fun _ _ _=>rfl,fun _ _ _=>rfl,rfl,fun _ h=>h.1,rfl,fun _ _=>Nat.le_refl _⟩
   show LV Tryd.prog wgLink.tWg top Post i (γ4.spawn (⟨i,γE.cnt,W0,n,Bw,Bj,Bs,out,oty,fun b=>wE.heap[b]?,val,kind,Bo,66,hit⟩:Ph) x) w4 _
   generalize γ4.spawn (⟨i,γE.cnt,W0,n,Bw,Bj,Bs,out,oty,fun b=>wE.heap[b]?,val,kind,Bo,66,hit⟩:Ph) x=γ5 at ht5 hd5 hp5 hk5 ⊢
   clear hg
   have hg:γ5.tag i≠.gone:=by rw[ht5];simp
   walk_nrm;refine len hg ?_
   refine lives_ctl rfl hg (fun _=>stepG_inBlock) ?_
   refine lrg hg ?_;simp only[ix,Nat.reduceAdd];(iterate 2 (refine lop hg rfl rfl (by k_ne) fun v W H=>?_;go_simp;refine H _ _ rfl (by simp[go_sem]) ?_;clear H W v;try walk_nrm));refine len hg ?_
   refine lives_ctl rfl hg (fun _=>stepG_inLoop) ?_
   rw[show IntKind.i64.wrap ((x:Int)+1)=((x+1:Nat):Int) from by rw[IntKind.wrap_i64];omega]
   exact ih (W0 - (x+1)) (by omega) _ _ _ ⟨x+1,_,_,_,_,rfl,by omega,rfl,hp5,ht5,hd5,hk5⟩
  ·have hj0:γ4.cnt≠0:=by omega
   have hi0:(γ4.cnt==0)=false:=by simpa using hj0
   have ht5:(γ4.spawn (⟨i,γE.cnt,W0,n,Bw,Bj,Bs,out,oty,fun b=>wE.heap[b]?,val,kind,Bo,66,hit⟩:Ph) x).tag γ4.cnt=.idle:=upd_same _ _ _
   have hd5:(γ4.spawn (⟨i,γE.cnt,W0,n,Bw,Bj,Bs,out,oty,fun b=>wE.heap[b]?,val,kind,Bo,66,hit⟩:Ph) x).deaf γ4.cnt=0:=upd_same _ _ _
   have hp5:(γ4.spawn (⟨i,γE.cnt,W0,n,Bw,Bj,Bs,out,oty,fun b=>wE.heap[b]?,val,kind,Bo,66,hit⟩:Ph) x).ph=some (⟨i,γE.cnt,W0,n,Bw,Bj,Bs,out,oty,fun b=>wE.heap[b]?,val,kind,Bo,66,hit⟩:Ph):=hp4
   have hF5:∀b,γ'.F γ4.cnt b->(γ4.spawn (⟨i,γE.cnt,W0,n,Bw,Bj,Bs,out,oty,fun b=>wE.heap[b]?,val,kind,Bo,66,hit⟩:Ph) x).F γ4.cnt b:=fun b hb=>hk4.F hb
   show LV Tryd.prog wgLink.tWg top Post γ4.cnt (γ4.spawn (⟨i,γE.cnt,W0,n,Bw,Bj,Bs,out,oty,fun b=>wE.heap[b]?,val,kind,Bo,66,hit⟩:Ph) x) w4 _
   refine lives_ctl rfl (by rw[ht5];simp) (fun w=>by rw[hi0];exact born_step _ w rfl) ?_
   refine lives_worker (p:=(⟨i,γE.cnt,W0,n,Bw,Bj,Bs,out,oty,fun b=>wE.heap[b]?,val,kind,Bo,66,hit⟩:Ph)) (J:=BJ) (D:=Bd) (tJ:=60) (mJ:=(0,0)) (tD:=31) (mD:=(0,0)) hff hfb hfn hp5 (by show γE.cnt<=γ4.cnt;omega) hj0 ht5 hd5 (hF5 _ (fixE _ _ (by omega) fJ.lt fJ.bk (nout _ (by omega)))) fJ.heap (hF5 _ (fixE _ _ (by omega) fd.lt fd.bk (nout _ (by omega)))) fd.heap (fun _=>⟨rfl,BS,61,(0,0),rfl,hF5 _ (fixE _ _ (by omega) fS.lt fS.bk (nout _ (by omega))),fS.heap⟩) ?_
   refine hjob (⟨i,γE.cnt,W0,n,Bw,Bj,Bs,out,oty,fun b=>wE.heap[b]?,val,kind,Bo,66,hit⟩:Ph) _ _ _ rfl (by show γE.cnt<=γ4.cnt;omega) hj0 rfl rfl rfl rfl rfl rfl (fun b hb q=>?_) (by have h1:=L.hs;have h2:=hk4.hs;show γ.hs<=γ4.hs;omega) ?_
   ·have hbE:b < γE.hs:=Nat.lt_of_lt_of_le hb L.hs
    have q2:γ.bk b=.priv i\/γ.bk b=.shd i\/(∃m,m<=i/\γ.bk b=.fix m)\/(i=0/\γ.bk b=.lock):=by
     rcases q with⟨q,_⟩|q
     ·exact .inl q
     ·exact .inr (.inr (.inl q))
    have e1:=own_same L hb q2
    refine⟨hF5 b ?_,L.heap b hb (Nat.not_le.2 hb) q2⟩
    rcases q with⟨q,q3⟩|⟨m,q,q3⟩
    ·exact fixE b _ (by omega) hbE (e1.trans q) q3
    ·exact fixO b _ (by omega) hbE ⟨m,q,e1.trans q3⟩
   ·show γ4.col=γ.col
    rw[hk4.col,cE,L.col]
 ·obtain rfl:x=W0:=by omega
  simp only[Nat.lt_irrefl,decide_false]
  clear ih hx;refine lsq hg ?_;refine lcf hg rfl ?_
  refine lives_ctl rfl hg (fun _=>stepG_exit rfl) ?_
  refine lives_step rfl hg fun γ2 w2 hrl hI hi=>?_
  have l2:=hrl.live hg
  have hp2:=l2.ph _ ⟨hp1,hon⟩
  have ht2:=hrl.tag.trans ht1
  have hd2:=hrl.deaf.trans hd1
  have hk2:=hk1.trans l2.kept
  have hnx2:γ2.next=0:=((hI.core _ hp2).add _ _ ht2).2.2
  refine .go _ w2 #[] (γ2.setTag i .feed) stepG_seq (do_begin hI hp2 ht2 hd2 _) ?_
  have ht3:(γ2.setTag i .feed).tag i=.feed:=setTag_at _ _ _
  have hd3:(γ2.setTag i .feed).deaf i=0:=hd2
  have hp3:(γ2.setTag i .feed).ph=some (⟨i,γE.cnt,x,n,Bw,Bj,Bs,out,oty,fun b=>wE.heap[b]?,val,kind,Bo,66,hit⟩:Ph):=hp2
  have hnx3:(γ2.setTag i .feed).next=0:=hnx2
  have hk3:Kept i γ' wE (γ2.setTag i .feed) w2:=hk2.trans ⟨Nat.le_refl _,fun _ _ _=>rfl,fun _ _ _=>rfl,rfl,fun _ h=>h.1,rfl,fun _ _=>Nat.le_refl _⟩
  show LV Tryd.prog wgLink.tWg top Post i (γ2.setTag i .feed) w2 _
  generalize γ2.setTag i .feed=γ3 at ht3 hd3 hp3 hnx3 hk3 ⊢
  clear hI hi hrl l2 hp2 ht2 hd2 hnx2 hk2 hp1 ht1 hd1 hk1 hg
  have hg:γ3.tag i≠.gone:=by rw[ht3];simp
  have hs:¬(γ3.tag i).tied:=by rw[ht3];exact fun h=>h
  refine lrg hg ?_;simp only[ix,Nat.reduceAdd];refine lop hg rfl rfl (by k_ne) fun v W H=>?_;go_simp;refine H _ _ rfl (by simp[go_sem]) ?_;clear H W v;try walk_nrm
  have hJ0:γ'.F i BJ:=fixE _ _ (Nat.le_refl _) fJ.lt fJ.bk (nout _ (by omega))
  have hS0:γ'.F i BS:=fixE _ _ (Nat.le_refl _) fS.lt fS.bk (nout _ (by omega))
  have hFix:=hk3.F hJ0
  refine lives_read rfl hs (fun γV wV hrl hIV=>?_)
  have hcell:wV.cell? ⟨BJ,0,none⟩=some (.chan (some Bj)):=fix_cell hIV ((hrl.live hg).ph _ ⟨hp3,hon⟩) ((hrl.live hg).kw.F hFix) fJ.heap
  refine goes_oper_k rfl rfl (by k_ne) (fun W hW=>?_)
  go_simp
  refine hW _ _ ⟨⟨rfl,fun e he=>?_⟩,?_⟩
  ·have hm:=mem_listed he
   simp[go_sem,hcell] at hm
   subst hm
   exact .inl ⟨_,rfl,rfl,.inr ⟨(hrl.live hg).kw.F hFix,rfl⟩⟩
  clear hW hcell;clear W;clear hrl hIV;clear γV wV;(try walk_nrm);clear hFix
  have hFix:=hk3.F hS0
  refine lives_read rfl hs (fun γV wV hrl hIV=>?_)
  have hcell:wV.cell? ⟨BS,0,none⟩=some (.chan (some Bs)):=fix_cell hIV ((hrl.live hg).ph _ ⟨hp3,hon⟩) ((hrl.live hg).kw.F hFix) fS.heap
  refine goes_oper_k rfl rfl (by k_ne) (fun W hW=>?_)
  go_simp
  refine hW _ _ ⟨⟨rfl,fun e he=>?_⟩,?_⟩
  ·have hm:=mem_listed he
   simp[go_sem,hcell] at hm
   subst hm
   exact .inl ⟨_,rfl,rfl,.inr ⟨(hrl.live hg).kw.F hFix,rfl⟩⟩
  clear hW hcell;clear W;clear hrl hIV;clear γV wV;(try walk_nrm);clear hFix
  refine lives_ctl rfl hg (fun _=>stepG_callv (first:=#[]) (caps:=#[]) (vs:=#[.int .i64 n,.chan (some Bj),.chan (some Bs)]) rfl rfl (by k_ne) rfl rfl (by simp[Act.eval]) Tryd.func30 (by kernel_rfl) rfl) ?_
  refine lives_feed (p:=(⟨i,γE.cnt,x,n,Bw,Bj,Bs,out,oty,fun b=>wE.heap[b]?,val,kind,Bo,66,hit⟩:Ph)) hp3 rfl ht3 hd3 hnx3 (by show n<=1000000;omega) fun γ4 w4 hk4 hp4 ht4 hd4 hI4=>?_
  replace hk4:=hk3.trans hk4
  rw[Frame.finish_at];clear hg hs
  have hg:γ4.tag i≠.gone:=by rw[ht4];simp
  walk_nrm;refine len hg ?_;refine lrg hg ?_;simp only[ix,Nat.reduceAdd]
  refine lives_step rfl hg fun γ5 w5 hrl5 hI5 hi5=>?_
  have l5:=hrl5.live hg
  refine .go _ w5 #[] γ5 (stepG_callv (first:=#[]) (caps:=#[]) (vs:=#[.pointer (some ⟨Bw,0,none⟩)]) rfl rfl (by k_ne) rfl rfl (by simp[Act.eval]) wgLib.f_wait (nm_wait wgLink) rfl) (do_idle hI5 hi5 _) ?_
  refine lives_wait (p:=(⟨i,γE.cnt,x,n,Bw,Bj,Bs,out,oty,fun b=>wE.heap[b]?,val,kind,Bo,66,hit⟩:Ph)) wgLib (l5.ph _ ⟨hp4,hon⟩) (hrl5.tag.trans ht4) (hrl5.deaf.trans hd4) hI5 fun γ6 w6 hr6 hp6 ht6 hd6 hI6 γ7 w7 hrl7=>?_
  have hk6:=(hk4.trans l5.kept).trans hr6.kept
  clear hg
  have hg:γ7.tag i≠.gone:=by rw[hrl7.tag];exact past_tag γ6 (⟨i,γE.cnt,x,n,Bw,Bj,Bs,out,oty,fun b=>wE.heap[b]?,val,kind,Bo,66,hit⟩:Ph)
  show LV Tryd.prog wgLink.tWg top Post i γ7 w7 _
  walk_nrm;refine len hg ?_
  refine lives_ctl rfl hg (fun _=>stepG_end) ?_
  refine lives_ctl rfl hg (fun _=>stepG_leave rfl rfl Tryd.func19 (results_none rfl _ _ _) (by kernel_rfl)) ?_
  refine hK (⟨i,γE.cnt,x,n,Bw,Bj,Bs,out,oty,fun b=>wE.heap[b]?,val,kind,Bo,66,hit⟩:Ph) γE wE γ6 w6 γ7 w7 sE L rfl rfl rfl rfl rfl rfl rfl rfl rfl (fun _=>rfl) (by rw[hγ'];exact hk6) hp6 ht6 hd6 hI6 hrl7
end
end Go.Proofs.YtbicafgmfgdckaaDoor
