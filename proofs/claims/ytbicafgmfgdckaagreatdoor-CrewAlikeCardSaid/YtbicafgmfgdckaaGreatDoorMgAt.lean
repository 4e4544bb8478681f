/- A piece. -/
import Derived.Test.YtbicafgmfgdckaaGreatDoorMgAo
import Derived.Test.YtbicafgmfgdckaaGreatDoorMgAs
set_option maxRecDepth 100000
set_option maxHeartbeats 16000000
set_option linter.all false
namespace Go.Proofs.YtbicafgmfgdckaaGreatDoor
open Go.Proofs.Tryz
open Go Go.RowKit Go.Conc Go.Conc.Lib Go.ConcR.Gen
open Go.ConcR (KK wgBlock WgAt stA smA rd wr mk DC0)
open Go.ConcN (sumTo upd upd_same upd_ne RelBy PermW WgLive)
section
variable {top:Nat} {I I' I2:Ab} {p:Ph} {w w' w2:World} {i j k n W0:Nat} {Post:Value->World->Prop} {es:Array Event} {g g':Goroutine}
theorem Ak9 (caps:Array Value) (w:World) (h:caps.size=5):stepG prog false (born prog { target:=.fn (.func 33) caps,args:=#[] }) w =
  .go (G ((baseD 33).at ⟨caps++Array.replicate 11 undef,[]⟩ [.code (Tryz.f33.body.getD .skip)]) [bot]) w #[]:=by
 simp[born,stepG,unwind,callDeferred,invoke,callFunc,func33,Tryz.f33,seen,GStep.after,G,Frame.enter,Frame.at,baseD,bot,h]
def E6 (i:Nat) (kind:Ap0) (out:Nat) (IE:Ab) (b:Nat):Prop:=b < IE.hs/\IE.bk b=.priv i/\¬(kind=.fill/\b=out)
theorem Mx {f:FuncId} {fn:Func} {cd:Code} {caps:Array Value} {c:Frame} {cs:List Frame} {kind:Ap0} {out:Nat} {oty:TypeId} {val:Nat->Nat->Value} {hit:Nat->Prop} (s0:Lon i I w) (fg:prog.funcs[f]?=some fn) (gq:fn.body=some cd) (hfn:(fn.name == "runtime.NumGoroutine")=false)
  (hn:n<=1000) (hW:1<=W0) (hW2:W0<=1000) (ak:I.cnt+W0<=top) (kv:(I.col=none/\kind≠.hand)\/∃c,I.col=some c/\kind=.hand/\n=c.n/\W0<=c.W) (hsk:kind=.seek->W0<=16/\i=0/\(out < I.hs/\I.bk out=.lock)/\w.heap[out]?=some (.cells #[.int .i32 0,.int .u32 0,.int .i64 (-1)] oty (0,0))) (ho:kind=.fill->(out < I.hs/\I.bk out=.priv i)/\∃cells,w.heap[out]?=some (.cells cells oty (0,0))/\cells.size=32 * n)
  (ju:∀p I' w' j,p.f=i->p.b<=j->j≠0->p.n=n->p.out=out->p.oty=oty->p.val=val->p.kind=kind->p.hit=hit->(∀b,b < I.hs->((I.bk b=.priv i/\¬(kind=.fill/\b=out))\/∃m,m<=i/\I.bk b=.fix m)->I'.F j b/\p.H b=w.heap[b]?)->I.hs<=I'.hs->I'.col=I.col->Job p top Post j I' w' f caps)
  (hK:∀(p:Ph) IE wE I6 w6 I7 w7,Lon i IE wE->Cp (fun b=>I.hs<=b) i I w IE wE->p.f=i->p.b=IE.cnt->p.W=W0->p.n=n->p.out=out->p.oty=oty->p.val=val->p.kind=kind->p.hit=hit->(∀b,p.H b=wE.heap[b]?)->N2 i (IE.enter p (E6 i kind out IE)) wE I6 w6 ->
   I6.ph=some p->I6.tag i=.thru->I6.deaf i=0->Ae Gp.tWg top I6 w6->G5 i (I6.past p) w6 I7 w7->LT top Post i I7 w7 (G (c.finish (.tuple #[])) cs)) :
  LT top Post i I w (G ((base 22).at ⟨#[.int .i64 n,.int .i64 W0,.func (.func f) #[] caps]++Array.replicate 20 undef,[]⟩ [.code (Tryz.f22.body.getD .skip)]) (c::cs)):=by
 have hg:I.tag i≠.gone:=s0.ng;have L:=Cp.refl (fun b=>I.hs<=b) i I w;simp only[Tryz.f22,Option.getD_some]
 (try walk_nrm);refine Am (Au ?_);simp only[ix,Nat.reduceAdd]
 refine Gf false s0 rfl fun wV=>?_;refine goes_oper_k rfl rfl (by k_ne) (fun W hW=>?_);go_simp;refine hW _ _ ⟨_,rfl,rfl,rfl,rfl,Ax (by simp[go_sem]),fun I1 w1 s1 l1 a1 fd=>?_⟩;clear hW;clear W;generalize wV.heap.size=Bd at a1 fd ⊢;clear wV;replace L:=L.trans l1 (fun _ q=>q) (fun _ _ q=>q.elim);clear l1 s0;have hg:I1.tag i≠.gone:=s1.ng
 (try walk_nrm);refine len (Am (Au ?_));simp only[ix,Nat.reduceAdd]
 refine Gf true s1 rfl fun wV=>?_;refine goes_oper_k rfl rfl (by k_ne) (fun W hW=>?_);go_simp;refine hW _ _ ⟨_,rfl,rfl,rfl,rfl,Ax (by first | (simp[go_sem];done) | (simp[go_sem];kernel_rfl)),fun I2 w2 s2 l2 a2 fj=>?_⟩;clear hW;clear W;generalize wV.heap.size=Bj at a2 fj ⊢;clear wV;have oBj:Bd < Bj:=by have:=fd.lt;omega
 replace L:=L.trans l2 (fun _ q=>q) (fun _ _ q=>q.elim);replace fd:=fd.next (.inl rfl) l2 id
 clear l2 s1;have hg:I2.tag i≠.gone:=s2.ng
 try walk_nrm
 refine Gf false s2 rfl fun wV=>?_;refine goes_oper_k rfl rfl (by k_ne) (fun W hW=>?_);go_simp;refine hW _ _ ⟨_,rfl,rfl,rfl,rfl,Ax (by simp[go_sem]),fun I3 w3 s3 l3 a3 fJ=>?_⟩;clear hW;clear W;generalize wV.heap.size=BJ at a3 fJ ⊢;clear wV;have oBJ:Bj < BJ:=by have:=fj.lt;omega
 replace L:=L.trans l3 (fun _ q=>q) (fun _ _ q=>q.elim);replace fd:=fd.next (.inl rfl) l3 id
 replace fj:=fj.next (.inr rfl) l3 id
 clear l3 s2;have hg:I3.tag i≠.gone:=s3.ng
 try walk_nrm
 refine Sr (v:=.chan (some Bj)) s3 rfl fJ fun wV eV=>?_;refine goes_oper_k rfl rfl (by k_ne) (fun W hW=>?_);have hcell:wV.cell? ⟨BJ,0,none⟩=some (.chan none):=by simp[World.cell?,eV]
 have hfro:wV.frozen? ⟨BJ,0,none⟩=false:=by simp[World.frozen?,eV]
 go_simp;refine hW _ _ ⟨rfl,fun e he=>by have hm:=mem_listed he;simp[go_sem,hcell,hfro] at hm;first|exact hm | (rw[events_store _ _ _ _ _ _ rfl,hcell] at hm;simp[hfro] at hm;exact hm),fun I4 w4 s4 l4 fX=>?_⟩;clear hW;clear W hcell hfro eV;clear wV;replace L:=L.trans l4 (fun _ q=>q) (fun b _ q=>by have q':b=BJ:=q;show I.hs<=b;omega);replace fd:=fd.next (.inl rfl) l4 (fun q=>by have q':_=BJ:=q;omega)
 replace fj:=fj.next (.inr rfl) l4 (fun q=>by have q':_=BJ:=q;omega)
 replace fJ:=fX;clear l4 s3;have hg:I4.tag i≠.gone:=s4.ng
 (try walk_nrm);refine len (Am (Au ?_));simp only[ix,Nat.reduceAdd]
 refine Gf true s4 rfl fun wV=>?_;refine goes_oper_k rfl rfl (by k_ne) (fun W hW=>?_);go_simp;refine hW _ _ ⟨_,rfl,rfl,rfl,rfl,Ax (by first | (simp[go_sem];done) | (simp[go_sem];kernel_rfl)),fun I5 w5 s5 l5 a5 fs=>?_⟩;clear hW;clear W;generalize wV.heap.size=Bs at a5 fs ⊢;clear wV;have oBs:BJ < Bs:=by have:=fJ.lt;omega
 replace L:=L.trans l5 (fun _ q=>q) (fun _ _ q=>q.elim);replace fd:=fd.next (.inl rfl) l5 id
 replace fj:=fj.next (.inr rfl) l5 id
 replace fJ:=fJ.next (.inl rfl) l5 id
 clear l5 s4;have hg:I5.tag i≠.gone:=s5.ng
 try walk_nrm
 refine Gf false s5 rfl fun wV=>?_;refine goes_oper_k rfl rfl (by k_ne) (fun W hW=>?_);go_simp;refine hW _ _ ⟨_,rfl,rfl,rfl,rfl,Ax (by simp[go_sem]),fun I6 w6 s6 l6 a6 fS=>?_⟩;clear hW;clear W;generalize wV.heap.size=BS at a6 fS ⊢;clear wV;have oBS:Bs < BS:=by have:=fs.lt;omega
 replace L:=L.trans l6 (fun _ q=>q) (fun _ _ q=>q.elim);replace fd:=fd.next (.inl rfl) l6 id
 replace fj:=fj.next (.inr rfl) l6 id
 replace fJ:=fJ.next (.inl rfl) l6 id
 replace fs:=fs.next (.inr rfl) l6 id
 clear l6 s5;have hg:I6.tag i≠.gone:=s6.ng
 try walk_nrm
 refine Sr (v:=.chan (some Bs)) s6 rfl fS fun wV eV=>?_;refine goes_oper_k rfl rfl (by k_ne) (fun W hW=>?_);have hcell:wV.cell? ⟨BS,0,none⟩=some (.chan none):=by simp[World.cell?,eV]
 have hfro:wV.frozen? ⟨BS,0,none⟩=false:=by simp[World.frozen?,eV]
 go_simp;refine hW _ _ ⟨rfl,fun e he=>by have hm:=mem_listed he;simp[go_sem,hcell,hfro] at hm;first|exact hm | (rw[events_store _ _ _ _ _ _ rfl,hcell] at hm;simp[hfro] at hm;exact hm),fun I7 w7 s7 l7 fX=>?_⟩;clear hW;clear W hcell hfro eV;clear wV;replace L:=L.trans l7 (fun _ q=>q) (fun b _ q=>by have q':b=BS:=q;show I.hs<=b;omega);replace fd:=fd.next (.inl rfl) l7 (fun q=>by have q':_=BS:=q;omega)
 replace fj:=fj.next (.inr rfl) l7 (fun q=>by have q':_=BS:=q;omega)
 replace fJ:=fJ.next (.inl rfl) l7 (fun q=>by have q':_=BS:=q;omega)
 replace fs:=fs.next (.inr rfl) l7 (fun q=>by have q':_=BS:=q;omega)
 replace fS:=fX;clear l7 s6;have hg:I7.tag i≠.gone:=s7.ng
 (try walk_nrm);refine len (Am (Au ?_));simp only[ix,Nat.reduceAdd]
 refine Gf true s7 rfl fun wV=>?_;refine goes_oper_k rfl rfl (by k_ne) (fun W hW=>?_);go_simp;refine hW _ _ ⟨_,rfl,rfl,rfl,rfl,Ax (by simp[go_sem]),fun I8 w8 s8 l8 a8 fo=>?_⟩;clear hW;clear W;generalize wV.heap.size=Bo at a8 fo ⊢;clear wV;have oBo:BS < Bo:=by have:=fS.lt;omega
 replace L:=L.trans l8 (fun _ q=>q) (fun _ _ q=>q.elim);replace fd:=fd.next (.inl rfl) l8 id
 replace fj:=fj.next (.inr rfl) l8 id
 replace fJ:=fJ.next (.inl rfl) l8 id
 replace fs:=fs.next (.inr rfl) l8 id
 replace fS:=fS.next (.inl rfl) l8 id
 clear l8 s7;have hg:I8.tag i≠.gone:=s8.ng
 (try walk_nrm);refine len (Am (Au ?_));simp only[ix,Nat.reduceAdd]
 refine Gf true s8 rfl fun wV=>?_;refine goes_oper_k rfl rfl (by k_ne) (fun W hW=>?_);go_simp;refine hW _ _ ⟨_,rfl,rfl,rfl,rfl,Ax (by simp[go_sem]),fun I9 w9 s9 l9 a9 fw=>?_⟩;clear hW;clear W;generalize wV.heap.size=Bw at a9 fw ⊢;clear wV;have oBw:Bo < Bw:=by have:=fo.lt;omega
 replace L:=L.trans l9 (fun _ q=>q) (fun _ _ q=>q.elim);replace fd:=fd.next (.inl rfl) l9 id
 replace fj:=fj.next (.inr rfl) l9 id
 replace fJ:=fJ.next (.inl rfl) l9 id
 replace fs:=fs.next (.inr rfl) l9 id
 replace fS:=fS.next (.inl rfl) l9 id
 replace fo:=fo.next (.inr rfl) l9 id
 clear l9 s8;have hg:I9.tag i≠.gone:=s9.ng
 (try walk_nrm);refine len (Am ?_);refine Am (Au ?_);simp only[ix,Nat.reduceAdd];(iterate 2 (refine Ai fun v W H=>?_;go_simp;refine H _ ?_;clear H W v;try walk_nrm));refine len ?_
 refine Akd s9 rfl (fun _=>stepG_block) fun IE wE sE lE hIE=>?_;replace L:=L.trans lE (fun _ q=>q) (fun _ _ q=>q.elim);replace fd:=fd.next (.inl rfl) lE id
 replace fj:=fj.next (.inr rfl) lE id
 replace fJ:=fJ.next (.inl rfl) lE id
 replace fs:=fs.next (.inr rfl) lE id
 replace fS:=fS.next (.inl rfl) lE id
 replace fo:=fo.next (.inr rfl) lE id
 replace fw:=fw.next (.inr rfl) lE id
 clear s9 lE hg;have hEsz:=sE.hs;have om:kind=.fill->(out < IE.hs/\IE.bk out=.priv i)/\∃cells,wE.heap[out]?=some (.cells cells oty (0,0))/\cells.size=32 * n:=fun hk=>by
  obtain⟨⟨q1,q2⟩,cells,q3,q4⟩:=ho hk;exact⟨⟨Nat.lt_of_lt_of_le q1 L.hs,(Mp L q1 (.inl q2)).trans q2⟩,cells,(L.heap out q1 (Nat.not_le.2 q1) (.inl q2)).trans q3,q4⟩
 have hskE:kind=.seek->Ate IE wE (⟨i,IE.cnt,W0,n,Bw,Bj,Bs,out,oty,fun b=>wE.heap[b]?,val,kind,Bo,82,hit⟩:Ph):=fun hk=>by
  obtain⟨q1,rfl,⟨q3,q4⟩,q5⟩:=hsk hk;have q6:=(Mp L q3 (.inr (.inr (.inr ⟨rfl,q4⟩)))).trans q4;exact⟨⟨Nat.lt_of_lt_of_le q3 L.hs,q6⟩,(L.heap out q3 (Nat.not_le.2 q3) (.inr (.inr (.inr ⟨rfl,q4⟩)))).trans q5,⟨fo.lt,fo.bk⟩,fo.heap,⟨by show Bo≠Bw;omega,by show Bo≠Bj;omega,by show Bo≠Bs;omega⟩,q1⟩
 have nout:∀b,I.hs<=b->¬(kind=.fill/\b=out):=fun b hb q=>by have:=(ho q.1).1.1;omega
 refine⟨(⟨i,IE.cnt,W0,n,Bw,Bj,Bs,out,oty,fun b=>wE.heap[b]?,val,kind,Bo,82,hit⟩:Ph),E6 i kind out IE,rfl,?_,fun hI=>?_⟩
 ·refine⟨sE.lone,?_,hskE,rfl,hW,by show W0 < _;omega,by rw[L.cnt];exact ak,⟨fw.lt,fw.bk⟩,⟨fj.lt,fj.bk⟩,⟨fs.lt,fs.bk⟩,⟨by show Bj≠Bw;omega,by show Bs≠Bw;omega,by show Bj≠Bs;omega⟩,fun hk=>(om hk).1,fun b h=>⟨h.1,h.2.1,fun hk e=>h.2.2 ⟨hk,e⟩⟩,fun _ _=>rfl,fun _ _ _ _=>rfl,fw.heap,fj.heap,fs.heap,fun hk=>(om hk).2,sE.deaf⟩;rw[L.col];exact kv
 have hC0:=hI.core _ rfl;have hiE:i < IE.cnt:=hC0.fd;have hcE:=hIE.cnt;have tE:(IE.enter (⟨i,IE.cnt,W0,n,Bw,Bj,Bs,out,oty,fun b=>wE.heap[b]?,val,kind,Bo,82,hit⟩:Ph) (E6 i kind out IE)).tag i=.add 0 0:=by show upd IE.tag i (B6.add 0 0) i=_;exact upd_same _ _ _
 have dE:(IE.enter (⟨i,IE.cnt,W0,n,Bw,Bj,Bs,out,oty,fun b=>wE.heap[b]?,val,kind,Bo,82,hit⟩:Ph) (E6 i kind out IE)).deaf i=0:=sE.deaf;have pE:(IE.enter (⟨i,IE.cnt,W0,n,Bw,Bj,Bs,out,oty,fun b=>wE.heap[b]?,val,kind,Bo,82,hit⟩:Ph) (E6 i kind out IE)).ph=some (⟨i,IE.cnt,W0,n,Bw,Bj,Bs,out,oty,fun b=>wE.heap[b]?,val,kind,Bo,82,hit⟩:Ph):=rfl;have cE:(IE.enter (⟨i,IE.cnt,W0,n,Bw,Bj,Bs,out,oty,fun b=>wE.heap[b]?,val,kind,Bo,82,hit⟩:Ph) (E6 i kind out IE)).col=IE.col:=rfl;have hsE:(IE.enter (⟨i,IE.cnt,W0,n,Bw,Bj,Bs,out,oty,fun b=>wE.heap[b]?,val,kind,Bo,82,hit⟩:Ph) (E6 i kind out IE)).hs=IE.hs:=rfl;have fixE:∀b j,i<=j->b < IE.hs->IE.bk b=.priv i->¬(kind=.fill/\b=out)->(IE.enter (⟨i,IE.cnt,W0,n,Bw,Bj,Bs,out,oty,fun b=>wE.heap[b]?,val,kind,Bo,82,hit⟩:Ph) (E6 i kind out IE)).F j b:=fun b j hj hb hpv hne=>⟨hb,i,hj,by simp only[Ab.enter];rw[if_pos ⟨hb,hpv,hne⟩]⟩;have fixO:∀b j,i<=j->b < IE.hs->(∃m,m<=i/\IE.bk b=.fix m)->(IE.enter (⟨i,IE.cnt,W0,n,Bw,Bj,Bs,out,oty,fun b=>wE.heap[b]?,val,kind,Bo,82,hit⟩:Ph) (E6 i kind out IE)).F j b:=fun b j hj hb ⟨m,hm,q⟩=>⟨hb,m,Nat.le_trans hm hj,by
  simp only[Ab.enter];rw[if_neg (fun r=>by have r2:=r.2.1;rw[q] at r2;cases r2),if_neg (fun r=>by have:=(om r.1).1.2;rw[<- r.2,q] at this;cases this)];exact q⟩
 have gi:i≠0\/Ph.f (⟨i,IE.cnt,W0,n,Bw,Bj,Bs,out,oty,fun b=>wE.heap[b]?,val,kind,Bo,82,hit⟩:Ph)=0:=(Dq (p:=(⟨i,IE.cnt,W0,n,Bw,Bj,Bs,out,oty,fun b=>wE.heap[b]?,val,kind,Bo,82,hit⟩:Ph)) pE).2;obtain⟨I',hI'⟩:∃I',IE.enter (⟨i,IE.cnt,W0,n,Bw,Bj,Bs,out,oty,fun b=>wE.heap[b]?,val,kind,Bo,82,hit⟩:Ph) (E6 i kind out IE)=I':=⟨_,rfl⟩;have nx:I'.next=0:=by rw[<- hI'];rfl
 rw[hI'] at hI tE dE pE cE hsE fixE fixO ⊢;have hg:I'.tag i≠.gone:=by rw[tE];simp
 refine Bz (fun _=>stepG_loop) ?_;refine Lw (fun m tm Ix wx=>∃x:Nat,∃v14 v15 v16 v17:Value,m=W0 - x/\x<=W0/\tm=#[.int .i64 n,.int .i64 W0,.func (.func f) #[] caps,undef,undef,.pointer (some ⟨Bd,0,none⟩),.pointer (some ⟨BJ,0,none⟩),.pointer (some ⟨BS,0,none⟩),.pointer (some ⟨Bo,0,none⟩),.pointer (some ⟨Bw,0,none⟩),.chan (some Bj),.chan (some Bs),.int .i64 W0,.int .i64 (x:Int),v14,v15,v16,v17,undef,undef,undef,undef,undef]/\Ix.ph=some (⟨i,IE.cnt,W0,n,Bw,Bj,Bs,out,oty,fun b=>wE.heap[b]?,val,kind,Bo,82,hit⟩:Ph)/\Ix.tag i=.add x 0/\Ix.deaf i=0/\N2 i I' wE Ix wx) (m:=W0) ⟨0,_,_,_,_,by omega,by omega,rfl,pE,tE,dE,.refl _ _ _⟩ fun m ih tm I1 w1 h=>?_;clear hg tE dE hI;obtain⟨x,v14,v15,v16,v17,rfl,hx,rfl,hp1,ht1,hd1,hk1⟩:=h;have hg:I1.tag i≠.gone:=by rw[ht1];simp
 refine Am (Au ?_);simp only[ix,Nat.reduceAdd];refine Ai fun v W H=>?_;go_simp;refine H _ ?_;clear H W v;(try walk_nrm);refine len ?_;by_cases hxW:x < W0
 ·simp only[hxW,decide_true];refine Am (Hd ?_);refine Gz (Am ?_);refine Bz (fun _=>stepG_block) ?_;refine Am (Au ?_);simp only[ix,Nat.reduceAdd];refine An rfl hg fun I2 w2 hrl hI hi=>?_;have l2:=hrl.live hg;have hp2:=l2.ph _ ⟨hp1,gi⟩;have ht2:=hrl.tag.trans ht1;have hd2:=hrl.deaf.trans hd1;have hk2:=hk1.trans l2.kept;refine .go _ w2 #[] I2 (Aj (first:=#[]) (caps:=#[]) (vs:=#[.pointer (some ⟨Bw,0,none⟩),.int .i64 1]) rfl rfl (by k_ne) rfl rfl (by simp[Act.eval]) Ab1.f_add (nm_add Gp) rfl) (Fj hI hi _) ?_;refine Akk (p:=(⟨i,IE.cnt,W0,n,Bw,Bj,Bs,out,oty,fun b=>wE.heap[b]?,val,kind,Bo,82,hit⟩:Ph)) (j:=x) Ab1 hp2 ht2 hxW hd2 hI fun I3 w3 hr3 bg hd3 bq=>?_;have hk3:=hk2.trans hr3.kept;have ax:=hr3.ph _ ⟨hp2,gi⟩;replace bg:I3.tag i=.add x 1:=bg;replace hd3:I3.deaf i=0:=hd3;clear hr3 hI hi l2 hrl hp2 ht2 hd2 hk2 hp1 ht1 hd1 hk1 hg;have hg:I3.tag i≠.gone:=by rw[bg];simp
  clear bq;(try walk_nrm);refine len (Au ?_);simp only[ix,Nat.reduceAdd];refine Ai fun v W H=>?_;go_simp;refine H _ ?_ (by first | (simp[go_sem];done) | (simp[go_sem];kernel_rfl));clear H W v;try walk_nrm
  refine An rfl hg fun I4 w4 xu wz hi4=>?_;have l4:=xu.live hg;have jq:=l4.ph _ ⟨ax,gi⟩;have di:=xu.tag.trans bg;have lu:=xu.deaf.trans hd3;have hk4:=hk3.trans l4.kept;have hcn:I4.cnt=IE.cnt+x:=by
   have h1:=(wz.core _ jq).cnt;unfold Ab.started at h1;rw[show I4.tag (Ph.f (⟨i,IE.cnt,W0,n,Bw,Bj,Bs,out,oty,fun b=>wE.heap[b]?,val,kind,Bo,82,hit⟩:Ph))=_ from di] at h1;exact h1
  refine .spawn _ _ (I4.spawn (⟨i,IE.cnt,W0,n,Bw,Bj,Bs,out,oty,fun b=>wE.heap[b]?,val,kind,Bo,82,hit⟩:Ph) x) (Za rfl rfl (by k_ne) rfl rfl) (Ao4 wz jq di lu) ?_ ?_
  ·have ij:(I4.spawn (⟨i,IE.cnt,W0,n,Bw,Bj,Bs,out,oty,fun b=>wE.heap[b]?,val,kind,Bo,82,hit⟩:Ph) x).tag i=.add (x+1) 0:=(upd_ne _ _ (by omega)).trans (upd_same _ _ _);have qc:(I4.spawn (⟨i,IE.cnt,W0,n,Bw,Bj,Bs,out,oty,fun b=>wE.heap[b]?,val,kind,Bo,82,hit⟩:Ph) x).deaf i=0:=(upd_ne _ _ (by omega)).trans lu;have ko:(I4.spawn (⟨i,IE.cnt,W0,n,Bw,Bj,Bs,out,oty,fun b=>wE.heap[b]?,val,kind,Bo,82,hit⟩:Ph) x).ph=some (⟨i,IE.cnt,W0,n,Bw,Bj,Bs,out,oty,fun b=>wE.heap[b]?,val,kind,Bo,82,hit⟩:Ph):=jq;have hk5:N2 i I' wE (I4.spawn (⟨i,IE.cnt,W0,n,Bw,Bj,Bs,out,oty,fun b=>wE.heap[b]?,val,kind,Bo,82,hit⟩:Ph) x) w4:=hk4.trans ⟨Nat.le_refl _,fun _ _ _=>rfl,fun _ _ _=>rfl,rfl,fun _ h=>h.1,rfl,fun _ _=>Nat.le_refl _⟩;show LT top Post i (I4.spawn (⟨i,IE.cnt,W0,n,Bw,Bj,Bs,out,oty,fun b=>wE.heap[b]?,val,kind,Bo,82,hit⟩:Ph) x) w4 _;generalize I4.spawn (⟨i,IE.cnt,W0,n,Bw,Bj,Bs,out,oty,fun b=>wE.heap[b]?,val,kind,Bo,82,hit⟩:Ph) x=I5 at ij qc ko hk5 ⊢;clear hg;have hg:I5.tag i≠.gone:=by rw[ij];simp
   (try walk_nrm);refine len ?_;refine Bz (fun _=>stepG_inBlock) ?_;refine Au ?_;simp only[ix,Nat.reduceAdd];(iterate 2 (refine Ai fun v W H=>?_;go_simp;refine H _ ?_;clear H W v;try walk_nrm));refine len ?_;refine Bz (fun _=>stepG_inLoop) ?_
   rw[show IntKind.i64.wrap ((x:Int)+1)=((x+1:Nat):Int) from by rw[IntKind.wrap_i64];omega];exact ih (W0 - (x+1)) (by omega) _ _ _ ⟨x+1,_,_,_,_,rfl,by omega,rfl,ko,ij,qc,hk5⟩
  ·have i7:I4.cnt≠0:=by omega
   have hi0:(I4.cnt==0)=false:=by simpa using i7
   have ij:(I4.spawn (⟨i,IE.cnt,W0,n,Bw,Bj,Bs,out,oty,fun b=>wE.heap[b]?,val,kind,Bo,82,hit⟩:Ph) x).tag I4.cnt=.idle:=upd_same _ _ _;have qc:(I4.spawn (⟨i,IE.cnt,W0,n,Bw,Bj,Bs,out,oty,fun b=>wE.heap[b]?,val,kind,Bo,82,hit⟩:Ph) x).deaf I4.cnt=0:=upd_same _ _ _;have ko:(I4.spawn (⟨i,IE.cnt,W0,n,Bw,Bj,Bs,out,oty,fun b=>wE.heap[b]?,val,kind,Bo,82,hit⟩:Ph) x).ph=some (⟨i,IE.cnt,W0,n,Bw,Bj,Bs,out,oty,fun b=>wE.heap[b]?,val,kind,Bo,82,hit⟩:Ph):=jq;have hF5:∀b,I'.F I4.cnt b->(I4.spawn (⟨i,IE.cnt,W0,n,Bw,Bj,Bs,out,oty,fun b=>wE.heap[b]?,val,kind,Bo,82,hit⟩:Ph) x).F I4.cnt b:=fun b hb=>hk4.F hb;show LT top Post I4.cnt (I4.spawn (⟨i,IE.cnt,W0,n,Bw,Bj,Bs,out,oty,fun b=>wE.heap[b]?,val,kind,Bo,82,hit⟩:Ph) x) w4 _;refine Ak rfl (by rw[ij];simp) (fun w=>by rw[hi0];exact Ak9 _ w rfl) ?_;refine Abb (p:=(⟨i,IE.cnt,W0,n,Bw,Bj,Bs,out,oty,fun b=>wE.heap[b]?,val,kind,Bo,82,hit⟩:Ph)) (J:=BJ) (D:=Bd) (tJ:=76) (mJ:=(0,0)) (tD:=31) (mD:=(0,0)) fg gq hfn ko (by show IE.cnt<=I4.cnt;omega) i7 ij qc (hF5 _ (fixE _ _ (by omega) fJ.lt fJ.bk (nout _ (by omega)))) fJ.heap (hF5 _ (fixE _ _ (by omega) fd.lt fd.bk (nout _ (by omega)))) fd.heap (fun _=>⟨rfl,BS,77,(0,0),rfl,hF5 _ (fixE _ _ (by omega) fS.lt fS.bk (nout _ (by omega))),fS.heap⟩) ?_;refine ju (⟨i,IE.cnt,W0,n,Bw,Bj,Bs,out,oty,fun b=>wE.heap[b]?,val,kind,Bo,82,hit⟩:Ph) _ _ _ rfl (by show IE.cnt<=I4.cnt;omega) i7 rfl rfl rfl rfl rfl rfl (fun b hb q=>?_) (by have h1:=L.hs;have h2:=hk4.hs;show I.hs<=I4.hs;omega) ?_
   ·have hbE:b < IE.hs:=Nat.lt_of_lt_of_le hb L.hs;have q2:I.bk b=.priv i\/I.bk b=.shd i\/(∃m,m<=i/\I.bk b=.fix m)\/(i=0/\I.bk b=.lock):=by
     rcases q with⟨q,_⟩|q
     ·exact .inl q
     ·exact .inr (.inr (.inl q))
    have e1:=Mp L hb q2;refine⟨hF5 b ?_,L.heap b hb (Nat.not_le.2 hb) q2⟩;rcases q with⟨q,q3⟩|⟨m,q,q3⟩
    ·exact fixE b _ (by omega) hbE (e1.trans q) q3
    ·exact fixO b _ (by omega) hbE ⟨m,q,e1.trans q3⟩
   ·show I4.col=I.col;rw[hk4.col,cE,L.col]
 ·obtain rfl:x=W0:=by omega
  simp only[Nat.lt_irrefl,decide_false];clear ih hx;refine Am (Gl ?_);refine Bz (fun _=>stepG_exit rfl) ?_;refine An rfl hg fun I2 w2 hrl hI hi=>?_;have l2:=hrl.live hg;have hp2:=l2.ph _ ⟨hp1,gi⟩;have ht2:=hrl.tag.trans ht1;have hd2:=hrl.deaf.trans hd1;have hk2:=hk1.trans l2.kept;have gj:I2.next=0:=((hI.core _ hp2).add _ _ ht2).2.2
  refine .go _ w2 #[] (I2.setTag i .feed) stepG_seq (Apa hI hp2 ht2 hd2 _) ?_;have bg:(I2.setTag i .feed).tag i=.feed:=Dw _ _ _;have hd3:(I2.setTag i .feed).deaf i=0:=hd2;have ax:(I2.setTag i .feed).ph=some (⟨i,IE.cnt,x,n,Bw,Bj,Bs,out,oty,fun b=>wE.heap[b]?,val,kind,Bo,82,hit⟩:Ph):=hp2;have ld:(I2.setTag i .feed).next=0:=gj
  have hk3:N2 i I' wE (I2.setTag i .feed) w2:=hk2.trans ⟨Nat.le_refl _,fun _ _ _=>rfl,fun _ _ _=>rfl,rfl,fun _ h=>h.1,rfl,fun _ _=>Nat.le_refl _⟩;show LT top Post i (I2.setTag i .feed) w2 _;generalize I2.setTag i .feed=I3 at bg hd3 ax ld hk3 ⊢;clear hI hi hrl l2 hp2 ht2 hd2 gj hk2 hp1 ht1 hd1 hk1 hg;have hg:I3.tag i≠.gone:=by rw[bg];simp
  have hs:¬(I3.tag i).tied:=by rw[bg];exact fun h=>h
  refine Au ?_;simp only[ix,Nat.reduceAdd];refine Ai fun v W H=>?_;go_simp;refine H _ ?_;clear H W v;try walk_nrm
  have hJ0:I'.F i BJ:=fixE _ _ (Nat.le_refl _) fJ.lt fJ.bk (nout _ (by omega));have kx:I'.F i BS:=fixE _ _ (Nat.le_refl _) fS.lt fS.bk (nout _ (by omega));have ag:=hk3.F hJ0;refine Yt (ad:=⟨BJ,0,none⟩) (v:=.chan (some Bj)) hs (fun IV wV hrl au=>⟨K6 au ((hrl.live hg).ph _ ⟨ax,gi⟩) ((hrl.live hg).kw.F ag) fJ.heap,.inl ⟨_,rfl,rfl,.inr ⟨(hrl.live hg).kw.F ag,rfl⟩⟩⟩) fun v W hcell H=>?_;go_simp;refine H _ ?_ (by simp[go_sem,hcell]);clear H hcell W v;try walk_nrm
  clear ag;have ag:=hk3.F kx;refine Yt (ad:=⟨BS,0,none⟩) (v:=.chan (some Bs)) hs (fun IV wV hrl au=>⟨K6 au ((hrl.live hg).ph _ ⟨ax,gi⟩) ((hrl.live hg).kw.F ag) fS.heap,.inl ⟨_,rfl,rfl,.inr ⟨(hrl.live hg).kw.F ag,rfl⟩⟩⟩) fun v W hcell H=>?_;go_simp;refine H _ ?_ (by simp[go_sem,hcell]);clear H hcell W v;try walk_nrm
  clear ag;refine Bz (fun _=>Aj (first:=#[]) (caps:=#[]) (vs:=#[.int .i64 n,.chan (some Bj),.chan (some Bs)]) rfl rfl (by k_ne) rfl rfl (by simp[Act.eval]) func37 (by kernel_rfl) rfl) ?_;refine Agd (p:=(⟨i,IE.cnt,x,n,Bw,Bj,Bs,out,oty,fun b=>wE.heap[b]?,val,kind,Bo,82,hit⟩:Ph)) ax rfl bg hd3 ld (by show n<=1000000;omega) fun I4 w4 hk4 jq di lu wz=>?_;replace hk4:=hk3.trans hk4;rw[Frame.finish_at];clear hg hs;have hg:I4.tag i≠.gone:=by rw[di];simp
  (try walk_nrm);refine len (Au ?_);simp only[ix,Nat.reduceAdd]
  refine An rfl hg fun I5 w5 xt qo hi5=>?_;have l5:=xt.live hg;refine .go _ w5 #[] I5 (Aj (first:=#[]) (caps:=#[]) (vs:=#[.pointer (some ⟨Bw,0,none⟩)]) rfl rfl (by k_ne) rfl rfl (by simp[Act.eval]) Ab1.f_wait (nm_wait Gp) rfl) (Fj qo hi5 _) ?_;refine Af2 (p:=(⟨i,IE.cnt,x,n,Bw,Bj,Bs,out,oty,fun b=>wE.heap[b]?,val,kind,Bo,82,hit⟩:Ph)) Ab1 (l5.ph _ ⟨jq,gi⟩) (xt.tag.trans di) (xt.deaf.trans lu) qo fun I6 w6 qs ol ul yo wy I7 w7 fp=>?_;have qu:=(hk4.trans l5.kept).trans qs.kept;clear hg;have hg:I7.tag i≠.gone:=by rw[fp.tag];exact Adb I6 (⟨i,IE.cnt,x,n,Bw,Bj,Bs,out,oty,fun b=>wE.heap[b]?,val,kind,Bo,82,hit⟩:Ph)
  show LT top Post i I7 w7 _
  (try walk_nrm);refine len ?_;refine Bz (fun _=>stepG_end) ?_;refine Bz (fun _=>stepG_leave rfl rfl func22 (results_none rfl _ _ _) (by kernel_rfl)) ?_
  refine hK (⟨i,IE.cnt,x,n,Bw,Bj,Bs,out,oty,fun b=>wE.heap[b]?,val,kind,Bo,82,hit⟩:Ph) IE wE I6 w6 I7 w7 sE L rfl rfl rfl rfl rfl rfl rfl rfl rfl (fun _=>rfl) (by rw[hI'];exact qu) ol ul yo wy fp
end
end Go.Proofs.YtbicafgmfgdckaaGreatDoor
