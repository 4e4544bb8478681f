/- A piece. -/
import Derived.Test.YtbicafgmfgdckaaGreatDoorMgAy
set_option maxRecDepth 100000
set_option maxHeartbeats 16000000
set_option linter.all false
namespace Go.Proofs.YtbicafgmfgdckaaGreatDoor
open Go.Proofs.Tryz
open Go Go.RowKit Go.Conc Go.Conc.Lib Go.ConcR.Gen
open Go.ConcR (KK wgBlock WgAt stA smA rd wr mk DC0)
open Go.ConcN (sumTo upd upd_same upd_ne RelBy PermW WgLive)
section
variable {top:Nat} {I I' I2:Ab} {p:Ph} {w w' w2:World} {i j k n:Nat} {Post:Value->World->Prop} {es:Array Event} {g g':Goroutine}
theorem Aoz {rows:List (List (BitVec 8))} {id:List (BitVec 8)} {m:Nat} {v:Int} (hn:n=rows.length) (h:Ld (fun x=>Hit rows id x/\x < m) v) (h2:m=n\/∃x,Hit rows id x/\x < m):Vu rows id v:=by
 rcases h with⟨rfl,q⟩|⟨y,rfl,⟨q1,q2⟩,q3⟩
 ·refine .inl ⟨rfl,fun x hx=>?_⟩;rcases h2 with rfl|⟨z,r1,r2⟩
  ·have hlt:x < rows.length:=by
    obtain⟨row,hr,_⟩:=hx;exact(List.getElem?_eq_some_iff.1 hr).1
   exact q x ⟨hx,by omega⟩
  ·exact q z ⟨r1,r2⟩
 ·refine .inr ⟨y,rfl,q1,fun x hx hh=>?_⟩;have:=q3 x ⟨hh,by omega⟩;omega
theorem Ww {m:Int} {la:Option Addr} {lc:Nat} {c:Frame} {cs:List Frame} {rows:List (List (BitVec 8))} {id:List (BitVec 8)} (s0:B3 I w) (hn:n<=1000) (hid:id.length=32) (hmem:Hv (Eu I I.hs w) la n rows) (hgl:prog.globals.size<=I.hs) (ak:I.cnt+16<=top)
  (jg:∀W0:Nat,m=W0->1<=W0->W0<=16->∀I' w' (v:Int),B3 I' w'->I.hs<=I'.hs->I'.cnt=I.cnt+W0->(∀b,b < I.hs->I'.bk b=I.bk b)->(∀b,b < I.hs->I.bk b=.priv 0->w'.heap[b]?=w.heap[b]?)->w'.tape=w.tape ->
   Vu rows id v->LT top Post 0 I' w' (G (c.finish (.tuple #[.int .i64 v,.int .i64 0])) cs))
  (mf:¬(1<=m/\m<=16)->∀I' w',B3 I' w'->C1 I I'->(∀b,b < I.hs->w'.heap[b]?=w.heap[b]?)->w'.tape=w.tape->LT top Post 0 I' w' (G (c.finish (.tuple #[.int .i64 (-1),.int .i64 2])) cs)) :
  LT top Post 0 I w (G ((base 14).at ⟨#[.slice la n lc,.agg (id.map U8).toArray,.int .i64 m]++Array.replicate 20 undef,[]⟩ [.code (Tryz.f14.body.getD .skip)]) (c::cs)):=by
 have hg:I.tag 0≠.gone:=s0.ng;simp only[Tryz.f14,Option.getD_some]
 (try walk_nrm);refine Am (Au ?_);simp only[ix,Nat.reduceAdd]
 refine solo_goes s0 rfl fun wV eV eT=>?_;refine goes_oper_k rfl rfl (by k_ne) (fun W hW=>?_);go_simp;refine hW _ _ ⟨Dc (w:=wV) rfl rfl rfl rfl (Ax (by simp[go_sem])),fun I1 w1 h1 t1 s1 l1 b1=>?_⟩;replace h1:w1.heap=(w.heap).push (Obj.cells #[Value.slice la n lc] 25):=by rw[h1];show wV.heap.push _=_;rw[eV];try rfl
 replace t1:w1.tape=w.tape:=t1.trans eT;replace b1:I1.bk (w.heap.size)=.priv 0:=b1 _ (by rw[s0.hs];simp[Nat.add_assoc]) (by show _ < (wV.heap.push _).size;rw[eV];simp[Nat.add_assoc]);clear hW;clear W eV eT;clear wV;have hg:I1.tag 0≠.gone:=s1.ng
 try walk_nrm
 refine solo_goes s1 rfl fun wV eV eT=>?_;refine goes_oper_k rfl rfl (by k_ne) (fun W hW=>?_);go_simp;refine hW _ _ ⟨Dc (w:=wV) rfl rfl rfl rfl (Ax (by simp[go_sem])),fun I2 w2 h2 t2 s2 l2 b2=>?_⟩;replace h2:w2.heap=(w.heap.push (Obj.cells #[Value.slice la n lc] 25)).push (Obj.cells (id.map U8).toArray 40):=by rw[h2];show wV.heap.push _=_;rw[eV,h1];try rfl
 replace t2:w2.tape=w1.tape:=t2.trans eT;replace b2:I2.bk (w.heap.size+1)=.priv 0:=b2 _ (by rw[s1.hs,h1];simp[Nat.add_assoc]) (by show _ < (wV.heap.push _).size;rw[eV,h1];simp[Nat.add_assoc]);clear hW;clear W eV eT;clear wV;rw[t1] at t2;have m2:=l2;replace l2:=l1.trans l2;have hg:I2.tag 0≠.gone:=s2.ng
 (try walk_nrm);(iterate 2 (refine Ai fun v W H=>?_;go_simp;refine H _ ?_;clear H W v;try walk_nrm));refine len (Am ?_);refine Am (Au ?_);simp only[ix,Nat.reduceAdd];refine Ai fun v W H=>?_;go_simp;refine H _ ?_;clear H W v;(try walk_nrm);refine Bz (fun _=>Aj (first:=#[]) (caps:=#[]) (vs:=#[.int .i64 m]) rfl rfl (by k_ne) rfl rfl (by simp[Act.eval]) func19 (by kernel_rfl) rfl) ?_
 refine Mu hg ?_;rw[Frame.finish_at];(try walk_nrm);refine Ai fun v W H=>?_;go_simp;refine H _ ?_;clear H W v;(try walk_nrm);refine len ?_;by_cases hm:1<=m/\m<=16
 ·have hmb:(!decide (1<=m)||!decide (m<=16))=false:=by simp[hm.1,hm.2]
  simp only[hmb];refine Gl (Gz ?_);refine Am (Au ?_);simp only[ix,Nat.reduceAdd];refine Ai fun v W H=>?_;go_simp;refine H _ ?_;clear H W v;try walk_nrm
  refine Aao (.inr rfl) s2 rfl fun wV eV eT=>?_;refine goes_oper_k rfl rfl (by k_ne) (fun W hW=>?_);go_simp;refine hW _ _ ⟨⟨⟨_,rfl⟩,rfl,.of rfl rfl,Ax (by simp[go_sem])⟩,fun I3 w3 h3 t3 s3 l3 b3=>?_⟩;replace h3:w3.heap=((w.heap.push (Obj.cells #[Value.slice la n lc] 25)).push (Obj.cells (id.map U8).toArray 40)).push (Obj.cells #[.int .i32 0,.int .u32 0,.int .i64 (-1)] 74):=by rw[h3];show wV.heap.push _=_;rw[eV,h2];try rfl
  replace t3:w3.tape=w2.tape:=t3.trans eT;replace b3:I3.bk (w.heap.size+2)=.lock:=by rw[<- b3,s2.hs,h2];simp[Nat.add_assoc]
  clear hW;clear W eV eT;clear wV;rw[t2] at t3;have m3:=l3;replace l3:=l2.trans l3;have hg:I3.tag 0≠.gone:=s3.ng
  try walk_nrm
  refine solo_goes s3 rfl fun wV eV eT=>?_;refine goes_oper_k rfl rfl (by k_ne) (fun W hW=>?_);go_simp;refine hW _ _ ⟨Dc (w:=wV) rfl rfl rfl rfl (Ax (by simp[go_sem])),fun I4 w4 h4 t4 s4 l4 b4=>?_⟩;replace h4:w4.heap=(((w.heap.push (Obj.cells #[Value.slice la n lc] 25)).push (Obj.cells (id.map U8).toArray 40)).push (Obj.cells #[.int .i32 0,.int .u32 0,.int .i64 (-1)] 74)).push (Obj.cells #[Value.pointer none] 66):=by rw[h4];show wV.heap.push _=_;rw[eV,h3];try rfl
  replace t4:w4.tape=w3.tape:=t4.trans eT;replace b4:I4.bk (w.heap.size+3)=.priv 0:=b4 _ (by rw[s3.hs,h3];simp[Nat.add_assoc]) (by show _ < (wV.heap.push _).size;rw[eV,h3];simp[Nat.add_assoc]);clear hW;clear W eV eT;clear wV;rw[t3] at t4;have m4:=l4;replace l4:=l3.trans l4;have hg:I4.tag 0≠.gone:=s4.ng
  try walk_nrm
  have H4:w4.heap[w.heap.size+1+1+1]?=some (.cells #[Value.pointer none] 66 (0,0)):=by rw[h4,Array.getElem?_push];simp
  have zn:I4.S 0 (w.heap.size+1+1+1):=⟨by rw[s4.hs,h4];simp,b4⟩;refine solo_goes s4 rfl fun wV eV eT=>?_;refine goes_oper_k rfl rfl (by k_ne) (fun W hW=>?_);have hcell:wV.cell? ⟨w.heap.size+1+1+1,0,none⟩=some (Value.pointer none):=by simp[World.cell?,eV,H4]
  have hfro:wV.frozen? ⟨w.heap.size+1+1+1,0,none⟩=false:=by simp[World.frozen?,eV,H4]
  go_simp;refine hW _ _ ⟨Vk wV _ _ zn (fun e he=>by have hm:=mem_listed he;simp[go_sem,hcell,hfro] at hm;first|exact hm | (rw[events_store _ _ _ _ _ _ rfl,hcell] at hm;simp[hfro] at hm;exact hm)),fun I5 w5 h5 t5 s5 l5 bX=>?_⟩;replace h5:w5.heap=(((w.heap.push (Obj.cells #[Value.slice la n lc] 25)).push (Obj.cells (id.map U8).toArray 40)).push (Obj.cells #[.int .i32 0,.int .u32 0,.int .i64 (-1)] 74)).push (.cells #[Value.pointer (some ⟨w.heap.size+1+1,0,none⟩)] 66):=by
   have hq:=N7 (w:=wV) (v:=Value.pointer (some ⟨w.heap.size+1+1,0,none⟩)) (A:=((w.heap.push (Obj.cells #[Value.slice la n lc] 25)).push (Obj.cells (id.map U8).toArray 40)).push (Obj.cells #[.int .i32 0,.int .u32 0,.int .i64 (-1)] 74)) (u:=Value.pointer none) (t:=66) (by rw[eV,h4]);simp only[Array.size_push] at hq;rw[h5];exact hq
  replace t5:w5.tape=w4.tape:=t5.trans eT;clear hW bX;clear W hcell hfro eV eT;clear wV;rw[t4] at t5;have b5:I5.bk (w.heap.size+3)=.priv 0:=(l5.bk _ zn.1).trans b4;have m5:=l5;replace l5:=l4.trans l5;have hg:I5.tag 0≠.gone:=s5.ng
  (try walk_nrm);refine len (Am (Au ?_));simp only[ix,Nat.reduceAdd]
  have hs0:=s0.hs;have H5:w5.heap[w.heap.size]?=some (.cells #[.slice la n lc] 25 (0,0)):=by
   rw[h5];simp only[Array.getElem?_push,Array.size_push]
   repeat (first|rw[if_neg (by omega)] | rw[if_pos (by omega)])
   try simp
  have H5i:w5.heap[w.heap.size+1]?=some (.cells (id.map U8).toArray 40 (0,0)):=by
   rw[h5];simp only[Array.getElem?_push,Array.size_push]
   repeat (first|rw[if_neg (by omega)] | rw[if_pos (by omega)])
   try simp
  have H5o:w5.heap[w.heap.size+2]?=some (.cells #[.int .i32 0,.int .u32 0,.int .i64 (-1)] 74 (0,0)):=by
   rw[h5];simp only[Array.getElem?_push,Array.size_push]
   repeat (first|rw[if_neg (by omega)] | rw[if_pos (by omega)])
   try simp
  have H5b:w5.heap[w.heap.size+3]?=some (.cells #[.pointer (some ⟨w.heap.size+2,0,none⟩)] 66 (0,0)):=by
   rw[h5];simp only[Array.getElem?_push,Array.size_push]
   repeat (first|rw[if_neg (by omega)] | rw[if_pos (by omega)])
   try simp
  have old5:∀b,b < w.heap.size->w5.heap[b]?=w.heap[b]?:=fun b hb=>by
   rw[h5];simp only[Array.getElem?_push,Array.size_push]
   repeat rw[if_neg (by omega)]
  have hs5:I5.hs=w.heap.size+4:=by rw[s5.hs,h5];simp
  have d0:I5.bk w.heap.size=.priv 0:=((m2.trans (m3.trans (m4.trans m5))).bk _ (by rw[s1.hs,h1];simp)).trans b1;have d1:I5.bk (w.heap.size+1)=.priv 0:=((m3.trans (m4.trans m5)).bk _ (by rw[s2.hs,h2];simp)).trans b2;have d2:I5.bk (w.heap.size+2)=.lock:=((m4.trans m5).bk _ (by rw[s3.hs,h3];simp)).trans b3;have d3:I5.bk (w.heap.size+3)=.priv 0:=b5;have hS5:I5.S 0 w.heap.size:=⟨by omega,d0⟩;refine Yt (ad:=⟨w.heap.size,0,none⟩) (v:=.slice la n lc) s5.ns (fun IV wV hrl au=>⟨by rw[World.cell?,(s5.rel hrl).2.1];simp[H5],.inl ⟨_,rfl,rfl,.inl (by rw[hrl.S s5.ng];exact hS5)⟩⟩) fun v W hcell H=>?_;go_simp;refine H _ ?_ (by simp[go_sem,hcell]);clear H hcell W v;try walk_nrm
  (iterate 3 (refine Ai fun v W H=>?_;go_simp;refine H _ ?_;clear H W v;try walk_nrm))
  obtain⟨W0,hW0⟩:∃W0:Nat,m=W0:=⟨m.toNat,by omega⟩;subst hW0;have l5':C1 I I5:=l5;refine Bz (fun _=>Aj (first:=#[]) (caps:=#[]) (vs:=#[.int .i64 n,.int .i64 W0,.func (.func 29) #[] #[.pointer (some ⟨w.heap.size,0,none⟩),.pointer (some ⟨w.heap.size+1,0,none⟩),.pointer (some ⟨w.heap.size+1+1+1,0,none⟩)]]) rfl rfl (by k_ne) rfl rfl (by simp[Act.eval]) func22 (by kernel_rfl) rfl) ?_;refine Ve (out:=w.heap.size+2) (oty:=74) (hit:=Hit rows id) s5 func29 rfl (by kernel_rfl) hn (by omega) (by omega) (by rw[l5'.cnt];omega) ⟨by omega,d2⟩ H5o (fun p I' w' i m7 hi0 og hpo iy ie hhit pq hhs=>?_) (fun I9 w9 s9 e1 e2 e3 e4 e5 ⟨mm,v,va,vb,e6,e7,e8⟩=>?_)
  ·have hne:∀b,I5.bk b=.priv 0->b≠w.heap.size+2:=fun b q e=>by rw[e,d2] at q;cases q
   refine Ao0 (Hw:=Eu I5 (w.heap.size+4) w5) (rows:=rows) (id:=id) (Zd s5.hs fun b hb hpv _=>pq b hb hpv) ?_ ie m7 hi0 (by omega);obtain⟨r1,⟨lb,lo,r2,r3⟩,r4⟩:=hmem.keeps (V7 (I':=I5) (w':=w5) (out':=w.heap.size+4) l5'.bk hs0 (fun b hb=>old5 b (by omega)) (by omega));refine⟨og.trans r1,by omega,⟨lb,lo,lc,fun q=>?_,r3⟩,hid,fun j v hj=>?_,?_,r4,fun x row hx=>?_⟩
   ·refine Cd d0 (by omega) ?_;rw[<- r2 q,og];simp[World.cell?,H5]
   ·refine Cd d1 (by omega) ?_;have dc:(id.map U8).toArray[j]?=some v:=by simpa using hj
    simp only[World.cell?,H5i];exact dc
   ·refine Cd (b:=w.heap.size+1+1+1) d3 (by omega) ?_;rw[hpo];simp[World.cell?,H5b]
   ·rw[hhit];exact⟨fun⟨row',q1,q2⟩=>by rw[hx] at q1;injection q1 with q1;rw[q1];exact q2,fun q=>⟨row,hx,q⟩⟩
  ·have H9:w9.heap[w.heap.size+1+1+1]?=some (.cells #[.pointer (some ⟨w.heap.size+2,0,none⟩)] 66 (0,0)):=(e4 (w.heap.size+3) (by omega) d3).trans H5b;have hS9:I9.S 0 (w.heap.size+1+1+1):=⟨by omega,(e3 (w.heap.size+3) (by omega)).trans d3⟩;rw[Frame.finish_at];clear hg;have hg:I9.tag 0≠.gone:=s9.ng
   (try walk_nrm);refine len (Am (Au ?_));simp only[ix,Nat.reduceAdd]
   refine Yt (ad:=⟨w.heap.size+1+1+1,0,none⟩) (v:=.pointer (some ⟨w.heap.size+2,0,none⟩)) s9.ns (fun IV wV hrl au=>⟨by rw[World.cell?,(s9.rel hrl).2.1];simp[H9],.inl ⟨_,rfl,rfl,.inl (by rw[hrl.S s9.ng];exact hS9)⟩⟩) fun v W hcell H=>?_;go_simp;refine H _ ?_ (by simp[go_sem,hcell]);clear H hcell W v;try walk_nrm
   (iterate 2 (refine Ai fun v W H=>?_;go_simp;refine H _ ?_;clear H W v;try walk_nrm))
   refine Ai4 (b:=w.heap.size+2) s9 rfl (by omega) ((e3 (w.heap.size+2) (by omega)).trans d2) (fun w2 e=>Iv rfl rfl (by k_ne) rfl (by simp[Act.eval]) (by kernel_rfl) (v:=v) (by simp[World.cell?,e,e6])) fun I10 w10 s10 l10 h10 t10=>?_;clear hg;have hg:I10.tag 0≠.gone:=s10.ng
   (try walk_nrm);(iterate 2 (refine Ai fun v W H=>?_;go_simp;refine H _ ?_;clear H W v;try walk_nrm));refine len ?_;refine Bz (fun _=>stepG_ret') ?_
   refine Ak rfl hg (fun w2=>stepG_leave (v:=.tuple #[.int .i64 v,.int .i64 0]) rfl rfl func14 (by kernel_rfl) (by kernel_rfl)) ?_;refine jg W0 rfl (by omega) (by omega) I10 w10 v s10 (by have:=l10.hs;omega) (by rw[l10.cnt,e2,l5'.cnt]) (fun b hb=>?_) (fun b hb hpv=>?_) (t10.trans (e5.trans t5)) (Aoz hmem.n e7 e8)
   ·exact(l10.bk b (by have:=l5'.hs;omega)).trans ((e3 b (by have:=l5'.hs;omega)).trans (l5'.bk b hb))
   ·rw[h10];exact(e4 b (by have:=l5'.hs;omega) ((l5'.bk b hb).trans hpv)).trans (old5 b (by omega))
 ·have hmb:(!decide (1<=m)||!decide (m<=16))=true:=by
   by_cases h1:1<=m
   ·have h2:¬m<=16:=fun h2=>hm ⟨h1,h2⟩;simp[h2]
   ·simp[h1]
  simp only[hmb];refine Hd (Am (Au ?_));simp only[ix,Nat.reduceAdd];(iterate 2 (refine Ai fun v W H=>?_;go_simp;refine H _ ?_;clear H W v;try walk_nrm));refine len ?_;refine Bz (fun _=>stepG_ret') ?_;refine Bz (fun _=>stepG_leave (v:=.tuple #[.int .i64 (-1),.int .i64 2]) rfl rfl func14 (by kernel_rfl) (by kernel_rfl)) ?_;exact mf hm I2 w2 s2 l2 (fun b hb=>by
   rw[h2];simp only[Array.getElem?_push,Array.size_push];have:=s0.hs
   repeat rw[if_neg (by omega)]) t2
end
section
variable {top:Nat} {I I' I2:Ab} {w w' w2 w1:World} {Post:Value->World->Prop} {la:Option Addr} {lc IB SB:Nat} {rows:Dg} {id:List (BitVec 8)}
theorem O3 (f:D5 0 I w IB (.priv 0) (.cells (id.map U8).toArray 40)):∀j v,(id.map U8)[j]?=some v->w.cell? ⟨IB,0+j,none⟩=some v:=fun j v h=>by
 have h2:(id.map U8).toArray[j]?=some v:=by simpa using h
 rw[Nat.zero_add];simp only[World.cell?,f.heap];exact h2
theorem D5.own {b:Nat} {cs:Array Value} {t:TypeId} {fr:Nat × Nat} (f:D5 0 I w b (.priv 0) (.cells cs t fr)):D7 I w b:=⟨⟨f.lt,f.bk⟩,_,_,_,f.heap⟩
theorem Auy:∀ {h h2:Avu.Sh},(h.L:Int)=h2.L->(h.M:Int)=h2.M->(h.K:Int)=h2.K->(h.W:Int)=h2.W->h.s=h2.s->h=h2
 | ⟨_,_,_,_,_⟩,⟨_,_,_,_,_⟩,e1,e2,e3,e4,e5=>by
  simp only at e1 e2 e3 e4 e5;obtain rfl:=Int.ofNat_inj.1 e1;obtain rfl:=Int.ofNat_inj.1 e2;obtain rfl:=Int.ofNat_inj.1 e3;obtain rfl:=Int.ofNat_inj.1 e4;rw[e5]
noncomputable def Abr:Code:=match Tryz.f4.body.getD .skip with
 | .seq _ (.seq _ (.seq _ (.seq _ c)))=>c
 | _=>.skip
theorem Wu {x:Option Addr} {cx p q ll:Nat} {L M K Wn a0 b0:Int} {sd:BitVec 32} {k0:List (BitVec 8)} {y:Bool} {v33 v34 v35 v36 v37 v38 v39:Value} (s0:B3 I w) (hgl:prog.globals.size<=I.hs) (hk:C2 w) (dw:I.bk 0=.priv 0) (ak:I.cnt+116<=top) (hn:rows.length<=12) (hl:∀r∈rows,r.length<=100) (ht:Er I w x cx rows) (yb:Hx I w la) (p1:1<=p) (p2:p<=16) (q1:1<=q) (q2:q<=16) (hj:∀v∈[v33,v34,v35,v36,v37,v38,v39],VR (Cw (D7 I w)) v v) (hid:id.length=32) (fS:D5 0 I w SB (.priv 0) (Obj.cells #[Value.int .i64 L,Value.int .i64 M,Value.int .i64 K,Value.int .i64 Wn,Af sd] 24)) (fI:D5 0 I w IB (.priv 0) (.cells (id.map U8).toArray 40))
  (hP:∀I' w',B3 I' w'->B4 I w I' w'->w'.tape=w.tape->Post (.bool true) w') :
  LT top Post 0 I w (G ((base 4).at ⟨#[.agg #[.int .i64 L,.int .i64 M,.int .i64 K,.int .i64 Wn,Af sd],.slice x rows.length cx,.agg (k0.map U8).toArray,.int .i64 p,.int .i64 q,.pointer (some ⟨SB,0,none⟩),undef,.pointer (some ⟨IB,0,none⟩),undef,undef,.bool false,undef,undef,undef,undef,undef,undef,undef,undef,undef,undef,undef,undef,undef,.slice la ll lc,.slice x rows.length cx,.int .i64 a0,.int .i64 p,.int .i64 b0,.int .i64 q,.slice x rows.length cx,.int .i64 rows.length,.bool y,v33,v34,v35,v36,v37,v38,v39]++Array.replicate 82 undef,[]⟩ [.code Abr]) []):=by
 have hg:I.tag 0≠.gone:=s0.ng;have st0:=B4.refl I w;have tp0:w.tape=w.tape:=rfl;have yj:=hgl;have jk:=hk;have ye:=dw;have fI0:=fI;have kf:=fS.own;have ww:=fI.own;simp only[Abr,Tryz.f4,Option.getD_some,Array.replicate_succ,Array.replicate_zero,List.push_toArray,List.append_toArray,List.nil_append,List.cons_append]
 (try walk_nrm);refine Am (Au ?_);simp only[ix,Nat.reduceAdd];refine Ai fun v W H=>?_;go_simp;refine H _ ?_;clear H W v;try walk_nrm
 refine Ly (id:=id) (B:=IB) (off:=0) s0 ⟨fI0.lt,fI0.bk⟩ hid (O3 fI0) rfl rfl (by k_ne) rfl (by simp[Act.eval]) ?_
 (try walk_nrm);refine Ai fun v W H=>?_;go_simp;refine H _ ?_;clear H W v;(try walk_nrm);refine Bz (fun _=>Aj (first:=#[]) (caps:=#[]) (vs:=#[.slice x rows.length cx,.agg (id.map U8).toArray,.int .i64 p]) rfl rfl (by k_ne) rfl rfl (by simp[Act.eval,Ca]) func14 (by kernel_rfl) rfl) ?_
 refine Ww (n:=rows.length) (rows:=rows) (id:=id) s0 (by omega) hid ((ht.stays st0).mem s0.hs rfl (fun r hr=>by have:=hl r hr;omega) jk ye) yj (by omega) (fun W1 e2 _ _ I1 w1 v s1 e1 cn1 e3 e4 e5 hfd1=>?_) (fun hm=>absurd (show 1<=(p:Int)/\(p:Int)<=16 by omega) hm);have st1:B4 I w I1 w1:=st0.trans ⟨e1,e3,e4⟩;have tp1:=e5.trans tp0;have pp:prog.globals.size<=I1.hs:=Nat.le_trans hgl st1.hs;have fI1:=fI.stays st1;clear e1 e2 e3 e4 e5;obtain⟨hk1,pg⟩:=Cz s0.hs hk dw st1;rw[Frame.finish_at];clear hg;have hg:I1.tag 0≠.gone:=s1.ng
 (try walk_nrm);(iterate 5 (refine Ai fun v W H=>?_;go_simp;refine H _ ?_;clear H W v;try walk_nrm));refine len (Am (Au ?_));simp only[ix,Nat.reduceAdd];refine Ai fun v W H=>?_;go_simp;refine H _ ?_;clear H W v;try walk_nrm
 refine Ly (id:=id) (B:=IB) (off:=0) s1 ⟨fI1.lt,fI1.bk⟩ hid (O3 fI1) rfl rfl (by k_ne) rfl (by simp[Act.eval]) ?_
 (try walk_nrm);refine Ai fun v W H=>?_;go_simp;refine H _ ?_;clear H W v;(try walk_nrm);refine Bz (fun _=>Aj (first:=#[]) (caps:=#[]) (vs:=#[.slice x rows.length cx,.agg (id.map U8).toArray,.int .i64 q]) rfl rfl (by k_ne) rfl rfl (by simp[Act.eval,Ca]) func14 (by kernel_rfl) rfl) ?_
 refine Ww (n:=rows.length) (rows:=rows) (id:=id) s1 (by omega) hid ((ht.stays st1).mem s1.hs rfl (fun r hr=>by have:=hl r hr;omega) hk1 pg) pp (by omega) (fun W2 e2 _ _ I2 w2 v2 s2 e1 cn2 e3 e4 e5 hfd2=>?_) (fun hm=>absurd (show 1<=(q:Int)/\(q:Int)<=16 by omega) hm);have st2:B4 I w I2 w2:=st1.trans ⟨e1,e3,e4⟩;have tp2:=e5.trans tp1;have po:prog.globals.size<=I2.hs:=Nat.le_trans hgl st2.hs;have fI2:=fI.stays st2;clear e1 e2 e3 e4 e5;obtain rfl:=Akq hfd1 hfd2;clear hfd1 hfd2;obtain⟨hk2,hkS2⟩:=Cz s0.hs hk dw st2;rw[Frame.finish_at];clear hg;have hg:I2.tag 0≠.gone:=s2.ng
 (try walk_nrm);(iterate 5 (refine Ai fun v W H=>?_;go_simp;refine H _ ?_;clear H W v;try walk_nrm));refine len ?_
 have fS2:=fS.stays st2;refine Am (Au ?_);simp only[ix,Nat.reduceAdd];refine E3 rfl s2.ns (fun IV wV hrl au=>?_);have bf:wV.cell? ⟨SB,0,none⟩=some (.int .i64 L):=by rw[World.cell?,(s2.rel hrl).2.1];simp[fS2.heap]
 have bc:wV.cell? ⟨SB,1,none⟩=some (.int .i64 M):=by rw[World.cell?,(s2.rel hrl).2.1];simp[fS2.heap]
 have ba:wV.cell? ⟨SB,2,none⟩=some (.int .i64 K):=by rw[World.cell?,(s2.rel hrl).2.1];simp[fS2.heap]
 have az:wV.cell? ⟨SB,3,none⟩=some (.int .i64 Wn):=by rw[World.cell?,(s2.rel hrl).2.1];simp[fS2.heap]
 have ay:wV.cell? ⟨SB,4,none⟩=some (Af sd):=by rw[World.cell?,(s2.rel hrl).2.1];simp[fS2.heap]
 refine goes_oper_k rfl rfl (by k_ne) (fun W hW=>?_);go_simp;refine hW _ _ ⟨⟨rfl,fun e he=>?_⟩,?_⟩
 ·have hm:=mem_listed he;simp[go_sem,bf,bc,ba,az,ay] at hm;rcases hm with rfl|rfl|rfl|rfl|rfl<;>exact .inl ⟨_,rfl,rfl,.inl (by rw[hrl.S s2.ng];exact⟨fS2.lt,fS2.bk⟩)⟩
 clear hW bf bc ba az ay;clear W;clear hrl au;clear IV wV;(try walk_nrm);(iterate 2 (refine Ai fun v W H=>?_;go_simp;refine H _ ?_;clear H W v;try walk_nrm));refine Bz (fun _=>Aj (first:=#[]) (caps:=#[]) (vs:=#[.agg #[.int .i64 L,.int .i64 M,.int .i64 K,.int .i64 Wn,Af sd],.slice x rows.length cx,.int .i64 p]) rfl rfl (by k_ne) rfl rfl (by simp[Act.eval,Ca]) func6 (by kernel_rfl) rfl) ?_;refine Mv (n:=rows.length) (rows:=rows) s2 (by omega) ((ht.stays st2).mem s2.hs rfl (fun r hr=>by have:=hl r hr;omega) hk2 hkS2) (fun r hr=>by have:=hl r hr;omega) po (by omega) (fun h W0 hG e1 e2 e3 e4 e5 e6 _ _ I3 w3 out s3 S3 cn3 t3 hm=>?_) (fun hbad I3 w3 s3 S3 cn3 t3=>?_)
 ·have hgd:K5 L M K Wn=true:=Rt.2 (by have:=hG.w1;have:=hG.w63;have:=hG.wl;have:=hG.lm;have:=hG.m;have:=hG.k;omega);have HE:=Lib.hid (show L=h.L/\M=h.M/\K=h.K/\Wn=h.W/\sd=h.s from⟨e1,e2,e3,e4,e5⟩);clear e1 e2 e3 e4 e5 e6;have st3:=st2.trans S3;have tp3:=t3.trans tp2;have jy:prog.globals.size<=I3.hs:=Nat.le_trans hgl st3.hs;have fS3:=fS.stays st3;obtain⟨hk3,jt⟩:=Cz s0.hs hk dw st3;rw[Frame.finish_at];clear hg;have hg:I3.tag 0≠.gone:=s3.ng
  (try walk_nrm);(iterate 5 (refine Ai fun v W H=>?_;go_simp;refine H _ ?_;clear H W v;try walk_nrm));refine len (Am (Au ?_));simp only[ix,Nat.reduceAdd]
  refine E3 rfl s3.ns (fun IV wV hrl au=>?_);have bf:wV.cell? ⟨SB,0,none⟩=some (.int .i64 L):=by rw[World.cell?,(s3.rel hrl).2.1];simp[fS3.heap]
  have bc:wV.cell? ⟨SB,1,none⟩=some (.int .i64 M):=by rw[World.cell?,(s3.rel hrl).2.1];simp[fS3.heap]
  have ba:wV.cell? ⟨SB,2,none⟩=some (.int .i64 K):=by rw[World.cell?,(s3.rel hrl).2.1];simp[fS3.heap]
  have az:wV.cell? ⟨SB,3,none⟩=some (.int .i64 Wn):=by rw[World.cell?,(s3.rel hrl).2.1];simp[fS3.heap]
  have ay:wV.cell? ⟨SB,4,none⟩=some (Af sd):=by rw[World.cell?,(s3.rel hrl).2.1];simp[fS3.heap]
  refine goes_oper_k rfl rfl (by k_ne) (fun W hW=>?_);go_simp;refine hW _ _ ⟨⟨rfl,fun e he=>?_⟩,?_⟩
  ·have hm:=mem_listed he;simp[go_sem,bf,bc,ba,az,ay] at hm;rcases hm with rfl|rfl|rfl|rfl|rfl<;>exact .inl ⟨_,rfl,rfl,.inl (by rw[hrl.S s3.ng];exact⟨fS3.lt,fS3.bk⟩)⟩
  clear hW bf bc ba az ay;clear W;clear hrl au;clear IV wV;(try walk_nrm);(iterate 2 (refine Ai fun v W H=>?_;go_simp;refine H _ ?_;clear H W v;try walk_nrm));refine Bz (fun _=>Aj (first:=#[]) (caps:=#[]) (vs:=#[.agg #[.int .i64 L,.int .i64 M,.int .i64 K,.int .i64 Wn,Af sd],.slice x rows.length cx,.int .i64 q]) rfl rfl (by k_ne) rfl rfl (by simp[Act.eval,Ca]) func6 (by kernel_rfl) rfl) ?_;refine Mv (n:=rows.length) (rows:=rows) s3 (by omega) ((ht.stays st3).mem s3.hs rfl (fun r hr=>by have:=hl r hr;omega) hk3 jt) (fun r hr=>by have:=hl r hr;omega) jy (by omega) (fun h2 W2 ue e1 e2 e3 e4 e5 e6 _ _ I4 w4 out2 s4 S4 cn4 t4 hm2=>?_) (fun hbad=>by rcases hbad with z|z;exact absurd (show 1<=(q:Int)/\(q:Int)<=16 by omega) z;rw[hgd] at z;cases z);obtain rfl:h=h2:=by
   obtain⟨f1,f2,f3,f4,f5⟩:=HE.out;exact Auy (by omega) (by omega) (by omega) (by omega) (f5.symm.trans e5)
  clear e1 e2 e3 e4 e5 e6;have st4:=st3.trans S4;have tp4:=t4.trans tp3;have jx:prog.globals.size<=I4.hs:=Nat.le_trans hgl st4.hs;have fS4:=fS.stays st4;obtain⟨hk4,yc⟩:=Cz s0.hs hk dw st4;rw[Frame.finish_at];clear hg;have hg:I4.tag 0≠.gone:=s4.ng
  (try walk_nrm);(iterate 5 (refine Ai fun v W H=>?_;go_simp;refine H _ ?_;clear H W v;try walk_nrm));refine len ?_
  have kr:=hm.stays S4;have ho:∀o,D4 I4 w4 h rows o->Hx I4 w4 (some ⟨o,0,none⟩):=fun o q ad e=>by
   injection e with e;subst e;obtain⟨cells,f,_⟩:=q;exact⟨rfl,f.own⟩
  have st4':=st4;have hT:=Wt (top:=top) (Post:=Post) (v:=v) (e:=0) (pa:=(some ⟨out,0,none⟩)) (qa:=(some ⟨out2,0,none⟩)) (k:=rows.length) (pk:=rows.length) (qk:=rows.length) (x:=x) (cx:=cx) (p:=p) (q:=q) (ll:=ll) (la:=la) (lc:=lc) (L:=L) (M:=M) (K:=K) (Wn:=Wn) (a0:=a0) (b0:=b0) (sd:=sd) (k0:=k0) (y:=y) (id:=id) (SB:=SB) (IB:=IB) (v33:=v33) (v34:=v34) (v35:=v35) (v36:=v36) (v37:=v37) (v38:=v38) (v39:=v39) s4 jx hk4 yc (by omega) hn hl (ht.stays st4) (yb.stays st4) p1 p2 q1 q2 (st4.own kf) (st4.own ww) (fun v hv=>st4.vr (hj v hv)) (by omega) (ho _ kr) (ho _ hm2) (fun Tp d=>Afs kr hm2) (fun I' w' sx stx tpx=>hP I' w' sx (st4.trans stx) (tpx.trans tp4));simp only[F1,Tryz.f4,Option.getD_some,Array.replicate_succ,Array.replicate_zero,List.push_toArray,List.append_toArray,List.nil_append,List.cons_append] at hT;exact hT
 ·have hgd:K5 L M K Wn=false:=by rcases hbad with z|z;exact absurd (show 1<=(p:Int)/\(p:Int)<=16 by omega) z;exact z
  have st3:=st2.trans S3;have tp3:=t3.trans tp2;have jy:prog.globals.size<=I3.hs:=Nat.le_trans hgl st3.hs;have fS3:=fS.stays st3;obtain⟨hk3,jt⟩:=Cz s0.hs hk dw st3;rw[Frame.finish_at];clear hg;have hg:I3.tag 0≠.gone:=s3.ng
  (try walk_nrm);(iterate 5 (refine Ai fun v W H=>?_;go_simp;refine H _ ?_;clear H W v;try walk_nrm));refine len (Am (Au ?_));simp only[ix,Nat.reduceAdd]
  refine E3 rfl s3.ns (fun IV wV hrl au=>?_);have bf:wV.cell? ⟨SB,0,none⟩=some (.int .i64 L):=by rw[World.cell?,(s3.rel hrl).2.1];simp[fS3.heap]
  have bc:wV.cell? ⟨SB,1,none⟩=some (.int .i64 M):=by rw[World.cell?,(s3.rel hrl).2.1];simp[fS3.heap]
  have ba:wV.cell? ⟨SB,2,none⟩=some (.int .i64 K):=by rw[World.cell?,(s3.rel hrl).2.1];simp[fS3.heap]
  have az:wV.cell? ⟨SB,3,none⟩=some (.int .i64 Wn):=by rw[World.cell?,(s3.rel hrl).2.1];simp[fS3.heap]
  have ay:wV.cell? ⟨SB,4,none⟩=some (Af sd):=by rw[World.cell?,(s3.rel hrl).2.1];simp[fS3.heap]
  refine goes_oper_k rfl rfl (by k_ne) (fun W hW=>?_);go_simp;refine hW _ _ ⟨⟨rfl,fun e he=>?_⟩,?_⟩
  ·have hm:=mem_listed he;simp[go_sem,bf,bc,ba,az,ay] at hm;rcases hm with rfl|rfl|rfl|rfl|rfl<;>exact .inl ⟨_,rfl,rfl,.inl (by rw[hrl.S s3.ng];exact⟨fS3.lt,fS3.bk⟩)⟩
  clear hW bf bc ba az ay;clear W;clear hrl au;clear IV wV;(try walk_nrm);(iterate 2 (refine Ai fun v W H=>?_;go_simp;refine H _ ?_;clear H W v;try walk_nrm));refine Bz (fun _=>Aj (first:=#[]) (caps:=#[]) (vs:=#[.agg #[.int .i64 L,.int .i64 M,.int .i64 K,.int .i64 Wn,Af sd],.slice x rows.length cx,.int .i64 q]) rfl rfl (by k_ne) rfl rfl (by simp[Act.eval,Ca]) func6 (by kernel_rfl) rfl) ?_;refine Mv (n:=rows.length) (rows:=rows) s3 (by omega) ((ht.stays st3).mem s3.hs rfl (fun r hr=>by have:=hl r hr;omega) hk3 jt) (fun r hr=>by have:=hl r hr;omega) jy (by omega) (fun h W0 hG e1 e2 e3 e4 e5=>?_) (fun _ I4 w4 s4 S4 cn4 t4=>?_)
  ·have q:K5 L M K Wn=true:=Rt.2 (by have:=hG.w1;have:=hG.w63;have:=hG.wl;have:=hG.lm;have:=hG.m;have:=hG.k;omega);rw[hgd] at q;cases q
  have st4:=st3.trans S4;have tp4:=t4.trans tp3;have jx:prog.globals.size<=I4.hs:=Nat.le_trans hgl st4.hs;have fS4:=fS.stays st4;obtain⟨hk4,yc⟩:=Cz s0.hs hk dw st4;rw[Frame.finish_at];clear hg;have hg:I4.tag 0≠.gone:=s4.ng
  (try walk_nrm);(iterate 5 (refine Ai fun v W H=>?_;go_simp;refine H _ ?_;clear H W v;try walk_nrm));refine len ?_
  have st4':=st4;have hT:=Wt (top:=top) (Post:=Post) (v:=v) (e:=2) (pa:=none) (qa:=none) (k:=0) (pk:=0) (qk:=0) (x:=x) (cx:=cx) (p:=p) (q:=q) (ll:=ll) (la:=la) (lc:=lc) (L:=L) (M:=M) (K:=K) (Wn:=Wn) (a0:=a0) (b0:=b0) (sd:=sd) (k0:=k0) (y:=y) (id:=id) (SB:=SB) (IB:=IB) (v33:=v33) (v34:=v34) (v35:=v35) (v36:=v36) (v37:=v37) (v38:=v38) (v39:=v39) s4 jx hk4 yc (by omega) hn hl (ht.stays st4) (yb.stays st4) p1 p2 q1 q2 (st4.own kf) (st4.own ww) (fun v hv=>st4.vr (hj v hv)) (by omega) K3 K3 (fun _ _ i hi=>by omega) (fun I' w' sx stx tpx=>hP I' w' sx (st4.trans stx) (tpx.trans tp4));simp only[F1,Tryz.f4,Option.getD_some,Array.replicate_succ,Array.replicate_zero,List.push_toArray,List.append_toArray,List.nil_append,List.cons_append] at hT;exact hT
theorem Akj {L M K Wn a0 b0:Int} {sd:BitVec 32} {ls:Dg} (s0:B3 I w) (hgl:prog.globals.size<=I.hs) (hk:C2 w) (dw:I.bk 0=.priv 0) (ak:I.cnt+130<=top) (hu:F2 I w la lc ls) (hid:id.length=32)
  (hP:∀I' w',B3 I' w'->B4 I w I' w'->w'.tape=w.tape->Post (.bool true) w') :
  LT top Post 0 I w (G ((base 4).at ⟨#[Ca L M K Wn sd,.slice la ls.length lc,.agg (id.map U8).toArray,.int .i64 a0,.int .i64 b0]++Array.replicate 117 undef,[]⟩ [.code (Tryz.f4.body.getD .skip)]) []):=by
 have hg:I.tag 0≠.gone:=s0.ng;have yb:=hu.held;unfold Ca;simp only[Tryz.f4,Option.getD_some]
 (try walk_nrm);refine Am (Au ?_);simp only[ix,Nat.reduceAdd]
 refine solo_goes s0 rfl fun wV eV eT=>?_;refine goes_oper_k rfl rfl (by k_ne) (fun W hW=>?_);go_simp;refine hW _ _ ⟨Dc (w:=wV) rfl rfl rfl rfl (Ax (by simp[go_sem])),fun I1 w1 h1 t1 s1 l1 b1=>?_⟩;replace h1:w1.heap=(w.heap).push (Obj.cells #[Value.int .i64 L,Value.int .i64 M,Value.int .i64 K,Value.int .i64 Wn,Af sd] 24):=by rw[h1];show wV.heap.push _=_;rw[eV];try rfl
 replace t1:w1.tape=w.tape:=t1.trans eT;replace b1:I1.bk (w.heap.size)=.priv 0:=b1 _ (by rw[s0.hs];simp[Nat.add_assoc]) (by show _ < (wV.heap.push _).size;rw[eV];simp[Nat.add_assoc]);clear hW;clear W eV eT;clear wV;have hg:I1.tag 0≠.gone:=s1.ng
 try walk_nrm
 refine solo_goes s1 rfl fun wV eV eT=>?_;refine goes_oper_k rfl rfl (by k_ne) (fun W hW=>?_);go_simp;refine hW _ _ ⟨Dc (w:=wV) rfl rfl rfl rfl (Ax (by simp[go_sem])),fun I2 w2 h2 t2 s2 l2 b2=>?_⟩;replace h2:w2.heap=(w.heap.push (Obj.cells #[Value.int .i64 L,Value.int .i64 M,Value.int .i64 K,Value.int .i64 Wn,Af sd] 24)).push (Obj.cells (id.map U8).toArray 40):=by rw[h2];show wV.heap.push _=_;rw[eV,h1];try rfl
 replace t2:w2.tape=w1.tape:=t2.trans eT;replace b2:I2.bk (w.heap.size+1)=.priv 0:=b2 _ (by rw[s1.hs,h1];simp[Nat.add_assoc]) (by show _ < (wV.heap.push _).size;rw[eV,h1];simp[Nat.add_assoc]);clear hW;clear W eV eT;clear wV;rw[t1] at t2;have m2:=l2;replace l2:=l1.trans l2;have hg:I2.tag 0≠.gone:=s2.ng
 (try walk_nrm);refine Ai fun v W H=>?_;go_simp;refine H _ ?_;clear H W v;(try walk_nrm);refine len (Am (Au ?_));simp only[ix,Nat.reduceAdd];refine Ai fun v W H=>?_;go_simp;refine H _ ?_;clear H W v;try walk_nrm
 have hN:=s0.hs;have fS2:D5 0 I2 w2 w.heap.size (.priv 0) (Obj.cells #[Value.int .i64 L,Value.int .i64 M,Value.int .i64 K,Value.int .i64 Wn,Af sd] 24):=⟨by rw[s2.hs,h2];simp;omega,(m2.bk _ (by rw[s1.hs,h1];simp)).trans b1,by rw[h2,Array.getElem?_push,if_neg (by simp),Array.getElem?_push];simp⟩;have fI2:D5 0 I2 w2 (w.heap.size+1) (.priv 0) (Obj.cells (id.map U8).toArray 40):=⟨by rw[s2.hs,h2];simp,b2,by rw[h2,Array.getElem?_push];simp⟩;have st2:B4 I w I2 w2:=.of l2 fun b hb=>by rw[h2,Array.getElem?_push,if_neg (by simp;omega),Array.getElem?_push,if_neg (by omega)]
 have tp2:=t2;have po:prog.globals.size<=I2.hs:=Nat.le_trans hgl st2.hs;have cn2:=l2.cnt;obtain⟨IB,ww⟩:∃IB,w.heap.size+1=IB:=⟨_,rfl⟩;have hge:I.hs<=IB:=by omega
 rw[ww] at fI2 ⊢;obtain⟨SB,kf⟩:∃SB,w.heap.size=SB:=⟨_,rfl⟩;have hne:SB≠IB:=by omega
 rw[kf] at fS2 ⊢;have sx:B4 I w (I2.hide IB) w2:=⟨st2.hs,fun b hb=>by rw[L1 (by omega)];exact st2.bk b hb,st2.heap⟩;have hu2:=hu.stays sx;clear h1 b1 h2 b2 hN ww kf sx;refine Bz (fun _=>Ea rfl rfl (by k_ne) rfl (vs:=#[.slice la ls.length lc]) (by simp[Act.eval,Ca]) func5 (by kernel_rfl) (by kernel_rfl)) ?_;refine Agc s2 po fI2.lt hu2 (fun I3 w3 x cx A3 hT3=>?_);have s3:=A3.solo;have st3:=st2.trans A3.stays;have tp3:=A3.tape.trans tp2;have jy:prog.globals.size<=I3.hs:=Nat.le_trans hgl st3.hs;have cn3:=A3.later.cnt;have hl:∀r∈Md ls,r.length<=100:=Aec ls;have hn:(Md ls).length<=12:=Abn ls;have fI3:=fI2.stays A3.stays;have fS3:=fS2.stays A3.stays;generalize Md ls=rows at *;rw[Frame.finish_at];clear hg;have hg:I3.tag 0≠.gone:=s3.ng
 (try walk_nrm);refine Ai fun v W H=>?_;go_simp;refine H _ ?_;clear H W v;(try walk_nrm);refine len (Am (Au ?_));simp only[ix,Nat.reduceAdd];refine Ai fun v W H=>?_;go_simp;refine H _ ?_;clear H W v;(try walk_nrm);refine Bz (fun _=>Ea rfl rfl (by k_ne) rfl (vs:=#[.int .i64 a0,.int .i64 1,.int .i64 16]) (by simp[Act.eval,Ca]) func12 (by kernel_rfl) (by kernel_rfl)) ?_
 refine Rp s3 jy (fun I4 w4 p A4 p1 p2=>?_);have s4:=A4.solo;have st4:=st3.trans A4.stays;have tp4:=A4.tape.trans tp3;have jx:prog.globals.size<=I4.hs:=Nat.le_trans hgl st4.hs;have cn4:=A4.later.cnt;rw[Frame.finish_at];clear hg;have hg:I4.tag 0≠.gone:=s4.ng
 (try walk_nrm);refine Ai fun v W H=>?_;go_simp;refine H _ ?_;clear H W v;(try walk_nrm);refine Bz (fun _=>Ea rfl rfl (by k_ne) rfl (vs:=#[.int .i64 b0,.int .i64 1,.int .i64 16]) (by simp[Act.eval,Ca]) func12 (by kernel_rfl) (by kernel_rfl)) ?_
 refine Rp s4 jx (fun I5 w5 q A5 q1 q2=>?_);have s5:=A5.solo;have st5:=st4.trans A5.stays;have tp5:=A5.tape.trans tp4;have hgl5:prog.globals.size<=I5.hs:=Nat.le_trans hgl st5.hs;have cn5:=A5.later.cnt;obtain⟨hk5,hkS5⟩:=Cz s0.hs hk dw st5;rw[Frame.finish_at];clear hg;have hg:I5.tag 0≠.gone:=s5.ng
 try walk_nrm
 have hT5:=(hT3.stays (A4.stays.hide (IB:=IB))).stays (A5.stays.hide (IB:=IB));have fI5:=(fI3.stays A4.stays).stays A5.stays;have fS5:=(fS3.stays A4.stays).stays A5.stays
 (iterate 2 (refine Ai fun v W H=>?_;go_simp;refine H _ ?_;clear H W v;try walk_nrm));refine len (Am ?_);refine Am (Au ?_);simp only[ix,Nat.reduceAdd];(iterate 2 (refine Ai fun v W H=>?_;go_simp;refine H _ ?_;clear H W v;try walk_nrm))
 by_cases h0:0 < rows.length
 ·have n1:decide (0 < (rows.length:Int))=true:=by simpa using h0
  refine Ai fun v W H=>?_;go_simp;refine H _ ?_;clear H W v;(try walk_nrm);refine len ?_
  try simp only[gt_iff_lt]
  try simp only[n1]
  refine Hd (Au ?_);simp only[ix,Nat.reduceAdd];(iterate 2 (refine Ai fun v W H=>?_;go_simp;refine H _ ?_;clear H W v;try walk_nrm));refine Ly (id:=id) (B:=IB) (off:=0) s5 ⟨fI5.lt,fI5.bk⟩ hid (O3 fI5) rfl rfl (by k_ne) rfl (by simp[Act.eval]) ?_
  (try walk_nrm);refine Bz (fun _=>Ea rfl rfl (by k_ne) rfl (vs:=#[.slice x rows.length cx,.int .i64 p,.agg (id.map U8).toArray]) (by simp[Act.eval,Ca]) func13 (by kernel_rfl) (by kernel_rfl)) ?_
  refine Ad2 s5 hgl5 hT5.shown h0 (by omega) (fun r hr=>by have:=hl r hr;omega) p1 p2 hid (fun I6 w6 k y A6 hkl=>?_);have s6:=A6.solo;have st6:=st5.trans A6.stays;have tp6:=A6.tape.trans tp5;have hgl6:prog.globals.size<=I6.hs:=Nat.le_trans hgl st6.hs;have cn6:=A6.later.cnt;rw[Frame.finish_at];clear hg;have hg:I6.tag 0≠.gone:=s6.ng
  (try walk_nrm);(iterate 3 (refine Ai fun v W H=>?_;go_simp;refine H _ ?_;clear H W v;try walk_nrm))
  have fI6:=fI5.stays A6.stays;have fS6:=fS5.stays A6.stays;have hT6:=hT5.stays (A6.stays.hide (IB:=IB));refine Yv (id:=id) (id':=k) s6 fI6 hid hkl rfl rfl (by k_ne) rfl (by simp[Act.eval]) (by simp[Act.eval]) fun I7 w7 s7 l7 h7 t7 fI7=>?_;clear hg;have hg:I7.tag 0≠.gone:=s7.ng
  try walk_nrm
  have st7:B4 I w I7 w7:=⟨Nat.le_trans st6.hs l7.hs,fun b hb=>(l7.bk b (Nat.lt_of_lt_of_le hb st6.hs)).trans (st6.bk b hb),fun b hb hp=>(h7 b (Nat.lt_of_lt_of_le hb st6.hs) (by omega)).trans (st6.heap b hb hp)⟩;have tp7:=t7.trans tp6;have hgl7:prog.globals.size<=I7.hs:=Nat.le_trans hgl st7.hs;have cn7:=l7.cnt;obtain⟨td,hkS7⟩:=Cz s0.hs hk dw st7;have fS7:D5 0 I7 w7 SB (.priv 0) (Obj.cells #[Value.int .i64 L,Value.int .i64 M,Value.int .i64 K,Value.int .i64 Wn,Af sd] 24):=⟨Nat.lt_of_lt_of_le fS6.lt l7.hs,(l7.bk _ fS6.lt).trans fS6.bk,(h7 _ fS6.lt hne).trans fS6.heap⟩;have hT7:Er (I7.hide IB) w7 x cx rows:=hT6.stays ⟨l7.hs,fun b hb=>by
   by_cases q:b=IB
   ·rw[q,Rs,Rs]
   ·rw[L1 q,L1 q];exact l7.bk b hb,fun b hb hp=>h7 b hb (Nu hp).1⟩
  have hTx:=hT7.shown.held;refine len ?_;have hT:=Wu (top:=top) (Post:=Post) (x:=x) (cx:=cx) (p:=p) (q:=q) (ll:=ls.length) (la:=la) (lc:=lc) (L:=L) (M:=M) (K:=K) (Wn:=Wn) (a0:=a0) (b0:=b0) (sd:=sd) (k0:=id) (y:=true) (id:=k) (SB:=SB) (IB:=IB) (v33:=.tuple #[.agg (k.map U8).toArray,.bool y]) (v34:=.slice x rows.length cx) (v35:=.int .i64 p) (v36:=.agg (id.map U8).toArray) (v37:=.tuple #[.agg (k.map U8).toArray,.bool y]) (v38:=.agg (k.map U8).toArray) (v39:=.bool y) s7 hgl7 td hkS7 (by omega) hn hl hT7.shown (yb.stays st7) p1 p2 q1 q2 (fun v hv=>by
   simp only[List.mem_cons,List.not_mem_nil,or_false] at hv;rcases hv with rfl|rfl|rfl|rfl|rfl|rfl|rfl<;>first|exact hTx.vr|exact .int _ _|exact .bool _|exact .agg rfl (Pk _).at_|exact .tuple rfl (Be (.agg rfl (Pk _).at_) (Be (.bool _) F7)).at_) hkl fS7 fI7 (fun I' w' sx stx tpx=>hP I' w' sx (st7.trans stx) (tpx.trans tp7))
  simp only[Abr,Tryz.f4,Option.getD_some,Array.replicate_succ,Array.replicate_zero,List.push_toArray,List.append_toArray,List.nil_append,List.cons_append] at hT;exact hT
 ·have n1:decide (0 < (rows.length:Int))=false:=by simpa using h0
  refine Ai fun v W H=>?_;go_simp;refine H _ ?_;clear H W v;(try walk_nrm);refine len ?_
  try simp only[gt_iff_lt]
  try simp only[n1]
  refine Gl (Gz ?_);have hT:=Wu (top:=top) (Post:=Post) (x:=x) (cx:=cx) (p:=p) (q:=q) (ll:=ls.length) (la:=la) (lc:=lc) (L:=L) (M:=M) (K:=K) (Wn:=Wn) (a0:=a0) (b0:=b0) (sd:=sd) (k0:=id) (y:=false) (id:=id) (SB:=SB) (IB:=IB) (v33:=undef) (v34:=undef) (v35:=undef) (v36:=undef) (v37:=undef) (v38:=undef) (v39:=undef) s5 hgl5 hk5 hkS5 (by omega) hn hl hT5.shown (yb.stays st5) p1 p2 q1 q2 (fun v hv=>by
   simp only[List.mem_cons,List.not_mem_nil,or_false,or_self] at hv;subst hv;exact Eh) hid fS5 fI5 (fun I' w' sx stx tpx=>hP I' w' sx (st5.trans stx) (tpx.trans tp5))
  simp only[Abr,Tryz.f4,Option.getD_some,Array.replicate_succ,Array.replicate_zero,List.push_toArray,List.append_toArray,List.nil_append,List.cons_append] at hT;exact hT
end
end Go.Proofs.YtbicafgmfgdckaaGreatDoor
