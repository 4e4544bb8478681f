/- crew.Find, main's part. A goroutine by itself, nobody else turning the heap: LONE RUNS HOLD THERE, under the same numbers of blocks. From any code on. For any program. The crew's pact: main by itself, lone calls and the rest of a function. For any program. -/
import Derived.Test.YtbicafgmfgdckaaDoorMgBf
import Derived.Test.YtbicafgmfgdckaaDoorMgBi
import Derived.Test.YtbicafgmfgdckaaDoorMgAg
import Derived.Test.YtbicafgmfgdckaaDoorMgAn
import Derived.Test.YtbicafgmfgdckaaDoorMgAy
namespace Go.Proofs.YtbicafgmfgdckaaDoor
open Go Go.RowKit Go.Conc Go.Conc.Lib Go.ConcR.Gen
open Go.ConcR (KK wgBlock WgAt stA smA rd wr mk DC0)
open Go.ConcN (sumTo upd upd_same upd_ne RelBy PermW WgLive)
section
variable {top:Nat} {γ γ' γ2:Gho} {p:Ph} {w w' w2:World} {i j k n:Nat} {Post:Value->World->Prop} {es:Array Event} {g g':Goroutine}
theorem found_at {rows:List (List (BitVec 8))} {id:List (BitVec 8)} {m:Nat} {v:Int} (hn:n=rows.length) (h:BestV (fun x=>Hit rows id x/\x < m) v) (h2:m=n\/∃x,Hit rows id x/\x < m):FoundAt rows id v:=by
 rcases h with⟨rfl,q⟩|⟨y,rfl,⟨q1,q2⟩,q3⟩
 ·refine .inl ⟨rfl,fun x hx=>?_⟩
  rcases h2 with rfl|⟨z,r1,r2⟩
  ·have hlt:x < rows.length:=by
    obtain⟨row,hr,_⟩:=hx
    exact(List.getElem?_eq_some_iff.1 hr).1
   exact q x ⟨hx,by omega⟩
  ·exact q z ⟨r1,r2⟩
 ·refine .inr ⟨y,rfl,q1,fun x hx hh=>?_⟩
  have:=q3 x ⟨hh,by omega⟩
  omega
set_option maxRecDepth 100000 in
set_option maxHeartbeats 8000000 in
theorem lives_find {m:Int} {la:Option Addr} {lc:Nat} {c:Frame} {cs:List Frame} {rows:List (List (BitVec 8))} {id:List (BitVec 8)} (s0:Solo γ w) (hn:n<=1000) (hid:id.length=32) (hmem:RowsMem (snapW γ γ.hs w) la n rows) (hgl:Tryd.prog.globals.size<=γ.hs) (hcnt:γ.cnt+16<=top)
  (hGood:∀W0:Nat,m=W0->1<=W0->W0<=16->∀γ' w' (v:Int),Solo γ' w'->γ.hs<=γ'.hs->γ'.cnt=γ.cnt+W0->(∀b,b < γ.hs->γ'.bk b=γ.bk b)->(∀b,b < γ.hs->γ.bk b=.priv 0->w'.heap[b]?=w.heap[b]?)->w'.tape=w.tape ->
   FoundAt rows id v->LV Tryd.prog wgLink.tWg top Post 0 γ' w' (G (c.finish (.tuple #[.int .i64 v,.int .i64 0])) cs))
  (hBad:¬(1<=m/\m<=16)->∀γ' w',Solo γ' w'->Later2 γ γ'->(∀b,b < γ.hs->w'.heap[b]?=w.heap[b]?)->w'.tape=w.tape->LV Tryd.prog wgLink.tWg top Post 0 γ' w' (G (c.finish (.tuple #[.int .i64 (-1),.int .i64 2])) cs)) :
  LV Tryd.prog wgLink.tWg top Post 0 γ w (G ((base 14).at ⟨#[.slice la n lc,.agg (id.map U8).toArray,.int .i64 m]++Array.replicate 20 undef,[]⟩ [.code (Tryd.f14.body.getD .skip)]) (c::cs)):=by
 have hg:γ.tag 0≠.gone:=s0.ng
 simp only[Tryd.f14,Option.getD_some]
 walk_nrm;refine lsq hg ?_;refine lrg hg ?_;simp only[ix,Nat.reduceAdd]
 refine solo_goes s0 rfl fun wV eV eT=>?_
 refine goes_oper_k rfl rfl (by k_ne) (fun W hW=>?_)
 go_simp
 refine hW _ _ ⟨own_push (w:=wV) rfl rfl rfl rfl (no_listed (by simp[go_sem])),fun γ1 w1 h1 t1 s1 l1 b1=>?_⟩
 replace h1:w1.heap=(w.heap).push (Obj.cells #[Value.slice la n lc] 22):=by rw[h1];show wV.heap.push _=_;rw[eV];try rfl
 replace t1:w1.tape=w.tape:=t1.trans eT
 replace b1:γ1.bk (w.heap.size)=.priv 0:=b1 _ (by rw[s0.hs];simp[Nat.add_assoc]) (by show _ < (wV.heap.push _).size;rw[eV];simp[Nat.add_assoc])
 clear hW;clear W eV eT;clear wV
 have hg:γ1.tag 0≠.gone:=s1.ng
 try walk_nrm
 refine solo_goes s1 rfl fun wV eV eT=>?_
 refine goes_oper_k rfl rfl (by k_ne) (fun W hW=>?_)
 go_simp
 refine hW _ _ ⟨own_push (w:=wV) rfl rfl rfl rfl (no_listed (by simp[go_sem])),fun γ2 w2 h2 t2 s2 l2 b2=>?_⟩
 replace h2:w2.heap=(w.heap.push (Obj.cells #[Value.slice la n lc] 22)).push (Obj.cells (id.map U8).toArray 39):=by rw[h2];show wV.heap.push _=_;rw[eV,h1];try rfl
 replace t2:w2.tape=w1.tape:=t2.trans eT
 replace b2:γ2.bk (w.heap.size+1)=.priv 0:=b2 _ (by rw[s1.hs,h1];simp[Nat.add_assoc]) (by show _ < (wV.heap.push _).size;rw[eV,h1];simp[Nat.add_assoc])
 clear hW;clear W eV eT;clear wV
 rw[t1] at t2
 have m2:=l2
 replace l2:=l1.trans l2
 have hg:γ2.tag 0≠.gone:=s2.ng
 (try walk_nrm);(iterate 2 (refine lop hg rfl rfl (by k_ne) fun v W H=>?_;go_simp;refine H _ _ rfl (by simp[go_sem]) ?_;clear H W v;try walk_nrm));refine len hg ?_;refine lsq hg ?_;refine lsq hg ?_;refine lrg hg ?_;simp only[ix,Nat.reduceAdd];refine lop hg rfl rfl (by k_ne) fun v W H=>?_;go_simp;refine H _ _ rfl (by simp[go_sem]) ?_;clear H W v;try walk_nrm
 refine lives_ctl rfl hg (fun _=>stepG_callv (first:=#[]) (caps:=#[]) (vs:=#[.int .i64 m]) rfl rfl (by k_ne) rfl rfl (by simp[Act.eval]) Tryd.func18 (by kernel_rfl) rfl) ?_
 refine lives_right hg ?_
 rw[Frame.finish_at];walk_nrm;refine lop hg rfl rfl (by k_ne) fun v W H=>?_;go_simp;refine H _ _ rfl (by simp[go_sem]) ?_;clear H W v;(try walk_nrm);refine len hg ?_
 by_cases hm:1<=m/\m<=16
 ·have hmb:(!decide (1<=m)||!decide (m<=16))=false:=by simp[hm.1,hm.2]
  simp only[hmb]
  refine lcf hg rfl ?_;refine lsk hg ?_;refine lsq hg ?_;refine lrg hg ?_;simp only[ix,Nat.reduceAdd];refine lop hg rfl rfl (by k_ne) fun v W H=>?_;go_simp;refine H _ _ rfl (by simp[go_sem]) ?_;clear H W v;try walk_nrm
  refine solo_goes_mk (.inr rfl) s2 rfl fun wV eV eT=>?_
  refine goes_oper_k rfl rfl (by k_ne) (fun W hW=>?_)
  go_simp
  refine hW _ _ ⟨⟨⟨_,rfl⟩,rfl,.of rfl rfl,no_listed (by simp[go_sem])⟩,fun γ3 w3 h3 t3 s3 l3 b3=>?_⟩
  replace h3:w3.heap=((w.heap.push (Obj.cells #[Value.slice la n lc] 22)).push (Obj.cells (id.map U8).toArray 39)).push (Obj.cells #[.int .i32 0,.int .u32 0,.int .i64 (-1)] 58):=by rw[h3];show wV.heap.push _=_;rw[eV,h2];try rfl
  replace t3:w3.tape=w2.tape:=t3.trans eT
  replace b3:γ3.bk (w.heap.size+2)=.lock:=by rw[<- b3,s2.hs,h2];simp[Nat.add_assoc]
  clear hW;clear W eV eT;clear wV
  rw[t2] at t3
  have m3:=l3
  replace l3:=l2.trans l3
  have hg:γ3.tag 0≠.gone:=s3.ng
  try walk_nrm
  refine solo_goes s3 rfl fun wV eV eT=>?_
  refine goes_oper_k rfl rfl (by k_ne) (fun W hW=>?_)
  go_simp
  refine hW _ _ ⟨own_push (w:=wV) rfl rfl rfl rfl (no_listed (by simp[go_sem])),fun γ4 w4 h4 t4 s4 l4 b4=>?_⟩
  replace h4:w4.heap=(((w.heap.push (Obj.cells #[Value.slice la n lc] 22)).push (Obj.cells (id.map U8).toArray 39)).push (Obj.cells #[.int .i32 0,.int .u32 0,.int .i64 (-1)] 58)).push (Obj.cells #[Value.pointer none] 49):=by rw[h4];show wV.heap.push _=_;rw[eV,h3];try rfl
  replace t4:w4.tape=w3.tape:=t4.trans eT
  replace b4:γ4.bk (w.heap.size+3)=.priv 0:=b4 _ (by rw[s3.hs,h3];simp[Nat.add_assoc]) (by show _ < (wV.heap.push _).size;rw[eV,h3];simp[Nat.add_assoc])
  clear hW;clear W eV eT;clear wV
  rw[t3] at t4
  have m4:=l4
  replace l4:=l3.trans l4
  have hg:γ4.tag 0≠.gone:=s4.ng
  try walk_nrm
  have H4:w4.heap[w.heap.size+1+1+1]?=some (.cells #[Value.pointer none] 49 (0,0)):=by rw[h4,Array.getElem?_push];simp
  have hS4:γ4.S 0 (w.heap.size+1+1+1):=⟨by rw[s4.hs,h4];simp,b4⟩
  refine solo_goes s4 rfl fun wV eV eT=>?_
  refine goes_oper_k rfl rfl (by k_ne) (fun W hW=>?_)
  have hcell:wV.cell? ⟨w.heap.size+1+1+1,0,none⟩=some (Value.pointer none):=by simp[World.cell?,eV,H4]
  have hfro:wV.frozen? ⟨w.heap.size+1+1+1,0,none⟩=false:=by simp[World.frozen?,eV,H4]
  go_simp
  refine hW _ _ ⟨own_set wV _ _ hS4 (fun e he=>by have hm:=mem_listed he;simp[go_sem,hcell,hfro] at hm;first|exact hm | (rw[events_store _ _ _ _ _ _ rfl,hcell] at hm;simp[hfro] at hm;exact hm)),fun γ5 w5 h5 t5 s5 l5 bX=>?_⟩
  replace h5:w5.heap=(((w.heap.push (Obj.cells #[Value.slice la n lc] 22)).push (Obj.cells (id.map U8).toArray 39)).push (Obj.cells #[.int .i32 0,.int .u32 0,.int .i64 (-1)] 58)).push (.cells #[Value.pointer (some ⟨w.heap.size+1+1,0,none⟩)] 49):=by
   have hq:=heap_set_last (w:=wV) (v:=Value.pointer (some ⟨w.heap.size+1+1,0,none⟩)) (A:=((w.heap.push (Obj.cells #[Value.slice la n lc] 22)).push (Obj.cells (id.map U8).toArray 39)).push (Obj.cells #[.int .i32 0,.int .u32 0,.int .i64 (-1)] 58)) (u:=Value.pointer none) (t:=49) (by rw[eV,h4])
   simp only[Array.size_push] at hq
   rw[h5];exact hq
  replace t5:w5.tape=w4.tape:=t5.trans eT
  clear hW bX;clear W hcell hfro eV eT;clear wV
  rw[t4] at t5
  have b5:γ5.bk (w.heap.size+3)=.priv 0:=(l5.bk _ hS4.1).trans b4
  have m5:=l5
  replace l5:=l4.trans l5
  have hg:γ5.tag 0≠.gone:=s5.ng
  (try walk_nrm);refine len hg ?_;refine lsq hg ?_;refine lrg hg ?_;simp only[ix,Nat.reduceAdd]
  have hs0:=s0.hs
  have H5:w5.heap[w.heap.size]?=some (.cells #[.slice la n lc] 22 (0,0)):=by
   rw[h5]
   simp only[Array.getElem?_push,Array.size_push]
   repeat (first|rw[if_neg (by omega)] | rw[if_pos (by omega)])
   try simp
  have H5i:w5.heap[w.heap.size+1]?=some (.cells (id.map U8).toArray 39 (0,0)):=by
   rw[h5]
   simp only[Array.getElem?_push,Array.size_push]
   repeat (first|rw[if_neg (by omega)] | rw[if_pos (by omega)])
   try simp
  have H5o:w5.heap[w.heap.size+2]?=some (.cells #[.int .i32 0,.int .u32 0,.int .i64 (-1)] 58 (0,0)):=by
   rw[h5]
   simp only[Array.getElem?_push,Array.size_push]
   repeat (first|rw[if_neg (by omega)] | rw[if_pos (by omega)])
   try simp
  have H5b:w5.heap[w.heap.size+3]?=some (.cells #[.pointer (some ⟨w.heap.size+2,0,none⟩)] 49 (0,0)):=by
   rw[h5]
   simp only[Array.getElem?_push,Array.size_push]
   repeat (first|rw[if_neg (by omega)] | rw[if_pos (by omega)])
   try simp
  have old5:∀b,b < w.heap.size->w5.heap[b]?=w.heap[b]?:=fun b hb=>by
   rw[h5]
   simp only[Array.getElem?_push,Array.size_push]
   repeat rw[if_neg (by omega)]
  have hs5:γ5.hs=w.heap.size+4:=by rw[s5.hs,h5];simp
  have d0:γ5.bk w.heap.size=.priv 0:=((m2.trans (m3.trans (m4.trans m5))).bk _ (by rw[s1.hs,h1];simp)).trans b1
  have d1:γ5.bk (w.heap.size+1)=.priv 0:=((m3.trans (m4.trans m5)).bk _ (by rw[s2.hs,h2];simp)).trans b2
  have d2:γ5.bk (w.heap.size+2)=.lock:=((m4.trans m5).bk _ (by rw[s3.hs,h3];simp)).trans b3
  have d3:γ5.bk (w.heap.size+3)=.priv 0:=b5
  have hS5:γ5.S 0 w.heap.size:=⟨by omega,d0⟩
  refine lives_read rfl s5.ns (fun γV wV hrl hIV=>?_)
  have hcell:wV.cell? ⟨w.heap.size,0,none⟩=some (.slice la n lc):=by rw[World.cell?,(s5.rel hrl).2.1];simp[H5]
  refine goes_oper_k rfl rfl (by k_ne) (fun W hW=>?_)
  go_simp
  refine hW _ _ ⟨⟨rfl,fun e he=>?_⟩,?_⟩
  ·have hm:=mem_listed he
   simp[go_sem,hcell] at hm
   subst hm
   exact .inl ⟨_,rfl,rfl,.inl (by rw[hrl.S s5.ng];exact hS5)⟩
  clear hW hcell;clear W;clear hrl hIV;clear γV wV;(try walk_nrm);(iterate 3 (refine lop hg rfl rfl (by k_ne) fun v W H=>?_;go_simp;refine H _ _ rfl (by simp[go_sem]) ?_;clear H W v;try walk_nrm))
  obtain⟨W0,hW0⟩:∃W0:Nat,m=W0:=⟨m.toNat,by omega⟩
  subst hW0
  have l5':Later2 γ γ5:=l5
  refine lives_ctl rfl hg (fun _=>stepG_callv (first:=#[]) (caps:=#[]) (vs:=#[.int .i64 n,.int .i64 W0,.func (.func 23) #[] #[.pointer (some ⟨w.heap.size,0,none⟩),.pointer (some ⟨w.heap.size+1,0,none⟩),.pointer (some ⟨w.heap.size+1+1+1,0,none⟩)]]) rfl rfl (by k_ne) rfl rfl (by simp[Act.eval]) Tryd.func19 (by kernel_rfl) rfl) ?_
  refine lives_each_seek (out:=w.heap.size+2) (oty:=58) (hit:=Hit rows id) s5 Tryd.func23 rfl (by kernel_rfl) hn (by omega) (by omega) (by rw[l5'.cnt];omega) ⟨by omega,d2⟩ H5o (fun p γ' w' i hbi hi0 hpn hpo hoty hkd hhit hfix hhs=>?_) (fun γ9 w9 s9 e1 e2 e3 e4 e5 ⟨mm,v,va,vb,e6,e7,e8⟩=>?_)
  ·have hne:∀b,γ5.bk b=.priv 0->b≠w.heap.size+2:=fun b q e=>by rw[e,d2] at q;cases q
   refine find_job (Hw:=snapW γ5 (w.heap.size+4) w5) (rows:=rows) (id:=id) (snap_snap s5.hs fun b hb hpv _=>hfix b hb hpv) ?_ hkd hbi hi0 (by omega)
   obtain⟨r1,⟨lb,lo,r2,r3⟩,r4⟩:=hmem.keeps (snap_keeps (γ':=γ5) (w':=w5) (out':=w.heap.size+4) l5'.bk hs0 (fun b hb=>old5 b (by omega)) (by omega))
   refine⟨hpn.trans r1,by omega,⟨lb,lo,lc,fun q=>?_,r3⟩,hid,fun j v hj=>?_,?_,r4,fun x row hx=>?_⟩
   ·refine snap_cell_of d0 (by omega) ?_
    rw[<- r2 q,hpn]
    simp[World.cell?,H5]
   ·refine snap_cell_of d1 (by omega) ?_
    have hj2:(id.map U8).toArray[j]?=some v:=by simpa using hj
    simp only[World.cell?,H5i]
    exact hj2
   ·refine snap_cell_of (b:=w.heap.size+1+1+1) d3 (by omega) ?_
    rw[hpo]
    simp[World.cell?,H5b]
   ·rw[hhit]
    exact⟨fun⟨row',q1,q2⟩=>by rw[hx] at q1;injection q1 with q1;rw[q1];exact q2,fun q=>⟨row,hx,q⟩⟩
  ·have H9:w9.heap[w.heap.size+1+1+1]?=some (.cells #[.pointer (some ⟨w.heap.size+2,0,none⟩)] 49 (0,0)):=(e4 (w.heap.size+3) (by omega) d3).trans H5b
   have hS9:γ9.S 0 (w.heap.size+1+1+1):=⟨by omega,(e3 (w.heap.size+3) (by omega)).trans d3⟩
   rw[Frame.finish_at];clear hg
   have hg:γ9.tag 0≠.gone:=s9.ng
   walk_nrm;refine len hg ?_;refine lsq hg ?_;refine lrg hg ?_;simp only[ix,Nat.reduceAdd]
   refine lives_read rfl s9.ns (fun γV wV hrl hIV=>?_)
   have hcell:wV.cell? ⟨w.heap.size+1+1+1,0,none⟩=some (.pointer (some ⟨w.heap.size+2,0,none⟩)):=by rw[World.cell?,(s9.rel hrl).2.1];simp[H9]
   refine goes_oper_k rfl rfl (by k_ne) (fun W hW=>?_)
   go_simp
   refine hW _ _ ⟨⟨rfl,fun e he=>?_⟩,?_⟩
   ·have hm:=mem_listed he
    simp[go_sem,hcell] at hm
    subst hm
    exact .inl ⟨_,rfl,rfl,.inl (by rw[hrl.S s9.ng];exact hS9)⟩
   clear hW hcell;clear W;clear hrl hIV;clear γV wV;(try walk_nrm);(iterate 2 (refine lop hg rfl rfl (by k_ne) fun v W H=>?_;go_simp;refine H _ _ rfl (by simp[go_sem]) ?_;clear H W v;try walk_nrm))
   refine solo_best (b:=w.heap.size+2) s9 rfl (by omega) ((e3 (w.heap.size+2) (by omega)).trans d2) (fun w2 e=>stepG_loadP rfl rfl (by k_ne) rfl (by simp[Act.eval]) (by kernel_rfl) (v:=v) (by simp[World.cell?,e,e6])) fun γ10 w10 s10 l10 h10 t10=>?_
   clear hg
   have hg:γ10.tag 0≠.gone:=s10.ng
   (try walk_nrm);(iterate 2 (refine lop hg rfl rfl (by k_ne) fun v W H=>?_;go_simp;refine H _ _ rfl (by simp[go_sem]) ?_;clear H W v;try walk_nrm));refine len hg ?_
   refine lives_ctl rfl hg (fun _=>stepG_ret') ?_
   refine lives_ctl rfl hg (fun w2=>stepG_leave (v:=.tuple #[.int .i64 v,.int .i64 0]) rfl rfl Tryd.func14 (by kernel_rfl) (by kernel_rfl)) ?_
   refine hGood W0 rfl (by omega) (by omega) γ10 w10 v s10 (by have:=l10.hs;omega) (by rw[l10.cnt,e2,l5'.cnt]) (fun b hb=>?_) (fun b hb hpv=>?_) (t10.trans (e5.trans t5)) (found_at hmem.n e7 e8)
   ·exact(l10.bk b (by have:=l5'.hs;omega)).trans ((e3 b (by have:=l5'.hs;omega)).trans (l5'.bk b hb))
   ·rw[h10]
    exact(e4 b (by have:=l5'.hs;omega) ((l5'.bk b hb).trans hpv)).trans (old5 b (by omega))
 ·have hmb:(!decide (1<=m)||!decide (m<=16))=true:=by
   by_cases h1:1<=m
   ·have h2:¬m<=16:=fun h2=>hm ⟨h1,h2⟩
    simp[h2]
   ·simp[h1]
  simp only[hmb]
  refine lct hg rfl ?_;refine lsq hg ?_;refine lrg hg ?_;simp only[ix,Nat.reduceAdd];(iterate 2 (refine lop hg rfl rfl (by k_ne) fun v W H=>?_;go_simp;refine H _ _ rfl (by simp[go_sem]) ?_;clear H W v;try walk_nrm));refine len hg ?_
  refine lives_ctl rfl hg (fun _=>stepG_ret') ?_
  refine lives_ctl rfl hg (fun _=>stepG_leave (v:=.tuple #[.int .i64 (-1),.int .i64 2]) rfl rfl Tryd.func14 (by kernel_rfl) (by kernel_rfl)) ?_
  exact hBad hm γ2 w2 s2 l2 (fun b hb=>by
   rw[h2]
   simp only[Array.getElem?_push,Array.size_push]
   have:=s0.hs
   repeat rw[if_neg (by omega)]) t2
end
end Go.Proofs.YtbicafgmfgdckaaDoor
namespace Go.Proofs.YtbicafgmfgdckaaDoor
open Go Go.Conc

structure RelyA (w w2:World):Prop where
 heap:w2.heap=w.heap
 tape:w2.tape=w.tape
inductive WayA (P:Program) (F:Nat->Prop) (K:(Nat->Prop)->Goroutine->World->Prop):(Nat->Prop)->Goroutine->World->Prop
 | stop {S:Nat->Prop} {g:Goroutine} {w:World} (h:K S g w):WayA P F K S g w
 | step {S:Nat->Prop} {g:Goroutine} {w:World} (hg:g.status=.running) (h:∀w2,RelyA w w2->∃g1 w3 es,stepG P true g w2=.go g1 w3 es/\Own S F w2 w3 es)
   (k:∀w2 g1 w3 es,RelyA w w2->stepG P true g w2=.go g1 w3 es->WayA P F K (grow S w2 w3) g1 w3):WayA P F K S g w
abbrev StopR:=Frame->World->Prop
def LSt.outR (R:StopR) (x:LSt):Prop:=x.l=[]/\∃T d,R x.r.fr (re x.w T d)
def NxtR (P:Program) (R:StopR) (y x:LSt):Prop:=¬x.outR R/\∃T d,Moves P x.r x.l (re x.w T d) y.r y.l y.w
def ReachR (P:Program) (base:List Frame) (R:StopR) (x:LSt):Prop:=∀(T:Tape) (d:Nat),∃(T2:Tape) (d2:Nat),(∀i,T2 (d2+i)=T (d+i))/\∃n fr w1,runN P n (lone x.r.fr (x.l.map Rec.fr++base) (re x.w T2 d2))=.next (lone fr base w1)/\R fr w1
section
variable {P:Program} {R:StopR} {x y:LSt} {base:List Frame}
theorem zero_run {r:Rec} {l:List Rec} {w w1:World} {fr:Frame} (e:runN P 0 (lone r.fr (l.map Rec.fr++base) w)=.next (lone fr base w1)):l=[]/\r.fr=fr/\w=w1:=by
 simp only[runN,Stepped.next.injEq,lone,Machine.mk.injEq] at e
 have:=e.2.1
 simp only[Array.mk.injEq,List.cons.injEq,Goroutine.mk.injEq] at this
 refine⟨?_,this.1.1,e.1⟩
 have h2:=congrArg List.length this.1.2.1
 simp at h2
 exact h2
theorem zero_out {T:Tape} {d:Nat} {w1:World} {fr:Frame} (e:runN P 0 (lone x.r.fr (x.l.map Rec.fr++base) (re x.w T d))=.next (lone fr base w1)) (h:R fr w1):x.outR R:=by
 obtain⟨h1,h2,h3⟩:=zero_run e
 exact⟨h1,T,d,by rw[h2,h3];exact h⟩
theorem bad_runR:∀(l:List Rec) (r:Rec) (chain:List PanicEntry) (w:World),okHead P r.fn=true->(∀q∈l,okHead P q.fn=true)->∀n fr w1,runN P n (lone (r.bad chain) (l.map Rec.fr++[catcher]) w)=.next (lone fr [catcher] w1)->∃c,fr.mode=.panicking c:=by
 intro l
 induction l with
 | nil =>
  intro r chain w hr hl n fr w1 e
  have hs:step P (lone (r.bad chain) ([].map Rec.fr++[catcher]) w)=.next (lone (catcher.raise chain) [] w):=by
   obtain⟨fn,hf,_⟩:=rec_body (r:=r) hr
   refine lone_go (es:=#[]) ?_
   simp[stepG,Conc.G,Rec.bad,Rec.fr,unwind,Frame.catches,hf]
  have hs2:∃o w2,step P (lone (catcher.raise chain) [] w)=.ended o w2:=by
   exact⟨_,_,step_lone_ended rfl⟩
  obtain⟨o,w2,hs2⟩:=hs2
  cases n with
  | zero =>
   simp only[runN,Stepped.next.injEq,lone,Machine.mk.injEq] at e
   have:=e.2.1
   simp only[Array.mk.injEq,List.cons.injEq,Goroutine.mk.injEq] at this
   exact⟨chain,by rw[<- this.1.1];rfl⟩
  | succ n =>
   rw[runN_succ hs] at e
   have:=runN_ended hs2 e
   simp[lone] at this
 | cons q l ih =>
  intro r chain w hr hl n fr w1 e
  have hs:step P (lone (r.bad chain) ((q::l).map Rec.fr++[catcher]) w)=.next (lone (q.bad chain) (l.map Rec.fr++[catcher]) w):=by
   obtain⟨fn,hf,_⟩:=rec_body (r:=r) hr
   refine lone_go (es:=#[]) ?_
   rw[<- raise_bad q chain]
   simp[stepG,Conc.G,Rec.bad,Rec.fr,unwind,Frame.catches,hf]
  cases n with
  | zero =>
   simp only[runN,Stepped.next.injEq,lone,Machine.mk.injEq] at e
   have:=e.2.1
   simp only[Array.mk.injEq,List.cons.injEq,Goroutine.mk.injEq] at this
   exact⟨chain,by rw[<- this.1.1];rfl⟩
  | succ n =>
   rw[runN_succ hs] at e
   exact ih q chain w (hl q (by simp)) (fun y hy=>hl y (by simp[hy])) n fr w1 e
theorem not_doomedR (hm:∀fr w c,R fr w->fr.mode≠.panicking c) (hr:okHead P x.r.fn=true) (hl:∀q∈x.l,okHead P q.fn=true) (ho:¬x.outR R) {n:Nat} {T:Tape} {d:Nat} {fr:Frame} {w1:World}
  (e:runN P n (lone x.r.fr (x.l.map Rec.fr++[catcher]) (re x.w T d))=.next (lone fr [catcher] w1)) (hR:R fr w1):¬Doomed P x.r x.l (re x.w T d):=by
 intro hd
 cases n with
 | zero=>exact ho (zero_out e hR)
 | succ n =>
  rcases hd [catcher] with⟨v,w2,es,h⟩|⟨o,w2,es,h⟩
  ·rw[runN_succ (lone_go h),raise_bad] at e
   obtain⟨c,hc⟩:=bad_runR x.l x.r _ w2 hr hl n fr w1 e
   exact hm _ _ c hR hc
  ·have hs:step P (lone x.r.fr (x.l.map Rec.fr++[catcher]) (re x.w T d))=.ended o w2:=step_lone_ended (by
    show (stepG P true (Conc.G x.r.fr (x.l.map Rec.fr++[catcher])) _).bare=_
    rw[h];rfl)
   simp[runN,hs] at e
theorem reach_moveR (hx:ReachR P base R x) (hout:¬x.outR R) {T0:Tape} {d0:Nat} (h:Moves P x.r x.l (re x.w T0 d0) y.r y.l y.w):ReachR P base R y:=by
 intro T d
 obtain⟨T2,d2,hT,n,fr,w1,e,hR⟩:=hx (fun p q=>if p < y.w.drawn - d0 then T0 (d0+p) q else T (d+(p - (y.w.drawn - d0))) q) 0
 have hle:d0<=y.w.drawn:=h.1
 have hs:Same2 (re x.w T0 d0) y.w T2 d2:=fun i hi=>by
  have hi':d0+i < y.w.drawn:=hi
  rw[hT i]
  funext q
  show (if 0+i < y.w.drawn - d0 then T0 (d0+(0+i)) q else _)=T0 (d0+i) q
  rw[if_pos (by omega),Nat.zero_add]
 have hst:=moves_step h hs base
 cases n with
 | zero=>exact absurd (zero_out e hR) hout
 | succ n =>
  rw[runN_succ (show step P (lone x.r.fr (x.l.map Rec.fr++base) (re x.w T2 d2))=_ from hst)] at e
  refine⟨T2,d2+(y.w.drawn - d0),fun i=>?_,n,fr,w1,e,hR⟩
  rw[Nat.add_assoc,hT]
  funext q
  show (if 0+(y.w.drawn - d0+i) < y.w.drawn - d0 then _ else T (d+(0+(y.w.drawn - d0+i) - (y.w.drawn - d0))) q)=T (d+i) q
  rw[if_neg (by omega)]
  congr 2
  omega
theorem acc_ofR (hx:∀(T:Tape) (d:Nat),∃n fr w1,runN P n (lone x.r.fr (x.l.map Rec.fr++base) (re x.w T d))=.next (lone fr base w1)/\R fr w1):Acc (NxtR P R) x:=by
 refine Classical.byContradiction fun hn=>?_
 obtain⟨f,h0,hf⟩:=chain_of hn
 have hT:∀k,∃p:Tape × Nat,¬(f k).outR R/\Moves P (f k).r (f k).l (re (f k).w p.1 p.2) (f (k+1)).r (f (k+1)).l (f (k+1)).w:=fun k=>by
  obtain⟨h1,T,d,h2⟩:=hf k
  exact⟨(T,d),h1,h2⟩
 let T:Nat->Tape:=fun k=>(hT k).choose.1
 let d:Nat->Nat:=fun k=>(hT k).choose.2
 have hm:∀k,¬(f k).outR R/\Moves P (f k).r (f k).l (re (f k).w (T k) (d k)) (f (k+1)).r (f (k+1)).l (f (k+1)).w:=fun k=>(hT k).choose_spec
 let c:Nat->Nat:=fun k=>Nat.rec 0 (fun k p=>p+((f (k+1)).w.drawn - d k)) k
 have hc1:∀k,c (k+1)=c k+((f (k+1)).w.drawn - d k):=fun k=>rfl
 have hc:∀k,c k<=c (k+1):=fun k=>by rw[hc1];omega
 have hst:∀k,step P (lone (f k).r.fr ((f k).l.map Rec.fr++base) (re (f k).w (glue T d c) (c k)))=.next (lone (f (k+1)).r.fr ((f (k+1)).l.map Rec.fr++base) (re (f (k+1)).w (glue T d c) (c (k+1)))):=fun k=>by
  refine moves_step (hm k).2 (fun i hi=>?_) base
  have hi':d k+i < (f (k+1)).w.drawn:=hi
  exact glue_at hc (by rw[hc1];omega)
 have hrun:∀k n,runN P (k+n) (lone (f 0).r.fr ((f 0).l.map Rec.fr++base) (re (f 0).w (glue T d c) (c 0)))=runN P n (lone (f k).r.fr ((f k).l.map Rec.fr++base) (re (f k).w (glue T d c) (c k))):=fun k=>by
  induction k with
  | zero=>intro n;rw[Nat.zero_add]
  | succ k ih =>
   intro n
   rw[Nat.add_assoc,Nat.add_comm 1 n,ih (n+1),runN_succ (hst k)]
 obtain⟨n,fr,w1,e,hR⟩:=hx (glue T d c) (c 0)
 rw[<- h0] at e
 have:=hrun n 0
 rw[Nat.add_zero,e] at this
 exact(hm n).1 (zero_out this.symm hR)
end
section
variable {P:Program} {G:Nat->Bool} {fs:List Nat} {ρ ρ0:Ren} {F S:Nat->Prop} {base:List Frame} {R:StopR}
def EndsA (P:Program) (G:Nat->Bool) (fs:List Nat) (F:Nat->Prop) (base:List Frame) (R:StopR) (ρ0:Ren) (S:Nat->Prop) (g:Goroutine) (W:World):Prop :=
 ∃(x:LSt) (ρ:Ren) (r':Rec),x.outR R/\RR P G fs [] ρ x.r r'/\g=Conc.G r'.fr base/\WR P.globals.size F ρ (re x.w W.tape W.drawn) W/\(∀a b,ρ a b->S b\/F b)/\ρ0.le ρ/\(∀a b,ρ a b->a=b)/\x.w.heap.size=W.heap.size
theorem wr_relyA {gs:Nat} {w W W2:World} (h:WR gs F ρ (re w W.tape W.drawn) W) (hr:RelyA W W2):WR gs F ρ (re w W2.tape W2.drawn) W2:=by
 refine⟨rfl,rfl,h.fn,h.inj,fun b hb=>by rw[hr.heap];exact h.low b hb,h.glob,h.gsize,h.plain,fun a b q=>?_⟩
 rw[hr.heap]
 exact h.block a b q
theorem wayA_sim (hfs:∀f,fs.contains f=true->okBody P G fs f=true) (hm:∀fr w c,R fr w->fr.mode≠.panicking c) {x:LSt} (hacc:Acc (NxtR P R) x) :
  ∀ {ρ:Ren} {r':Rec} {l':List Rec} {W:World} {S:Nat->Prop},RR P G fs [] ρ x.r r'->LR P G fs [] ρ x.l l'->WR P.globals.size F ρ (re x.w W.tape W.drawn) W->(∀g,G g=true->ρ g g)->(∀a b,ρ a b->S b\/F b)->ρ0.le ρ->(∀a b,ρ a b->a=b)->x.w.heap.size=W.heap.size ->
   ReachR P [catcher] R x->ReachR P [] R x ->
   WayA P F (EndsA P G fs F base R ρ0) S (Conc.G r'.fr (l'.map Rec.fr++base)) W:=by
 induction hacc with
 | intro x _ ih=>?_
 intro ρ r' l' W S h hl hw hG hS hle hid hsz hR1 hR2
 by_cases hout:x.outR R
 ·refine .stop ?_
  have e:l'=[]:=by
   have:=hout.1
   rw[this] at hl
   cases hl
   rfl
  subst e
  exact⟨x,ρ,r',hout,h,rfl,hw,hS,hle,hid,hsz⟩
 have hne:x.r.ret=true->x.l≠[]:=fun e1 e2=>by
  obtain⟨T2,d2,_,n,fr,w1,e,hR⟩:=hR2 (fun _ _=>0) 0
  cases n with
  | zero=>exact hout (zero_out e hR)
  | succ n =>
   rw[e2] at e
   obtain⟨o,w2,hs⟩:=out_stops h.body e1 (re x.w T2 d2)
   have:runN P (n+1) (lone x.r.fr (List.map Rec.fr []++[]) (re x.w T2 d2))=.ended o w2:=by
    simp only[List.map_nil,List.append_nil,runN,hs]
   rw[this] at e
   cases e
 have h':RR P G fs (botK [] x.l) ρ x.r r':=by rw[botK_nil];exact h
 have both:∀W2,RelyA W W2->Both P G fs [] F ρ x.r r' x.l l' (re x.w W2.tape W2.drawn) W2:=by
  intro W2 hr
  have hw2:=wr_relyA hw hr
  rcases sim_step hfs h' hl hw2 hG hne (.inr (botK_nil _)) with hb|hd
  ·exact hb
  ·exfalso
   obtain⟨T2,d2,hT,n,fr,w1,e,hR⟩:=hR1 W2.tape W2.drawn
   have hnd:=not_doomedR hm h.body (lr_body hl) hout e hR
   have hw3:WR P.globals.size F ρ (re x.w T2 d2) (re W2 T2 d2):=hw2.re T2 d2
   rcases sim_step hfs h' hl hw3 hG hne (.inr (botK_nil _)) with hb|hd3
   ·obtain⟨r1,l1,w1,_,_,_,_,_,⟨_,_,e0,hmv⟩,_⟩:=hb
    have hst:=hmv W2.tape W2.drawn (fun i _=>(hT i).symm) true [catcher]
    rcases hd [catcher] with⟨v,w4,es,hx⟩|⟨o,w4,es,hx⟩
    ·have e1:=hst.symm.trans hx
     simp only[GStep.go.injEq,Conc.G,Goroutine.mk.injEq] at e1
     have e2:=congrArg Frame.mode e1.1.1
     rw[raise_bad] at e2
     simp only[Rec.bad,Rec.fr] at e2
     split at e2<;>cases e2
    ·have e1:=hst.symm.trans hx
     cases e1
   ·exact hnd hd3
 refine .step rfl (fun W2 hr=>?_) fun W2 g1 W3 es hr hst=>?_
 ·obtain⟨r1,l1,w1,r1',l1',w1',ρ1,es,b1,b2,b3,b4,b5,b6,b7⟩:=both W2 hr
  exact⟨_,w1',es,b2 true base,own_of_left hS b6 (fun a b q=>(b5.lt a b q).2) b7⟩
 ·obtain⟨r1,l1,w1,r1',l1',w1',ρ1,es',b1,b2,b3,b4,b5,b6,b7⟩:=both W2 hr
  have e1:=(b2 true base).symm.trans hst
  simp only[GStep.go.injEq] at e1
  obtain⟨rfl,rfl,rfl⟩:=e1
  have e2:re w1 w1'.tape w1'.drawn=w1:=by rw[<- b5.tape,<- b5.drawn];rfl
  obtain⟨hsz1,hid1⟩:=b6.same (by show x.w.heap.size=W2.heap.size;rw[hr.heap];exact hsz) hid
  refine ih ⟨r1,l1,w1⟩ ⟨hout,_,_,b1⟩ (by rw[botK_nil] at b3;exact b3) b4 (by rw[e2];exact b5) (fun g hg=>b6.le _ _ (hG g hg)) (left_grow hS b6 fun a b q=>(b5.lt a b q).2) (Ren.le_trans hle b6.le) hid1 hsz1 (reach_moveR hR1 hout b1) (reach_moveR hR2 hout b1)
def Leaves (P:Program) (R:Value->World->Prop) (fr:Frame) (w1:World):Prop:=fr.mode=.returning/\∃v,R v w1/\∃fn,P.funcs[fr.fn]?=some fn/\(results fn fr.tmps).run P w1=.ok v w1
def BackA (P:Program) (F:Nat->Prop) (c:Frame) (rest:List Frame) (R:Value->World->Prop) (ρ:Ren) (S:Nat->Prop) (g:Goroutine) (W:World):Prop :=
 ∃v v' ρ1 w1,g=Conc.G (c.finish v') rest/\VR ρ1 v v'/\(∃T d,R v (re w1 T d))/\WR P.globals.size F ρ1 (re w1 W.tape W.drawn) W/\(∀a b,ρ1 a b->S b\/F b)/\ρ.le ρ1/\∀a b,ρ1 a b->a=b
theorem wayA_run (hfs:∀f,fs.contains f=true->okBody P G fs f=true) {r r':Rec} {w0 W:World} {c:Frame} {rest:List Frame} {R:Value->World->Prop}
  (hr:RR P G fs [] ρ r r') (hw:WR P.globals.size F ρ (re w0 W.tape W.drawn) W) (hG:∀g,G g=true->ρ g g) (hS:∀a b,ρ a b->S b\/F b) (hid:∀a b,ρ a b->a=b) (hsz:w0.heap.size=W.heap.size)
  (hreach:∀(base:List Frame) (T:Tape) (d:Nat),∃n fr w1,runN P n (lone r.fr base (re w0 T d))=.next (lone fr base w1)/\Leaves P R fr w1) :
  WayA P F (BackA P F c rest R ρ) S (Conc.G r'.fr (c::rest)) W:=by
 let x:LSt:=⟨r,[],w0⟩
 have hacc:Acc (NxtR P (Leaves P R)) x:=acc_ofR (base:=[]) fun T d=>hreach [] T d
 have h1:=wayA_sim (base:=c::rest) (S:=S) (W:=W) (ρ0:=ρ) hfs (fun fr w1 ch h e=>by rw[h.1] at e;cases e) hacc hr .nil hw hG hS (Ren.le_refl _) hid hsz
  (fun T d=>⟨T,d,fun _=>rfl,hreach [catcher] T d⟩) (fun T d=>⟨T,d,fun _=>rfl,hreach [] T d⟩)
 have bind:∀ {K K2:(Nat->Prop)->Goroutine->World->Prop} {S:Nat->Prop} {g:Goroutine} {w:World},WayA P F K S g w->(∀S g w,K S g w->WayA P F K2 S g w)->WayA P F K2 S g w:=by
  intro K K2 S g w h hk
  induction h with
  | stop h=>exact hk _ _ _ h
  | step hg h _ ih=>exact .step hg h ih
 refine bind h1 fun S2 g W2 hE=>?_
 obtain⟨y,ρ1,r',⟨_,T,d,hret,v,hR,fn,hfn,hres⟩,hr,rfl,hw1,hS1,hle,hid1,hsz1⟩:=hE
 have hret2:y.r.ret=true:=by
  cases hq:y.r.ret with
  | true=>rfl
  | false=>rw[show y.r.fr.mode=.run by simp[Rec.fr,hq]] at hret;cases hret
 have hcomp:∀W3,RelyA W2 W3->∃ρ2 v' W4 es,stepG P true (Conc.G r'.fr (c::rest)) W3=.go (Conc.G (c.finish v') rest) W4 es/\VR ρ2 v v'/\WR P.globals.size F ρ2 (re y.w W3.tape W3.drawn) W4/\Left F ρ1 ρ2 (re y.w W3.tape W3.drawn) W3 (re y.w W3.tape W3.drawn) W4/\∀e∈es,EvR F ρ2 e:=fun W3 hr3=>by
  have hw3:=wr_relyA hw1 hr3
  have hsr:=sr_results (P:=P) (fn:=fn) hr.tmps
  have hrt:(results fn y.r.tmps).runT P (re y.w T d) #[]=(.ok v (re y.w T d),((results fn y.r.tmps).runT P (re y.w T d) #[]).2):=by
   refine Prod.ext ?_ rfl
   rw[Sem.runT_fst]
   exact hres
  have h2:=(run_SR_tape P hsr (re y.w T d) (re W3 T d) #[] (hw3.re T d) v _ _ hrt).2.2 W3.tape W3.drawn fun i hi=>by
   simp only[re_drawn] at hi
   omega
  simp only[re_re,re_drawn,Nat.sub_self,Nat.add_zero] at h2
  obtain⟨ρ2,v',W4,new,r1,r2,r3,r4,r5⟩:=run_SR P hsr (re y.w W3.tape W3.drawn) W3 #[] #[] hw3 v _ _ h2
  rw[Array.empty_append] at r1
  refine⟨ρ2,v',W4,seen P r'.fn new,?_,r2,r3,r4,fun e he=>r5 e (seen_mem he)⟩
  rw[ret_step (hr.ret ▸ hret2) (show P.funcs[r'.fn]?=some fn from hr.fn ▸ (show P.funcs[y.r.fn]?=some fn from hfn)),r1]
  simp[doReturn,Rec.fr,GStep.after,Conc.G]
 refine .step rfl (fun W3 hr3=>?_) fun W3 g1 W4 es hr3 hst=>?_
 ·obtain⟨ρ2,v',W4,es,h1,h2,h3,h4,h5⟩:=hcomp W3 hr3
  exact⟨_,W4,es,h1,own_of_left hS1 h4 (fun a b q=>(h3.lt a b q).2) h5⟩
 ·obtain⟨ρ2,v',W5,es',h1,h2,h3,h4,h5⟩:=hcomp W3 hr3
  rw[h1] at hst
  simp only[GStep.go.injEq] at hst
  obtain⟨rfl,rfl,rfl⟩:=hst
  have e2:re y.w W5.tape W5.drawn=re y.w W3.tape W3.drawn:=by rw[<- h3.tape,<- h3.drawn];rfl
  refine .stop ⟨v,v',ρ2,y.w,rfl,h2,⟨T,d,hR⟩,by rw[e2];exact h3,left_grow hS1 h4 (fun a b q=>(h3.lt a b q).2),Ren.le_trans hle h4.le,(h4.same ?_ hid1).2⟩
  show y.w.heap.size=W3.heap.size
  rw[hr3.heap];exact hsz1
theorem wayA_call (hfs:∀f,fs.contains f=true->okBody P G fs f=true) {f:Nat} (hf:fs.contains f=true) {args args':Array Value} {w0 W:World} {c:Frame} {rest:List Frame} {R:Value->World->Prop}
  (hw:WR P.globals.size F ρ (re w0 W.tape W.drawn) W) (ha:VsR ρ args args') (hG:∀g,G g=true->ρ g g) (hS:∀a b,ρ a b->S b\/F b) (hid:∀a b,ρ a b->a=b) (hsz:w0.heap.size=W.heap.size)
  (hc:∀(T:Tape) (d:Nat),Calls P f args (re w0 T d) (fun e w'=>∃v,e=.returned v/\R v w')) :
  WayA P F (BackA P F c rest R ρ) S (Conc.G (Frame.enter P f args' .normal) (c::rest)) W :=
 wayA_run (r:=⟨f,(Frame.enter P f args .normal).tmps,(Frame.enter P f args .normal).todo,false⟩) (r':=⟨f,(Frame.enter P f args' .normal).tmps,(Frame.enter P f args' .normal).todo,false⟩) hfs (rr_enter (hfs f hf) ha) hw hG hS hid hsz fun base T d=>by
  obtain⟨e,w',fr,⟨v,rfl,hR⟩,hst,hfn,hm,hd,hk,fn,hfn2,hres⟩:=hc T d base
  obtain⟨n,hn⟩:=hst
  exact⟨n,fr,w',hn,hm,v,hR,fn,hfn2,hres⟩
theorem wayA_code (hfs:∀f,fs.contains f=true->okBody P G fs f=true) {f:Nat} {fn:Func} (hf:P.funcs[f]?=some fn) (hfi:(P.inits.idxOf? f).isNone=true) {code:Code} (hok:okCode P G fs code=true) {ts ts':Array Value} {w0 W:World} {c b:Frame} {rest:List Frame} {R:Value->World->Prop}
  (hbf:b.fn=f) (hbk:b.kind=.normal)
  (hw:WR P.globals.size F ρ (re w0 W.tape W.drawn) W) (ha:VsR ρ ts ts') (hG:∀g,G g=true->ρ g g) (hS:∀a b,ρ a b->S b\/F b) (hid:∀a b,ρ a b->a=b) (hsz:w0.heap.size=W.heap.size)
  (hc:∀(T:Tape) (d:Nat),code.wp P (bodyPost P fn (fun e w'=>∃v,e=.returned v/\R v w')) ⟨ts,[]⟩ (re w0 T d)) :
  WayA P F (BackA P F c rest R ρ) S (Conc.G (b.at ⟨ts',[]⟩ [.code code]) (c::rest)) W:=by
 have e0:∀t:Array Value,b.at ⟨t,[]⟩ [.code code]=Rec.fr ⟨f,t,[.code code],false⟩:=fun t=>by
  obtain⟨b1,b2,b3,b4,b5,b6⟩:=b
  dsimp only at hbf hbk
  subst hbf hbk
  rfl
 rw[e0]
 refine wayA_run (r:=⟨f,ts,[.code code],false⟩) (r':=⟨f,ts',[.code code],false⟩) hfs ⟨rfl,by simp,rfl,ha,fun it hit=>?_,?_⟩ hw hG hS hid hsz fun base T d=>?_
 ·simp only[List.mem_singleton] at hit
  subst hit
  exact hok
 ·unfold okHead
  rw[hf]
  exact hfi
 ·have hb:∀a todo,(b.at a todo).fn=f:=fun _ _=>hbf
  obtain⟨e,a',w',hq,harr⟩:=hc T d b [] base
  rw[e0] at harr
  cases e with
  | normal =>
   obtain⟨hd,v,hr,v2,e2,hR⟩:=hq
   injection e2 with e2
   subst e2
   obtain⟨n,hn⟩:=Steps.trans harr (.one step_end)
   exact⟨n,_,w',hn,rfl,v,hR,fn,by show P.funcs[b.fn]?=_;rw[hbf];exact hf,hr⟩
  | ret =>
   obtain⟨hd,v,hr,v2,e2,hR⟩:=hq
   injection e2 with e2
   subst e2
   obtain⟨todo,n,hn⟩:=harr
   exact⟨n,_,w',hn,rfl,v,hR,fn,by show P.funcs[b.fn]?=_;rw[hbf];exact hf,hr⟩
  | panic chain =>
   obtain⟨hd,v2,e2,hR⟩:=hq
   cases e2
  | exit id=>exact hq.elim
  | goto l=>exact hq.elim
  | outgrown =>
   obtain⟨v2,e2,hR⟩:=hq
   cases e2
end
end Go.Proofs.YtbicafgmfgdckaaDoor
namespace Go.Proofs.YtbicafgmfgdckaaDoor
open Go Go.Conc
open Go.ConcR (KK wgBlock WgAt stA smA rd wr mk DC0)
open Go.ConcN (sumTo upd upd_same upd_ne RelBy PermW WgLive)
section
variable {ty:TypeId} {top:Nat} {γ γ' γ2:Gho} {p:Ph} {w w' w2:World} {i j n:Nat} {P:Program} {Post:Value->World->Prop} {es:Array Event} {g g':Goroutine} {c b:Frame} {rest:List Frame} {F T:Nat->Prop}
theorem lives_wayA {K:(Nat->Prop)->Goroutine->World->Prop} {S:Nat->Prop} (h:WayA P F K S g w):∀γ,Solo γ w->(∀b,S b->γ.S 0 b)->(∀b,F b->γ.S 0 b) ->
  (∀S' g' w' γ',Solo γ' w'->Later2 γ γ'->(∀b,γ.hs<=b->b < γ'.hs->γ'.bk b=.priv 0)->(∀b,b < γ.hs->¬S b->w'.heap[b]?=w.heap[b]?)->w'.tape=w.tape->(∀b,S' b->S b\/γ.hs<=b)->K S' g' w'->LV P ty top Post 0 γ' w' g')->LV P ty top Post 0 γ w g:=by
 induction h with
 | stop h=>intro γ s _ _ hK;exact hK _ _ _ γ s (.refl _) (fun b h1 h2=>by omega) (fun _ _ _=>rfl) rfl (fun _ q=>.inl q) h
 | @step S g w hg h k ih =>
  intro γ s hS hF hK
  refine solo_own s hg fun w2 e1 e2=>?_
  obtain⟨g1,w3,es,h1,h2⟩:=h w2 ⟨e1,e2⟩
  refine⟨g1,w3,es,h1,⟨h2.size,h2.tape,h2.os,h2.output,fun b hb hn=>h2.old b hb fun q=>hn (hS b q),fun e he=>?_⟩,fun γ' s' l hnew=>?_⟩
  ·have hgr:∀b,grow S w2 w3 b->grow (γ.S 0) w2 w3 b:=fun b hb=>hb.imp (hS b) id
   rcases h2.ev e he with⟨ad,q1,q2,q3⟩|q|⟨r,q1,q2,q3⟩
   ·exact .inl ⟨ad,q1,q2,.inl (q3.elim (hgr _) fun q=>.inl (hF _ q.1))⟩
   ·exact .inr (.inl q)
   ·exact .inr (.inr ⟨r,q1,.inl (q2.elim (hgr _) fun q=>.inl (hF _ q)),q3⟩)
  ·have hs2:γ.hs=w2.heap.size:=by rw[e1];exact s.hs
   refine ih w2 g1 w3 es ⟨e1,e2⟩ h1 γ' s' (fun b hb=>?_) (fun b hb=>?_) fun S' g' w' γ'' s'' l' hnew' hold htp hS' hk=>hK S' g' w' γ'' s'' (l.trans l') (fun b h3 h4=>?_) (fun b h3 h4=>?_) (htp.trans (h2.tape.trans e2)) (fun b q=>?_) hk
   ·rcases hb with hb|⟨h3,h4⟩
    ·obtain⟨q1,q2⟩:=hS b hb
     exact⟨Nat.lt_of_lt_of_le q1 l.hs,(l.bk b q1).trans q2⟩
    ·exact⟨by rw[s'.hs];exact h4,hnew b (by omega) h4⟩
   ·obtain⟨q1,q2⟩:=hF b hb
    exact⟨Nat.lt_of_lt_of_le q1 l.hs,(l.bk b q1).trans q2⟩
   ·by_cases q:b < γ'.hs
    ·rw[l'.bk b q];exact hnew b h3 (by rw[<- s'.hs];exact q)
    ·exact hnew' b (by omega) h4
   ·have h5:b < w2.heap.size:=by omega
    refine(hold b (by have:=l.hs;omega) fun q=>q.elim h4 fun q=>by omega).trans ?_
    rw[h2.old b h5 h4,e1]
   ·rcases hS' b q with(q|⟨q,_⟩) | q
    ·exact .inl q
    ·exact .inr (by omega)
    ·exact .inr (Nat.le_trans l.hs q)
structure SameN (T:Nat->Prop) (n:Nat) (ρ:Ren) (w1 w':World):Prop where
 id:∀a b,ρ a b->a=b
 where_:∀a b,ρ a b->T b\/n<=b
 cell:∀(a:Addr) v,ρ a.block a.block->w1.cell? a=some v->∃v',w'.cell? a=some v'/\VR ρ v v'
 obj:∀b cs t fr,ρ b b->w1.heap[b]?=some (.cells cs t fr)->∃cs' fr',w'.heap[b]?=some (.cells cs' t fr')/\(n<=b->fr'=(0,0))
theorem same_of {gs:Nat} {ρ1:Ren} {w1 W:World} {S:Nat->Prop} (hw:WR gs T ρ1 (re w1 W.tape W.drawn) W) (hid:∀a b,ρ1 a b->a=b) (hS:∀a b,ρ1 a b->S b\/T b) (hn:∀b,S b->n<=b) (hT:∀b,T b->b < n):SameN T n ρ1 w1 W:=by
 refine⟨hid,fun a b h=>(hS a b h).elim (fun q=>.inr (hn b q)) .inl,fun a v h hc=>?_,fun b cs t fr h hc=>?_⟩
 ·rcases hw.cell (a:=a) (a':=a) ⟨h,rfl,rfl⟩ with⟨e1,_⟩|⟨u,u',e1,e2,e3⟩
  ·have:w1.cell? a=none:=e1
   rw[this] at hc;cases hc
  ·have e1:w1.cell? a=some u:=e1
   rw[e1] at hc
   injection hc with hc
   subst hc
   exact⟨u',e2,e3⟩
 ·obtain⟨o,o',h1,h2,h3⟩:=hw.block b b h
  have h1':w1.heap[b]?=some o:=h1
  rw[hc] at h1'
  injection h1' with h1'
  subst h1'
  cases o' with
  | cells cs' t' fr' =>
   obtain⟨rfl,h4,h5,h6⟩:=h3
   exact⟨_,_,h2,fun q=>(h6 fun q2=>by have:=hT b q2;omega).2⟩
  | _=>exact h3.elim
theorem SameN.cell_of {ρ:Ren} {w1:World} (h:SameN T n ρ w1 w') {b o:Nat} {v:Value} (hb:ρ b b) (hc:w1.cell? ⟨b,o,none⟩=some v):∃v',w'.cell? ⟨b,o,none⟩=some v'/\VR ρ v v':=h.cell ⟨b,o,none⟩ v hb hc
theorem SameN.int {ρ:Ren} {w1:World} (h:SameN T n ρ w1 w') {b o:Nat} {k:IntKind} {x:Int} (hb:ρ b b) (hc:w1.cell? ⟨b,o,none⟩=some (.int k x)):w'.cell? ⟨b,o,none⟩=some (.int k x):=by
 obtain⟨v',e,hv⟩:=h.cell_of hb hc
 cases hv
 exact e
theorem SameN.slice {ρ:Ren} {w1:World} (h:SameN T n ρ w1 w') {a:Option Addr} {l cp:Nat} {v':Value} (hsp:∀ad,a=some ad->ad.spot=none) (hv:VR ρ (.slice a l cp) v'):v'=.slice a l cp/\∀ad,a=some ad->ρ ad.block ad.block:=by
 cases hv with
 | snil=>exact⟨rfl,fun _ e=>by cases e⟩
 | slz q=>rw[hsp _ rfl] at q;cases q
 | @slice a a' _ _ q =>
  have e:a'=a:=by
   obtain⟨q1,q2,q3⟩:=q
   have:=h.id _ _ q1
   obtain⟨a1,a2,a3⟩:=a
   obtain⟨b1,b2,b3⟩:=a'
   dsimp only at *
   subst this q2 q3
   rfl
  subst e
  exact⟨rfl,fun ad e=>by cases e;exact q.block⟩
theorem SameN.slice_cell {ρ:Ren} {w1:World} (h:SameN T n ρ w1 w') {b o:Nat} {a:Option Addr} {l cp:Nat} (hsp:∀ad,a=some ad->ad.spot=none) (hb:ρ b b) (hc:w1.cell? ⟨b,o,none⟩=some (.slice a l cp)):w'.cell? ⟨b,o,none⟩=some (.slice a l cp)/\∀ad,a=some ad->ρ ad.block ad.block:=by
 obtain⟨v',e,hv⟩:=h.cell_of hb hc
 obtain⟨rfl,q⟩:=h.slice hsp hv
 exact⟨e,q⟩
theorem vr_bool {ρ:Ren} {x:Bool} {v':Value} (h:VR ρ (.bool x) v'):v'=.bool x:=by cases h;rfl
theorem lone_wr {T:Nat->Prop} (s:Solo γ w) (hgl:P.globals.size<=γ.hs) (hT:∀b,T b->γ.S 0 b/\∃cs t fr,w.heap[b]?=some (.cells cs t fr)):WR P.globals.size T (diag T) (re (loneW (diag T) T w) w.tape w.drawn) w :=
 wr_lone (F:=T) (T:=T) (fun b hb=>by have:=(hT b hb).1.1;rw[<- s.hs];exact this) (by rw[<- s.hs];exact hgl) fun b hb=>by
  obtain⟨_,cs,t,fr,e⟩:=hT b hb
  exact⟨cs,t,fr,e,fun q=>absurd hb q⟩
theorem lives_call0 {G:Nat->Bool} {fs:List Nat} (hfs:∀f,fs.contains f=true->okBody P G fs f=true) {f:Nat} (hf:fs.contains f=true) (s:Solo γ w) (hgl:P.globals.size<=γ.hs) (T:Nat->Prop) (hT:∀b,T b->γ.S 0 b/\∃cs t fr,w.heap[b]?=some (.cells cs t fr))
  {args:Array Value} (ha:VsR (diag T) args args) (hG:∀g,G g=true->T g) (R:Value->World->Prop)
  (hc:∀(Tp:Tape) (d:Nat),Calls P f args (re (loneW (diag T) T w) Tp d) (fun e w'=>∃v,e=.returned v/\R v w'))
  (hK:∀γ' w' v v' ρ w1,Solo γ' w'->Later2 γ γ'->(∀b,γ.hs<=b->b < γ'.hs->γ'.bk b=.priv 0)->(∀b,b < γ.hs->w'.heap[b]?=w.heap[b]?)->w'.tape=w.tape->R v w1->VR ρ v v'->SameN T γ.hs ρ w1 w'->LV P ty top Post 0 γ' w' (Conc.G (c.finish v') rest)) :
  LV P ty top Post 0 γ w (Conc.G (Frame.enter P f args .normal) (c::rest)):=by
 have h1:=wayA_call (P:=P) (G:=G) (fs:=fs) (F:=T) (S:=fun _=>False) (ρ:=diag T) (c:=c) (rest:=rest) (R:=R) hfs hf (w0:=loneW (diag T) T w) (lone_wr s hgl hT) ha (fun g hg=>⟨rfl,hG g hg⟩) (fun a b h=>.inr (by obtain⟨rfl,h⟩:=h;exact h)) (fun a b h=>h.1) (lone_size) hc
 refine lives_wayA h1 γ s (fun _ q=>q.elim) (fun b hb=>(hT b hb).1) fun S' g' w' γ' s' l hnew hold htp hS' hk=>?_
 obtain⟨v,v',ρ1,w1,rfl,hv,⟨Tp,d,hR⟩,hw,hS,_,hid⟩:=hk
 refine hK γ' w' v v' ρ1 (re w1 Tp d) s' l hnew (fun b hb=>hold b hb fun q=>q) htp hR hv ?_
 exact same_of (gs:=P.globals.size) (w1:=re w1 Tp d) (S:=S') hw hid hS (fun b q=>(hS' b q).elim (fun q=>q.elim) id) fun b q=>(hT b q).1.1
theorem lives_code0 {G:Nat->Bool} {fs:List Nat} (hfs:∀f,fs.contains f=true->okBody P G fs f=true) {f:Nat} {fn:Func} (hf:P.funcs[f]?=some fn) (hfi:(P.inits.idxOf? f).isNone=true) {code:Code} (hok:okCode P G fs code=true) (hbf:b.fn=f) (hbk:b.kind=.normal)
  (s:Solo γ w) (hgl:P.globals.size<=γ.hs) (T:Nat->Prop) (hT:∀b,T b->γ.S 0 b/\∃cs t fr,w.heap[b]?=some (.cells cs t fr))
  {ts:Array Value} (ha:VsR (diag T) ts ts) (hG:∀g,G g=true->T g) (R:Value->World->Prop)
  (hc:∀(Tp:Tape) (d:Nat),code.wp P (bodyPost P fn (fun e w'=>∃v,e=.returned v/\R v w')) ⟨ts,[]⟩ (re (loneW (diag T) T w) Tp d))
  (hK:∀γ' w' v v' ρ w1,Solo γ' w'->Later2 γ γ'->(∀b,γ.hs<=b->b < γ'.hs->γ'.bk b=.priv 0)->(∀b,b < γ.hs->w'.heap[b]?=w.heap[b]?)->w'.tape=w.tape->R v w1->VR ρ v v'->SameN T γ.hs ρ w1 w'->LV P ty top Post 0 γ' w' (Conc.G (c.finish v') rest)) :
  LV P ty top Post 0 γ w (Conc.G (b.at ⟨ts,[]⟩ [.code code]) (c::rest)):=by
 have h1:=wayA_code (P:=P) (G:=G) (fs:=fs) (F:=T) (S:=fun _=>False) (ρ:=diag T) (c:=c) (rest:=rest) (R:=R) hfs hf hfi hok hbf hbk (w0:=loneW (diag T) T w) (lone_wr s hgl hT) ha (fun g hg=>⟨rfl,hG g hg⟩) (fun a b h=>.inr (by obtain⟨rfl,h⟩:=h;exact h)) (fun a b h=>h.1) (lone_size) hc
 refine lives_wayA h1 γ s (fun _ q=>q.elim) (fun b hb=>(hT b hb).1) fun S' g' w' γ' s' l hnew hold htp hS' hk=>?_
 obtain⟨v,v',ρ1,w1,rfl,hv,⟨Tp,d,hR⟩,hw,hS,_,hid⟩:=hk
 refine hK γ' w' v v' ρ1 (re w1 Tp d) s' l hnew (fun b hb=>hold b hb fun q=>q) htp hR hv ?_
 exact same_of (gs:=P.globals.size) (w1:=re w1 Tp d) (S:=S') hw hid hS (fun b q=>(hS' b q).elim (fun q=>q.elim) id) fun b q=>(hT b q).1.1
end
end Go.Proofs.YtbicafgmfgdckaaDoor
