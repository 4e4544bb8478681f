/- The law's walk: CrewFinds. The law's walk: CrewFinds, from its entry on. -/
import Derived.Test.YtbicafgmfgdckaaDoorMgBj
import Derived.Test.YtbicafgmfgdckaaDoorMgBk
namespace Go.Proofs.YtbicafgmfgdckaaDoor
open Go Go.RowKit Go.Conc Go.Conc.Lib Go.ConcR.Gen
theorem ktab_stays {γ γ':Gho} {w w':World} (hs:γ.hs=w.heap.size) (hk:KTab w) (hkS:γ.bk 0=.priv 0) (st:Stays γ w γ' w'):KTab w'/\γ'.bk 0=.priv 0:=by
 have hlt:=World.block_lt_of_cell? w _ (hk 0 (by decide))
 dsimp only at hlt
 refine⟨fun i hi=>?_,(st.bk _ (by omega)).trans hkS⟩
 have h:=hk i hi
 rw[<- h]
 unfold World.cell?
 rw[st.heap _ (by show 0 < γ.hs;omega) hkS]
section
variable {top:Nat} {γ γ' γ2:Gho} {w w' w2 w1:World} {Post:Value->World->Prop} {la:Option Addr} {lc IB:Nat} {rows:Txts} {id:List (BitVec 8)}
theorem Fact.stays {b:Nat} {o:Obj} (f:Fact 0 γ w b (.priv 0) o) (st:Stays γ w γ' w'):Fact 0 γ' w' b (.priv 0) o:=⟨Nat.lt_of_lt_of_le f.lt st.hs,(st.bk _ f.lt).trans f.bk,(st.heap _ f.lt f.bk).trans f.heap⟩
theorem UserTexts.stays {a:Option Addr} {cap:Nat} {ls:Txts} (h:UserTexts γ w a cap ls) (k:Stays γ w γ' w'):UserTexts γ' w' a cap ls:=by
 refine⟨⟨h.txts.fits,h.txts.room,?_⟩,h.held.stays k,fun b off i x n c e hi hc=>?_⟩
 ·rcases h.txts.rows with e|⟨b,off,e,hb⟩
  ·exact .inl e
  ·refine .inr ⟨b,off,e,fun i hi=>?_⟩
   obtain⟨x,c,h1,h2⟩:=hb i hi
   refine⟨x,c,(k.cell (ad:=⟨b,off+i,none⟩) (h.held _ e).2).trans h1,?_⟩
   rcases h.rows b off i x _ c e hi h1 with hx|⟨h0,hc0⟩
   ·exact hx.reads k h2
   ·exact⟨h2.fits,h2.room,h2.null,.inl (List.eq_nil_of_length_eq_zero h0)⟩
 ·rw[k.cell (ad:=⟨b,off+i,none⟩) (h.held _ e).2] at hc
  exact(h.rows b off i x n c e hi hc).imp (fun q=>q.stays k) _root_.id
theorem fact_cells (f:Fact 0 γ w IB (.priv 0) (.cells (id.map U8).toArray 39)):∀j v,(id.map U8)[j]?=some v->w.cell? ⟨IB,0+j,none⟩=some v:=fun j v h=>by
 have h2:(id.map U8).toArray[j]?=some v:=by simpa using h
 rw[Nat.zero_add]
 simp only[World.cell?,f.heap]
 exact h2
noncomputable def tail4:Code:=match Tryd.f4.body.getD .skip with
 | .seq _ (.seq _ (.seq _ c))=>c
 | _=>.skip
set_option maxRecDepth 100000 in
set_option maxHeartbeats 16000000 in
theorem lives_law2 {m:Int} {v1 v2 v4 v6 v7 v9 v10 v11 v12 v13 v14 v15 v16 v17 v18 v19 v20 v21 v22 v23 v24 v25:Value} (s0:Solo γ w) (hgl:Tryd.prog.globals.size<=γ.hs) (hcnt:γ.cnt+48<=top) (hn:rows.length<=1000) (hl:∀r∈rows,r.length<=1000000) (hk:KTab w) (hkS:γ.bk 0=.priv 0)
  (ht:TextsH γ w la lc rows) (hid:id.length=32) (fI:Fact 0 γ w IB (.priv 0) (.cells (id.map U8).toArray 39))
  (hP:∀γ' w',Solo γ' w'->Stays γ w γ' w'->w'.tape=w.tape->Post (.bool true) w') :
  LV Tryd.prog wgLink.tWg top Post 0 γ w (G ((base 4).at ⟨#[.slice la rows.length lc,v1,v2,.int .i64 m,v4,.pointer (some ⟨IB,0,none⟩),v6,v7,.bool false,v9,v10,v11,v12,v13,v14,v15,v16,v17,v18,v19,v20,v21,v22,v23,v24,v25]++Array.replicate 31 undef,[]⟩ [.code tail4]) []):=by
 have hg:γ.tag 0≠.gone:=s0.ng
 simp only[tail4,Tryd.f4,Option.getD_some]
 walk_nrm;refine lsq hg ?_;refine lrg hg ?_;simp only[ix,Nat.reduceAdd];refine lop hg rfl rfl (by k_ne) fun v W H=>?_;go_simp;refine H _ _ rfl (by simp[go_sem]) ?_;clear H W v;try walk_nrm
 refine lives_loadId (id:=id) (B:=IB) (off:=0) s0 ⟨fI.lt,fI.bk⟩ hid (fact_cells fI) rfl rfl (by k_ne) rfl (by simp[Act.eval]) ?_
 (try walk_nrm);refine lop hg rfl rfl (by k_ne) fun v W H=>?_;go_simp;refine H _ _ rfl (by simp[go_sem]) ?_;clear H W v;try walk_nrm
 refine lives_ctl rfl hg (fun _=>stepG_callv (first:=#[]) (caps:=#[]) (vs:=#[.slice la rows.length lc,.agg (id.map U8).toArray,.int .i64 m]) rfl rfl (by k_ne) rfl rfl (by simp[Act.eval]) Tryd.func14 (by kernel_rfl) rfl) ?_
 refine lives_find (n:=rows.length) (rows:=rows) (id:=id) s0 hn hid (ht.mem s0.hs rfl (fun r hr=>by have:=hl r hr;omega) hk hkS) hgl (by omega) (fun W0 hW0 q1 q16 γ1 w1 v s1 e1 e2 e3 e4 e5 hfd=>?_) (fun hm γ1 w1 s1 l1 e1 e2=>?_)
 ·have st1:Stays γ w γ1 w1:=⟨e1,e3,e4⟩
  have tp1:=e5
  have hgl1:Tryd.prog.globals.size<=γ1.hs:=Nat.le_trans hgl st1.hs
  subst hW0
  have hm1:(decide (1<=(W0:Int))&&decide ((W0:Int)<=16))=true:=by simp[show 1<=(W0:Int) by omega,show (W0:Int)<=16 by omega]
  rw[Frame.finish_at];clear hg
  have hg:γ1.tag 0≠.gone:=s1.ng
  walk_nrm;(iterate 5 (refine lop hg rfl rfl (by k_ne) fun v W H=>?_;go_simp;refine H _ _ rfl (by simp[go_sem]) ?_;clear H W v;try walk_nrm));refine len hg ?_;refine lsq hg ?_;refine lsq hg ?_;refine lrg hg ?_;simp only[ix,Nat.reduceAdd];refine lop hg rfl rfl (by k_ne) fun v W H=>?_;go_simp;refine H _ _ rfl (by simp[go_sem]) ?_;clear H W v;try walk_nrm
  refine lives_ctl rfl hg (fun _=>stepG_callE rfl rfl (by k_ne) rfl (vs:=#[.int .i64 W0]) (by simp[Act.eval]) Tryd.func8 (by kernel_rfl) (by kernel_rfl)) ?_
  refine lives_refRight s1 hgl1 (fun γ2 w2 A2=>?_)
  rw[hm1]
  have s2:=A2.solo
  have st2:=st1.trans A2.stays
  have tp2:=A2.tape.trans tp1
  have hgl2:Tryd.prog.globals.size<=γ2.hs:=Nat.le_trans hgl st2.hs
  rw[Frame.finish_at];clear hg
  have hg:γ2.tag 0≠.gone:=s2.ng
  walk_nrm
  have fI2:=fI.stays st2
  refine lop hg rfl rfl (by k_ne) fun v W H=>?_;go_simp;refine H _ _ rfl (by simp[go_sem]) ?_;clear H W v;(try walk_nrm);refine len hg ?_;refine lcf hg rfl ?_;refine lsk hg ?_;refine lsq hg ?_;refine lrg hg ?_;simp only[ix,Nat.reduceAdd];(iterate 2 (refine lop hg rfl rfl (by k_ne) fun v W H=>?_;go_simp;refine H _ _ rfl (by simp[go_sem]) ?_;clear H W v;try walk_nrm))
  refine lives_loadId (id:=id) (B:=IB) (off:=0) s2 ⟨fI2.lt,fI2.bk⟩ hid (fact_cells fI2) rfl rfl (by k_ne) rfl (by simp[Act.eval]) ?_
  try walk_nrm
  refine lives_ctl rfl hg (fun _=>stepG_callE rfl rfl (by k_ne) rfl (vs:=#[.slice la rows.length lc,.agg (id.map U8).toArray]) (by simp[Act.eval]) Tryd.func15 (by kernel_rfl) (by kernel_rfl)) ?_
  refine lives_refFind s2 hgl2 (ht.stays st2) hid (by omega) hl (fun γ3 w3 u A3 hfu=>?_)
  obtain rfl:=found_one hfd hfu
  have s3:=A3.solo
  have st3:=st2.trans A3.stays
  have tp3:=A3.tape.trans tp2
  have hgl3:Tryd.prog.globals.size<=γ3.hs:=Nat.le_trans hgl st3.hs
  rw[Frame.finish_at];clear hg
  have hg:γ3.tag 0≠.gone:=s3.ng
  walk_nrm
  have hvv:(v==v)=true:=by simp
  (iterate 6 (refine lop hg rfl rfl (by k_ne) fun v W H=>?_;go_simp;refine H _ _ rfl (by simp[go_sem]) ?_;clear H W v;try walk_nrm))
  refine lives_ctl rfl hg (fun _=>stepG_callv (first:=#[]) (caps:=#[]) (vs:=#[]) rfl rfl (by k_ne) rfl rfl (by simp[Act.eval]) Tryd.func9 (by kernel_rfl) rfl) ?_
  obtain⟨hk3,hkS3⟩:=ktab_stays s0.hs hk hkS st3
  refine lives_lives s3 hgl3 (by have:=A2.later.cnt;have:=A3.later.cnt;omega) hk3 hkS3 (fun γ4 w4 A4=>?_)
  have s4:=A4.solo
  have st4:=st3.trans A4.stays
  have tp4:=A4.tape.trans tp3
  rw[Frame.finish_at];clear hg
  have hg:γ4.tag 0≠.gone:=s4.ng
  walk_nrm;(iterate 2 (refine lop hg rfl rfl (by k_ne) fun v W H=>?_;go_simp;refine H _ _ rfl (by simp[go_sem]) ?_;clear H W v;try walk_nrm));refine len hg ?_
  refine lives_ctl rfl hg (fun _=>stepG_ret') ?_
  refine lives_stop s4 rfl (fun _=>stepG_finish (v:=.bool true) rfl rfl Tryd.func4 (by kernel_rfl) (by kernel_rfl) (by kernel_rfl)) (fun w9 e1' e2'=>?_)
  exact hP _ _ ⟨s4.ph,s4.col,s4.tag,s4.deaf,by rw[e1'];exact s4.hs,s4.bk⟩ ⟨st4.hs,st4.bk,fun b hb hp=>by rw[e1'];exact st4.heap b hb hp⟩ (by rw[e2'];exact tp4)
 ·have st1:Stays γ w γ1 w1:=.of l1 e1
  have tp1:=e2
  have hgl1:Tryd.prog.globals.size<=γ1.hs:=Nat.le_trans hgl st1.hs
  have hm1:(decide (1<=m)&&decide (m<=16))=false:=by
   by_cases h1:1<=m
   ·have h2:¬m<=16:=fun h2=>hm ⟨h1,h2⟩
    simp[h2]
   ·simp[h1]
  rw[Frame.finish_at];clear hg
  have hg:γ1.tag 0≠.gone:=s1.ng
  walk_nrm;(iterate 5 (refine lop hg rfl rfl (by k_ne) fun v W H=>?_;go_simp;refine H _ _ rfl (by simp[go_sem]) ?_;clear H W v;try walk_nrm));refine len hg ?_;refine lsq hg ?_;refine lsq hg ?_;refine lrg hg ?_;simp only[ix,Nat.reduceAdd];refine lop hg rfl rfl (by k_ne) fun v W H=>?_;go_simp;refine H _ _ rfl (by simp[go_sem]) ?_;clear H W v;try walk_nrm
  refine lives_ctl rfl hg (fun _=>stepG_callE rfl rfl (by k_ne) rfl (vs:=#[.int .i64 m]) (by simp[Act.eval]) Tryd.func8 (by kernel_rfl) (by kernel_rfl)) ?_
  refine lives_refRight s1 hgl1 (fun γ2 w2 A2=>?_)
  rw[hm1]
  have s2:=A2.solo
  have st2:=st1.trans A2.stays
  have tp2:=A2.tape.trans tp1
  have hgl2:Tryd.prog.globals.size<=γ2.hs:=Nat.le_trans hgl st2.hs
  rw[Frame.finish_at];clear hg
  have hg:γ2.tag 0≠.gone:=s2.ng
  walk_nrm;refine lop hg rfl rfl (by k_ne) fun v W H=>?_;go_simp;refine H _ _ rfl (by simp[go_sem]) ?_;clear H W v;(try walk_nrm);refine len hg ?_;refine lct hg rfl ?_;refine lsq hg ?_;refine lrg hg ?_;simp only[ix,Nat.reduceAdd];(iterate 7 (refine lop hg rfl rfl (by k_ne) fun v W H=>?_;go_simp;refine H _ _ rfl (by simp[go_sem]) ?_;clear H W v;try walk_nrm))
  refine lives_ctl rfl hg (fun _=>stepG_callv (first:=#[]) (caps:=#[]) (vs:=#[]) rfl rfl (by k_ne) rfl rfl (by simp[Act.eval]) Tryd.func9 (by kernel_rfl) rfl) ?_
  obtain⟨hk2,hkS2⟩:=ktab_stays s0.hs hk hkS st2
  refine lives_lives s2 hgl2 (by have:=A2.later.cnt;have:=l1.cnt;omega) hk2 hkS2 (fun γ4 w4 A4=>?_)
  have s4:=A4.solo
  have st4:=st2.trans A4.stays
  have tp4:=A4.tape.trans tp2
  rw[Frame.finish_at];clear hg
  have hg:γ4.tag 0≠.gone:=s4.ng
  walk_nrm;(iterate 2 (refine lop hg rfl rfl (by k_ne) fun v W H=>?_;go_simp;refine H _ _ rfl (by simp[go_sem]) ?_;clear H W v;try walk_nrm));refine len hg ?_
  refine lives_ctl rfl hg (fun _=>stepG_ret') ?_
  refine lives_stop s4 rfl (fun _=>stepG_finish (v:=.bool true) rfl rfl Tryd.func4 (by kernel_rfl) (by kernel_rfl) (by kernel_rfl)) (fun w9 e1' e2'=>?_)
  exact hP _ _ ⟨s4.ph,s4.col,s4.tag,s4.deaf,by rw[e1'];exact s4.hs,s4.bk⟩ ⟨st4.hs,st4.bk,fun b hb hp=>by rw[e1'];exact st4.heap b hb hp⟩ (by rw[e2'];exact tp4)
end
end Go.Proofs.YtbicafgmfgdckaaDoor
namespace Go.Proofs.YtbicafgmfgdckaaDoor
open Go Go.RowKit Go.Conc Go.Conc.Lib Go.ConcR.Gen
section
variable {top:Nat} {γ γ' γ2:Gho} {w w' w2 w1:World} {Post:Value->World->Prop} {la:Option Addr} {lc:Nat} {id:List (BitVec 8)}
set_option maxRecDepth 100000 in
set_option maxHeartbeats 16000000 in
theorem lives_law {n m:Int} {ls:Txts} (s0:Solo γ w) (hgl:Tryd.prog.globals.size<=γ.hs) (hcnt:γ.cnt+48<=top) (hk:KTab w) (hkS:γ.bk 0=.priv 0) (hu:UserTexts γ w la lc ls) (hid:id.length=32)
  (hP:∀γ' w',Solo γ' w'->Stays γ w γ' w'->w'.tape=w.tape->Post (.bool true) w') :
  LV Tryd.prog wgLink.tWg top Post 0 γ w (G ((base 4).at ⟨#[.slice la ls.length lc,.agg (id.map U8).toArray,.int .i64 n,.int .i64 m]++Array.replicate 53 undef,[]⟩ [.code (Tryd.f4.body.getD .skip)]) []):=by
 have hg:γ.tag 0≠.gone:=s0.ng
 simp only[Tryd.f4,Option.getD_some]
 walk_nrm;refine lsq hg ?_;refine lrg hg ?_;simp only[ix,Nat.reduceAdd]
 refine solo_goes s0 rfl fun wV eV eT=>?_
 refine goes_oper_k rfl rfl (by k_ne) (fun W hW=>?_)
 go_simp
 refine hW _ _ ⟨own_push (w:=wV) rfl rfl rfl rfl (no_listed (by simp[go_sem])),fun γ1 w1 h1 t1 s1 l1 b1=>?_⟩
 replace h1:w1.heap=(w.heap).push (Obj.cells (id.map U8).toArray 39):=by rw[h1];show wV.heap.push _=_;rw[eV];try rfl
 replace t1:w1.tape=w.tape:=t1.trans eT
 replace b1:γ1.bk (w.heap.size)=.priv 0:=b1 _ (by rw[s0.hs];simp[Nat.add_assoc]) (by show _ < (wV.heap.push _).size;rw[eV];simp[Nat.add_assoc])
 clear hW;clear W eV eT;clear wV
 have hg:γ1.tag 0≠.gone:=s1.ng
 (try walk_nrm);refine lop hg rfl rfl (by k_ne) fun v W H=>?_;go_simp;refine H _ _ rfl (by simp[go_sem]) ?_;clear H W v;(try walk_nrm);refine len hg ?_;refine lsq hg ?_;refine lrg hg ?_;simp only[ix,Nat.reduceAdd];refine lop hg rfl rfl (by k_ne) fun v W H=>?_;go_simp;refine H _ _ rfl (by simp[go_sem]) ?_;clear H W v;try walk_nrm
 have hN:=s0.hs
 have fI1:Fact 0 γ1 w1 w.heap.size (.priv 0) (Obj.cells (id.map U8).toArray 39):=⟨by rw[s1.hs,h1];simp,b1,by rw[h1,Array.getElem?_push];simp⟩
 have st1:Stays γ w γ1 w1:=.of l1 fun b hb=>by rw[h1,Array.getElem?_push,if_neg (by omega)]
 have tp1:=t1
 have hgl1:Tryd.prog.globals.size<=γ1.hs:=Nat.le_trans hgl st1.hs
 have cn1:=l1.cnt
 obtain⟨IB,hIB⟩:∃IB,w.heap.size=IB:=⟨_,rfl⟩
 have hge:γ.hs<=IB:=by omega
 rw[hIB] at fI1 ⊢
 have sx:Stays γ w (γ1.hide IB) w1:=⟨st1.hs,fun b hb=>by rw[hide_bk (by omega)];exact st1.bk b hb,st1.heap⟩
 have hu1:=hu.stays sx
 clear h1 b1 hN hIB sx
 refine lives_ctl rfl hg (fun _=>stepG_callE rfl rfl (by k_ne) rfl (vs:=#[.slice la ls.length lc]) (by simp[Act.eval]) Tryd.func5 (by kernel_rfl) (by kernel_rfl)) ?_
 refine lives_fewX s1 hgl1 fI1.lt hu1 (fun γ2 w2 x cx A2 hT2=>?_)
 have s2:=A2.solo
 have st2:=st1.trans A2.stays
 have tp2:=A2.tape.trans tp1
 have hgl2:Tryd.prog.globals.size<=γ2.hs:=Nat.le_trans hgl st2.hs
 have cn2:=A2.later.cnt
 have hl:∀r∈fewOf ls,r.length<=100:=fewOf_short ls
 have hn:(fewOf ls).length<=12:=fewOf_length ls
 have fI2:=fI1.stays A2.stays
 obtain⟨hk2,hkS2⟩:=ktab_stays s0.hs hk hkS st2
 generalize fewOf ls=rows at *
 rw[Frame.finish_at];clear hg
 have hg:γ2.tag 0≠.gone:=s2.ng
 walk_nrm;refine lop hg rfl rfl (by k_ne) fun v W H=>?_;go_simp;refine H _ _ rfl (by simp[go_sem]) ?_;clear H W v;(try walk_nrm);refine len hg ?_;refine lsq hg ?_;refine lsq hg ?_;refine lrg hg ?_;simp only[ix,Nat.reduceAdd];(iterate 3 (refine lop hg rfl rfl (by k_ne) fun v W H=>?_;go_simp;refine H _ _ rfl (by simp[go_sem]) ?_;clear H W v;try walk_nrm))
 by_cases h0:0<=n
 rotate_left
 ·have n1:decide (0<=n)=false:=by simpa using h0
  simp only[ge_iff_le,n1]
  refine lun hg rfl rfl ?_;(try walk_nrm);refine lun hg rfl rfl ?_;(try walk_nrm);refine lun hg rfl rfl ?_;(try walk_nrm);refine lun hg rfl rfl ?_;(try walk_nrm);refine lop hg rfl rfl (by k_ne) fun v W H=>?_;go_simp;refine H _ _ rfl (by simp[go_sem]) ?_;clear H W v;(try walk_nrm);refine len hg ?_;refine lcf hg rfl ?_;refine lsk hg ?_
  have hT:=lives_law2 (top:=top) (m:=m) (la:=x) (lc:=cx) (IB:=IB) (rows:=rows) (id:=id) (v1:=.agg (id.map U8).toArray) (v2:=.int .i64 n) (v4:=undef) (v6:=undef) (v7:=undef) (v9:=undef) (v10:=undef) (v11:=.slice la ls.length lc) (v12:=.slice x rows.length cx) (v13:=.int .i64 n) (v14:=.bool false) (v15:=.bool false) (v16:=undef) (v17:=undef) (v18:=undef) (v19:=undef) (v20:=.bool false) (v21:=undef) (v22:=undef) (v23:=undef) (v24:=undef) (v25:=undef) (Post:=Post) s2 hgl2 (by omega) (by omega) (fun r hr=>by have:=hl r hr;omega) hk2 hkS2 hT2.shown hid fI2 (fun γ' w' sx stx tpx=>hP γ' w' sx (st2.trans stx) (tpx.trans tp2))
  simp only[tail4,Tryd.f4,Option.getD_some,Array.replicate_succ,Array.replicate_zero,List.push_toArray,List.append_toArray,List.nil_append,List.cons_append] at hT
  exact hT
 ·have n1:decide (0<=n)=true:=by simpa using h0
  simp only[ge_iff_le,n1]
  (iterate 5 (refine lop hg rfl rfl (by k_ne) fun v W H=>?_;go_simp;refine H _ _ rfl (by simp[go_sem]) ?_;clear H W v;try walk_nrm));refine len hg ?_
  by_cases h1:n < (rows.length:Int)
  rotate_left
  ·have n2:decide (n < (rows.length:Int))=false:=by simpa using h1
   simp only[n2]
   refine lcf hg rfl ?_;refine lsk hg ?_
   have hT:=lives_law2 (top:=top) (m:=m) (la:=x) (lc:=cx) (IB:=IB) (rows:=rows) (id:=id) (v1:=.agg (id.map U8).toArray) (v2:=.int .i64 n) (v4:=undef) (v6:=undef) (v7:=undef) (v9:=undef) (v10:=undef) (v11:=.slice la ls.length lc) (v12:=.slice x rows.length cx) (v13:=.int .i64 n) (v14:=.bool true) (v15:=.bool true) (v16:=.int .i64 n) (v17:=.slice x rows.length cx) (v18:=.int .i64 rows.length) (v19:=.bool false) (v20:=.bool false) (v21:=undef) (v22:=undef) (v23:=undef) (v24:=undef) (v25:=undef) (Post:=Post) s2 hgl2 (by omega) (by omega) (fun r hr=>by have:=hl r hr;omega) hk2 hkS2 hT2.shown hid fI2 (fun γ' w' sx stx tpx=>hP γ' w' sx (st2.trans stx) (tpx.trans tp2))
   simp only[tail4,Tryd.f4,Option.getD_some,Array.replicate_succ,Array.replicate_zero,List.push_toArray,List.append_toArray,List.nil_append,List.cons_append] at hT
   exact hT
  ·have n2:decide (n < (rows.length:Int))=true:=by simpa using h1
   simp only[n2]
   obtain⟨k,rfl⟩:∃k:Nat,n=k:=⟨n.toNat,by omega⟩
   have hkl:k < rows.length:=by omega
   refine lct hg rfl ?_;refine lrg hg ?_;simp only[ix,Nat.reduceAdd];refine lop hg rfl rfl (by k_ne) fun v W H=>?_;go_simp;refine H _ _ rfl (by simp[go_sem]) ?_;clear H W v;try walk_nrm
   refine lives_ctl rfl hg (fun _=>stepG_callE rfl rfl (by k_ne) rfl (vs:=#[.slice x rows.length cx]) (by simp[Act.eval]) Tryd.func11 (by kernel_rfl) (by kernel_rfl)) ?_
   have hlen:(rows.map Sha.sum).length=rows.length:=List.length_map _
   refine lives_refSums s2 hgl2 hT2.shown (by omega) (fun r hr=>by have:=hl r hr;omega) (fun γ3 w3 y sc A3 hY=>?_)
   rw[hlen]
   have s3:=A3.solo
   have st3:=st2.trans A3.stays
   have tp3:=A3.tape.trans tp2
   have hgl3:Tryd.prog.globals.size<=γ3.hs:=Nat.le_trans hgl st3.hs
   rw[Frame.finish_at];clear hg
   have hg:γ3.tag 0≠.gone:=s3.ng
   walk_nrm
   obtain⟨sb,so,rfl,hrow⟩:=hY.rows.rows.resolve_left (fun e=>by rw[e] at hlen;simp at hlen;omega)
   have fI3:=fI2.stays A3.stays
   have hT3:=hT2.stays (A3.stays.hide (IB:=IB))
   obtain⟨id1,hid1⟩:∃id1,(rows.map Sha.sum)[k]'(by omega)=id1:=⟨_,rfl⟩
   have hid1l:id1.length=32:=by rw[<- hid1,List.getElem_map];exact sum_length _
   have hrk:∀j v,(id1.map U8)[j]?=some v->w3.cell? ⟨sb,so+k * 32+j,none⟩=some v:=fun j v hv=>hrow k (by omega) j v (by rw[hid1];exact hv)
   have hSb:γ3.S 0 sb:=(hY.held _ rfl).2.1
   have hidx:(0:Int)<=(k:Int)/\(k:Int) < (rows.length:Int):=⟨by omega,by omega⟩
   refine lop hg rfl rfl (by k_ne) fun v W H=>?_;go_simp;refine H _ _ rfl (by simp[go_sem]) ?_;clear H W v;(try walk_nrm);refine lop hg rfl rfl (by k_ne) fun v W H=>?_;go_simp;refine H _ _ rfl (by simp[go_sem];exact events_indexAt_slice _ _ _ _ _ _ (by kernel_rfl) hidx) ?_;clear H W v;try walk_nrm
   refine lives_loadId (id:=id1) (B:=sb) (off:=so+k * 32) s3 hSb hid1l hrk rfl rfl (by k_ne) rfl (by simp[Act.eval]) ?_
   try walk_nrm
   refine lives_storeId (id:=id) (id':=id1) s3 fI3 hid hid1l rfl rfl (by k_ne) rfl (by simp[Act.eval]) (by simp[Act.eval]) fun γ4 w4 s4 l4 h4 t4 fI4=>?_
   clear hg
   have hg:γ4.tag 0≠.gone:=s4.ng
   try walk_nrm
   have st4:Stays γ w γ4 w4:=⟨Nat.le_trans st3.hs l4.hs,fun b hb=>(l4.bk b (Nat.lt_of_lt_of_le hb st3.hs)).trans (st3.bk b hb),fun b hb hp=>(h4 b (Nat.lt_of_lt_of_le hb st3.hs) (by omega)).trans (st3.heap b hb hp)⟩
   have tp4:=t4.trans tp3
   have hgl4:Tryd.prog.globals.size<=γ4.hs:=Nat.le_trans hgl st4.hs
   obtain⟨hk4,hkS4⟩:=ktab_stays s0.hs hk hkS st4
   have hT4:TextsH (γ4.hide IB) w4 x cx rows:=hT3.stays ⟨l4.hs,fun b hb=>by
    by_cases q:b=IB
    ·rw[q,hide_at,hide_at]
    ·rw[hide_bk q,hide_bk q];exact l4.bk b hb,fun b hb hp=>h4 b hb (hide_priv hp).1⟩
   refine len hg ?_
   have hT:=lives_law2 (top:=top) (m:=m) (la:=x) (lc:=cx) (IB:=IB) (rows:=rows) (id:=id1) (v1:=.agg (id.map U8).toArray) (v2:=.int .i64 k) (v4:=undef) (v6:=undef) (v7:=undef) (v9:=undef) (v10:=undef) (v11:=.slice la ls.length lc) (v12:=.slice x rows.length cx) (v13:=.int .i64 k) (v14:=.bool true) (v15:=.bool true) (v16:=.int .i64 k) (v17:=.slice x rows.length cx) (v18:=.int .i64 rows.length) (v19:=.bool true) (v20:=.bool true) (v21:=.slice x rows.length cx) (v22:=.slice (some ⟨sb,so,none⟩) rows.length sc) (v23:=.int .i64 k) (v24:=.pointer (some ⟨sb,so+k * 32,none⟩)) (v25:=.agg (id1.map U8).toArray) (Post:=Post) s4 hgl4 (by have:=A3.later.cnt;have:=l4.cnt;omega) (by omega) (fun r hr=>by have:=hl r hr;omega) hk4 hkS4 hT4.shown hid1l fI4 (fun γ' w' sx stx tpx=>hP γ' w' sx (st4.trans stx) (tpx.trans tp4))
   simp only[tail4,Tryd.f4,Option.getD_some,Array.replicate_succ,Array.replicate_zero,List.push_toArray,List.append_toArray,List.nil_append,List.cons_append] at hT
   exact hT
end
end Go.Proofs.YtbicafgmfgdckaaDoor
