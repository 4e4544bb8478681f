/- A row is stored into the middle of a block, what it lists. For any program. Sums' job: one text's sum, laid at its place. A slice of sums is made, what it lists: nothing. A snapshot of main's own blocks, one of them left out. crew.Sums, main's part. Parts of blocks of several cells: loads whose guard says yes, stores, what stays. For any program. Single operations of regions that draw their order, taken in any later world: loads of several cells at once, nil checks. For any program. -/
import Derived.Test.YtbicafgmfgdckaaDoorMgBe
import Derived.Test.YtbicafgmfgdckaaDoorMgAw
import Derived.Test.YtbicafgmfgdckaaDoorMgAv
import Derived.Test.YtbicafgmfgdckaaDoorMgAn
import Derived.Test.YtbicafgmfgdckaaDoorMgAy
import Derived.Test.YtbicafgmfgdckaaDoorMgBa
import Derived.Test.YtbicafgmfgdckaaDoorMgBb
import Derived.Conc.AppendEvents
import Derived.Deep.MidRow
import Derived.Conc.Crowd
import Derived.Test.YtbicafgmfgdckaaDoorProg
import Derived.Conc.Events
import Derived.Laws.MakeOwn
import Derived.KernelRfl
import Derived.BigFrame
namespace Go.Proofs.YtbicafgmfgdckaaDoor
open Go Go.Conc
section
variable {P:Program}
theorem storeCells_ev (g o:Nat) (t:TypeId):∀(vs:List Value) (i:Nat) (cur:Array Value) (w:World) (es:Array Event),w.heap[g]?=some (.cells cur t (0,0))->o+i+vs.length<=cur.size->(∀v∈vs,v.oneCell'=true) ->
  ∀ev∈(storeCells ⟨g,o,none⟩ vs i).events P w es,ev∈es\/∃j,j < vs.length/\ev=⟨.cell ⟨g,o+i+j,none⟩,true,false⟩
 | [],_,_,_,_,_,_,_=>fun ev h=>.inl (by simpa [storeCells] using h)
 | v::rest,i,cur,w,es,hg,hl,h1=>fun ev h=>by
  have hi:o+i < cur.size:=by simp at hl;omega
  have hadd:(⟨g,o,none⟩:Addr).add i=⟨g,o+i,none⟩:=by unfold Addr.add;split<;>simp_all
  have hcell:w.cell? ⟨g,o+i,none⟩=some cur[o+i]:=by simp[World.cell?,hg,hi]
  have hfro:w.frozen? ⟨g,o+i,none⟩=false:=by simp[World.frozen?,hg]
  have hst:(store ((⟨g,o,none⟩:Addr).add i) v).run P w=.ok () (w.setRow g (cur.setIfInBounds (o+i) v)):=by
   rw[hadd,run_store P w _ v _ (h1 v (by simp)),hcell]
   simp[hfro,setCell_eq_setRow w g (o+i) cur t (0,0) v hg]
  have hev:(store ((⟨g,o,none⟩:Addr).add i) v).events P w es=es.push ⟨.cell ⟨g,o+i,none⟩,true,false⟩:=by
   rw[hadd,events_store P w es _ v _ (h1 v (by simp)),hcell]
   simp only[hfro,Bool.false_eq_true,if_false]
   rfl
  simp only[storeCells,Sem.events_bind,hst,Result.evThen_ok,hev] at h
  rcases storeCells_ev g o t rest (i+1) (cur.setIfInBounds (o+i) v) (w.setRow g (cur.setIfInBounds (o+i) v)) _ (setRow_heap w g cur _ t _ hg) (by simp at hl ⊢;omega) (fun x hx=>h1 x (by simp[hx])) ev h with h|⟨j,hj,h⟩
  ·rcases Array.mem_push.1 h with h|rfl
   ·exact .inl h
   ·exact .inr ⟨0,by simp,rfl⟩
  ·exact .inr ⟨j+1,by simp;omega,by rw[h,show o+(i+1)+j=o+i+(j+1) by omega]⟩
theorem exec_store_row {a:Act} {op:Oper} {ty t:TypeId} {x y:Operand} {g o:Nat} {vs:List Value} {cur:Array Value} {w:World} (ho:op.op=.store ty x y) (hx:a.eval x=.pointer (some ⟨g,o,none⟩)) (hy:a.eval y=.agg vs.toArray)
  (hi:(P.info? ty).map (·.size)=some vs.length) (hg:w.heap[g]?=some (.cells cur t (0,0))) (hl:o+vs.length<=cur.size) (h1:∀v∈vs,v.oneCell'=true) :
  (execOp a.eval op).run P w=.ok .skip (w.setRow g (cur.toList.take o++vs++cur.toList.drop (o+vs.length)).toArray)/\∀ev∈(execOp a.eval op).events P w #[],∃j,j < vs.length/\ev=⟨.cell ⟨g,o+j,none⟩,true,false⟩:=by
 have hsz:∀w,(sizeOf ty).run P w=.ok vs.length w:=fun w=>by
  cases hq:P.info? ty with
  | none=>simp[hq] at hi
  | some i =>
   simp[hq] at hi
   simp[sizeOf,typeInfo,hq,hi]
 have hse:∀w es,(sizeOf ty).events P w es=es:=fun w es=>by simp
 have hr:=run_storeCells_at (P:=P) g o t vs 0 cur w hg (by omega) h1
 have he:=storeCells_ev (P:=P) g o t vs 0 cur w #[] hg (by omega) h1
 have hc:(Value.agg vs.toArray).cells=vs.toArray:=rfl
 constructor
 ·unfold execOp
  simp only[ho,hx,hy,Instr.storeAt,Instr.sureAddr,storeVar,hc,Sem.run_bind,Sem.run_pure,Result.andThen_ok,hsz,List.size_toArray,ne_eq,not_true_eq_false,if_false,hr]
  simp
 ·intro ev h
  unfold execOp at h
  simp only[ho,hx,hy,Instr.storeAt,Instr.sureAddr,storeVar,hc,Sem.events_bind,Sem.events_pure,Sem.run_bind,Sem.run_pure,Result.andThen_ok,Result.evThen_ok,hsz,hse,List.size_toArray,ne_eq,not_true_eq_false,if_false,hr] at h
  rcases he ev (by simpa using h) with h|⟨j,hj,h⟩
  ·simp at h
  ·exact⟨j,hj,by simpa using h⟩
theorem splice_in (A vs:List Value) (o j:Nat) (hl:o+vs.length<=A.length) (hj:j < vs.length):(A.take o++vs++A.drop (o+vs.length))[o+j]?=vs[j]?:=by
 rw[List.append_assoc,List.getElem?_append_right (by simp;omega),List.length_take,Nat.min_eq_left (by omega),List.getElem?_append_left (by omega)]
 congr 1;omega
theorem splice_out (A vs:List Value) (o k:Nat) (hl:o+vs.length<=A.length) (hk:k < o\/o+vs.length<=k):(A.take o++vs++A.drop (o+vs.length))[k]?=A[k]?:=by
 rcases hk with hk|hk
 ·rw[List.append_assoc,List.getElem?_append_left (by simp;omega),List.getElem?_take,if_pos hk]
 ·rw[List.getElem?_append_right (by simp;omega),List.getElem?_drop]
  congr 1
  simp
  omega
theorem splice_length (A vs:List Value) (o:Nat) (hl:o+vs.length<=A.length):(A.take o++vs++A.drop (o+vs.length)).length=A.length:=by
 simp;omega
end
end Go.Proofs.YtbicafgmfgdckaaDoor
namespace Go.Proofs.YtbicafgmfgdckaaDoor
open Go Go.RowKit Go.Conc Go.Conc.Lib Go.ConcR.Gen
open Go.ConcR (KK wgBlock WgAt stA smA rd wr mk DC0)
open Go.ConcN (sumTo upd upd_same upd_ne RelBy PermW WgLive)
def Snap (i:Nat) (p:Ph) (γ:Gho) (Hw:World):Prop:=∀b o v,Hw.cell? ⟨b,o,none⟩=some v->γ.F i b/\p.H b=Hw.heap[b]?
structure SumsIn (p:Ph) (Hw:World) (LB OB:Nat) (rows:List (List (BitVec 8))):Prop where
 n:p.n=rows.length
 small:p.n<=1000
 rws:∃lb lo lc,(rows≠[]->Hw.cell? ⟨LB,0,none⟩=some (.slice (some ⟨lb,lo,none⟩) p.n lc))/\∀x row,rows[x]?=some row->row.length<=1048576/\∃ra rc,Hw.cell? ⟨lb,lo+x,none⟩=some (.slice ra row.length rc)/\Reads Hw ra rc row/\∀ad,ra=some ad->∃o v,Hw.cell? ⟨ad.block,o,none⟩=some v
 ob:rows≠[]->∃oc,Hw.cell? ⟨OB,0,none⟩=some (.slice (some ⟨p.out,0,none⟩) p.n oc)
 k:KTab Hw
 val:∀x row o,rows[x]?=some row->o < 32->p.val x o=U8 (byteAt (Sha.sum row) o)
 oty:p.oty=39
section
variable {top:Nat} {γ γ' γ2:Gho} {p:Ph} {w w' w2:World} {i j k n:Nat} {Post:Value->World->Prop} {es:Array Event} {g g':Goroutine} {Hw:World} {LB OB:Nat}
theorem Snap.keeps {ty:TypeId} (s:Snap i p γ Hw) (hI:GInv ty top γ2 w2) (hp:γ2.ph=some p) (hk:Kw i γ γ2):Keeps Hw w2:=by
 rintro⟨b,o,sp⟩ v h
 cases sp with
 | some sp =>
  exfalso
  unfold World.cell? at h
  cases hb:Hw.heap[b]? with
  | none=>simp[hb] at h
  | some ob=>cases ob<;>simp[hb] at h
 | none =>
  obtain⟨hF,hH⟩:=s b o v h
  have hF2:=hk.F hF
  obtain⟨q1,m,_,q2⟩:=hF2
  have e:=(hI.core _ hp).fix b m q1 q2
  unfold World.cell? at h ⊢
  rw[e,hH]
  exact h
theorem cells_of {w:World} {b o:Nat} {v:Value} (h:w.cell? ⟨b,o,none⟩=some v):∃cs t fr,w.heap[b]?=some (.cells cs t fr):=by
 unfold World.cell? at h
 cases hb:w.heap[b]? with
 | none=>simp[hb] at h
 | some ob=>cases ob<;>simp[hb] at h;exact⟨_,_,_,rfl⟩
def SumAt (p:Ph) (LBX OBX i x:Nat) (row:List (BitVec 8)) (oc lb lo lc:Nat) (ra:Option Addr) (rc:Nat) (γ0:Gho) (m:Nat) (listed:Array Bool) (T:Array Value) (γ:Gho) (_:World):Prop :=
 ∃b0 b1 b2 b3 b4 b5 b6 b7 b8:Bool,∃t5 t6 t7 t8 t9 t10 t11 t12:Value,listed=#[b0,b1,b2,b3,b4,b5,b6,b7,b8]/\m=(if b0 then 0 else 1)+(if b1 then 0 else 1)+(if b2 then 0 else 1)+(if b3 then 0 else 1)+(if b4 then 0 else 1)+(if b5 then 0 else 1)+(if b6 then 0 else 1)+(if b7 then 0 else 1)+(if b8 then 0 else 1)/\T=#[.int .i64 (x:Int),.pointer (some ⟨LBX,0,none⟩),.pointer (some ⟨OBX,0,none⟩),undef,.bool false,t5,t6,t7,t8,t9,t10,t11,t12] /\
 (b0=true->t5=(Value.slice (some ⟨p.out,0,none⟩) p.n oc))/\(b1=true->t6=(Value.int .i64 (x:Int)))/\(b2=true->t7=(Value.slice (some ⟨lb,lo,none⟩) p.n lc))/\(b3=true->t8=(Value.int .i64 (x:Int)))/\(b4=true->t9=(Value.pointer (some ⟨lb,lo+x,none⟩)))/\(b5=true->t10=(Value.slice ra row.length rc))/\(b6=true->t11=(Value.agg ((Sha.sum row).map U8).toArray))/\(b7=true->t12=(Value.pointer (some ⟨p.out,x * 32,none⟩))) /\
 γ.ph=some p/\γ.deaf i=0/\γ.tag i=(if b8 then .idle else .busy x)/\Kw i γ0 γ
noncomputable def jobOps:Array Oper:=match (match Tryd.f20.body with|some (.seq _ (.seq (.region _ ops _) _))=>some ops|_=>none) with|some ops=>ops|none=>#[]
theorem ready_job:∀b0 b1 b2 b3 b4 b5 b6 b7 b8:Bool,Region.ready .any jobOps #[b0,b1,b2,b3,b4,b5,b6,b7,b8]=[]->(b0&&b1&&b2&&b3&&b4&&b5&&b6&&b7&&b8)=true:=by decide +kernel
set_option maxRecDepth 100000 in
set_option maxHeartbeats 8000000 in
theorem sums_job {rows:List (List (BitVec 8))} (hS:Snap i p γ Hw) (hIn:SumsIn p Hw LB OB rows) (hkd:p.kind=.fill) (hbi:p.b<=i) (hi0:i≠0) (hgl:Tryd.prog.globals.size<=γ.hs):Job p top Post i γ w 20 #[.pointer (some ⟨LB,0,none⟩),.pointer (some ⟨OB,0,none⟩)]:=by
 intro x γ1 w1 c cs fn cd hff hfb hkp hp ht hd _ hxn hI hK _
 rw[Tryd.func20] at hff
 obtain rfl:=Option.some.inj hff
 obtain rfl:(Tryd.f20.body.getD .skip)=cd:=by rw[hfb];rfl
 clear hff hfb
 obtain⟨row,hrow⟩:∃row,rows[x]?=some row:=⟨rows[x]'(by rw[<- hIn.n];exact hxn),by simp⟩
 have hne:rows≠[]:=fun e=>by rw[e] at hrow;simp at hrow
 obtain⟨oc,hob⟩:=hIn.ob hne
 obtain⟨lb,lo,lc,hlb,hr⟩:=hIn.rws
 replace hlb:=hlb hne
 obtain⟨hlen,ra,rc,hrw,hrd,hra⟩:=hr x row hrow
 clear hr
 have hsm:=hIn.small
 have hidx:(0:Int)<=(x:Int)/\(x:Int) < (p.n:Int):=⟨by omega,by omega⟩
 have hg:γ1.tag i≠.gone:=by rw[ht];simp
 have hs:¬(γ1.tag i).tied:=by rw[ht];exact fun h=>h
 simp only[Tryd.f20,Option.getD_some]
 walk_nrm;refine lsq hg ?_;refine lrg hg ?_;simp only[ix,Nat.reduceAdd];refine lop hg rfl rfl (by k_ne) fun v W H=>?_;go_simp;refine H _ _ rfl (by simp[go_sem]) ?_;clear H W v;(try walk_nrm);refine len hg ?_;refine lsq hg ?_
 refine lives_draw (by kernel_rfl) hs fun t=>?_
 refine lives_any (SumAt p LB OB i x row oc lb lo lc ra rc γ1) (fun listed T γ w h=>?_) (fun m listed T γ w h=>?_) (fun m listed T γ w h l hl rest hnext=>?_) _ _ _ _ _ _ ⟨_,_,_,_,_,_,_,_,_,_,_,_,_,_,_,_,_,rfl,rfl,rfl,nofun,nofun,nofun,nofun,nofun,nofun,nofun,nofun,hp,hd,ht,.refl _ _⟩
 ·obtain⟨b0,b1,b2,b3,b4,b5,b6,b7,b8,t5,t6,t7,t8,t9,t10,t11,t12,rfl,hm,rfl,h0,h1,h2,h3,h4,h5,h6,h7,hp2,hd2,ht2,hk2⟩:=h
  obtain rfl:b8=true:=by cases b8 with
   | true=>rfl
   | false=>simp at hm
  clear hm h0 h1 h2 h3 h4 h5 h6 h7 hg hs
  have hg:γ.tag i≠.gone:=by rw[ht2];simp
  refine len hg ?_;refine lsq hg ?_;refine lrg hg ?_;simp only[ix,Nat.reduceAdd];refine lop hg rfl rfl (by k_ne) fun v W H=>?_;go_simp;refine H _ _ rfl (by simp[go_sem]) ?_;clear H W v;(try walk_nrm);refine len hg ?_
  refine lives_ctl rfl hg (fun _=>stepG_ret') ?_
  refine lives_ctl rfl hg (fun w2=>stepG_leave (v:=.bool true) rfl rfl Tryd.func20 (by kernel_rfl) (by kernel_rfl)) ?_
  exact hK γ w hk2 hp2 (by simpa using ht2) hd2
 ·obtain⟨b0,b1,b2,b3,b4,b5,b6,b7,b8,t5,t6,t7,t8,t9,t10,t11,t12,rfl,hm,rfl,h0,h1,h2,h3,h4,h5,h6,h7,hp2,hd2,ht2,hk2⟩:=h
  intro hr
  have:=ready_job _ _ _ _ _ _ _ _ _ hr
  simp only[Bool.and_eq_true] at this
  obtain⟨⟨⟨⟨⟨⟨⟨⟨rfl,rfl⟩,rfl⟩,rfl⟩,rfl⟩,rfl⟩,rfl⟩,rfl⟩,rfl⟩:=this
  simp at hm
 ·obtain⟨b0,b1,b2,b3,b4,b5,b6,b7,b8,t5,t6,t7,t8,t9,t10,t11,t12,rfl,hm,rfl,h0,h1,h2,h3,h4,h5,h6,h7,hp2,hd2,ht2,hk2⟩:=h
  clear hg hs ht hp hd hI
  have hg:γ.tag i≠.gone:=by rw[ht2];split<;>simp
  have hs:¬(γ.tag i).tied:=by rw[ht2];split<;>exact fun h=>h
  have hkk:=hkp.trans hk2
  unfold Region.ready at hl
  obtain⟨hl1,hl2⟩:=List.mem_filter.1 hl
  have hl3:l < 9:=by simpa using hl1
  have hl4:l=0\/l=1\/l=2\/l=3\/l=4\/l=5\/l=6\/l=7\/l=8:=by omega
  clear hl hl1 hl3
  rcases hl4 with rfl|rfl|rfl|rfl|rfl|rfl|rfl|rfl|rfl
  ·-- operation 0
   have hb:b0=false:=by simpa [Region.binds] using hl2
   obtain rfl:=hb
   have hFix:=hkk.F (hS _ _ _ hob).1
   refine lives_read rfl hs (fun γV wV hrl hIV=>?_)
   have hcell:wV.cell? ⟨OB,0,none⟩=some (.slice (some ⟨p.out,0,none⟩) p.n oc):=(hS.keeps hIV ((hrl.live hg).ph _ ⟨hp2,.inl hi0⟩) (hkk.trans (hrl.live hg).kw)) _ _ hob
   refine goes_oper_k rfl rfl (by k_ne) (fun W hW=>?_)
   go_simp
   refine hW _ _ ⟨⟨rfl,fun e he=>?_⟩,?_⟩
   ·have hm:=mem_listed he
    simp[go_sem,hcell] at hm
    subst hm
    exact .inl ⟨_,rfl,rfl,.inr ⟨(hrl.live hg).kw.F hFix,rfl⟩⟩
   clear hW hcell;clear W;clear hrl hIV;clear γV wV;try walk_nrm
   exact hnext _ _ _ ⟨_,_,_,_,_,_,_,_,_,_,_,_,_,_,_,_,_,rfl,(by simp only[Bool.false_eq_true,if_false,if_true] at hm ⊢;omega),rfl,(fun _=>rfl),h1,h2,h3,h4,h5,h6,h7,hp2,hd2,ht2,hk2⟩
  ·-- operation 1
   have hb:b1=false:=by simpa [Region.binds] using hl2
   obtain rfl:=hb
   refine lop hg rfl rfl (by k_ne) fun v W H=>?_;go_simp;refine H _ _ rfl (by simp[go_sem]) ?_;clear H W v;try walk_nrm
   exact hnext _ _ _ ⟨_,_,_,_,_,_,_,_,_,_,_,_,_,_,_,_,_,rfl,(by simp only[Bool.false_eq_true,if_false,if_true] at hm ⊢;omega),rfl,h0,(fun _=>rfl),h2,h3,h4,h5,h6,h7,hp2,hd2,ht2,hk2⟩
  ·-- operation 2
   have hb:b2=false:=by simpa [Region.binds] using hl2
   obtain rfl:=hb
   have hFix:=hkk.F (hS _ _ _ hlb).1
   refine lives_read rfl hs (fun γV wV hrl hIV=>?_)
   have hcell:wV.cell? ⟨LB,0,none⟩=some (.slice (some ⟨lb,lo,none⟩) p.n lc):=(hS.keeps hIV ((hrl.live hg).ph _ ⟨hp2,.inl hi0⟩) (hkk.trans (hrl.live hg).kw)) _ _ hlb
   refine goes_oper_k rfl rfl (by k_ne) (fun W hW=>?_)
   go_simp
   refine hW _ _ ⟨⟨rfl,fun e he=>?_⟩,?_⟩
   ·have hm:=mem_listed he
    simp[go_sem,hcell] at hm
    subst hm
    exact .inl ⟨_,rfl,rfl,.inr ⟨(hrl.live hg).kw.F hFix,rfl⟩⟩
   clear hW hcell;clear W;clear hrl hIV;clear γV wV;try walk_nrm
   exact hnext _ _ _ ⟨_,_,_,_,_,_,_,_,_,_,_,_,_,_,_,_,_,rfl,(by simp only[Bool.false_eq_true,if_false,if_true] at hm ⊢;omega),rfl,h0,h1,(fun _=>rfl),h3,h4,h5,h6,h7,hp2,hd2,ht2,hk2⟩
  ·-- operation 3
   have hb:b3=false:=by simpa [Region.binds] using hl2
   obtain rfl:=hb
   refine lop hg rfl rfl (by k_ne) fun v W H=>?_;go_simp;refine H _ _ rfl (by simp[go_sem]) ?_;clear H W v;try walk_nrm
   exact hnext _ _ _ ⟨_,_,_,_,_,_,_,_,_,_,_,_,_,_,_,_,_,rfl,(by simp only[Bool.false_eq_true,if_false,if_true] at hm ⊢;omega),rfl,h0,h1,h2,(fun _=>rfl),h4,h5,h6,h7,hp2,hd2,ht2,hk2⟩
  ·-- operation 4
   have hb:b4=false/\b2=true/\b3=true:=by simpa [Region.binds] using hl2
   obtain⟨rfl,rfl,rfl⟩:=hb
   obtain rfl:=h2 rfl
   obtain rfl:=h3 rfl
   refine lop hg rfl rfl (by k_ne) fun v W H=>?_;go_simp;refine H _ _ rfl (by simp[go_sem];exact events_indexAt_slice _ _ _ _ _ _ (by kernel_rfl) hidx) ?_;clear H W v;try walk_nrm
   exact hnext _ _ _ ⟨_,_,_,_,_,_,_,_,_,_,_,_,_,_,_,_,_,rfl,(by simp only[Bool.false_eq_true,if_false,if_true] at hm ⊢;omega),rfl,h0,h1,(fun _=>rfl),(fun _=>rfl),(fun _=>rfl),h5,h6,h7,hp2,hd2,ht2,hk2⟩
  ·-- operation 5
   have hb:b5=false/\b4=true:=by simpa [Region.binds] using hl2
   obtain⟨rfl,rfl⟩:=hb
   obtain rfl:=h4 rfl
   have hFix:=hkk.F (hS _ _ _ hrw).1
   refine lives_read rfl hs (fun γV wV hrl hIV=>?_)
   have hcell:wV.cell? ⟨lb,lo+x,none⟩=some (.slice ra row.length rc):=(hS.keeps hIV ((hrl.live hg).ph _ ⟨hp2,.inl hi0⟩) (hkk.trans (hrl.live hg).kw)) _ _ hrw
   refine goes_oper_k rfl rfl (by k_ne) (fun W hW=>?_)
   go_simp
   refine hW _ _ ⟨⟨rfl,fun e he=>?_⟩,?_⟩
   ·have hm:=mem_listed he
    simp[go_sem,hcell] at hm
    subst hm
    exact .inl ⟨_,rfl,rfl,.inr ⟨(hrl.live hg).kw.F hFix,rfl⟩⟩
   clear hW hcell;clear W;clear hrl hIV;clear γV wV;try walk_nrm
   exact hnext _ _ _ ⟨_,_,_,_,_,_,_,_,_,_,_,_,_,_,_,_,_,rfl,(by simp only[Bool.false_eq_true,if_false,if_true] at hm ⊢;omega),rfl,h0,h1,h2,h3,(fun _=>rfl),(fun _=>rfl),h6,h7,hp2,hd2,ht2,hk2⟩
  ·-- operation 6
   have hb:b6=false/\b5=true:=by simpa [Region.binds] using hl2
   obtain⟨rfl,rfl⟩:=hb
   obtain rfl:=h5 rfl
   refine lives_step rfl hg fun γ2 w2 hrl hI hi=>?_
   have l2:=hrl.live hg
   have hp3:=l2.ph _ ⟨hp2,.inl hi0⟩
   have hk3:=hkk.trans l2.kw
   have kp:=hS.keeps hI hp3 hk3
   have hs3:¬(γ2.tag i).tied:=by rw[hrl.tag];exact hs
   refine .go _ w2 #[] γ2 (stepG_callE (vs:=#[.slice ra row.length rc]) rfl rfl (by k_ne) rfl (by simp[Act.eval]) Tryd.func21 (by kernel_rfl) (by rfl)) (do_idle hI hi _) ?_
   refine lives_way (way_sha (F:=γ2.F i) (S:=γ2.S i) (fun b hb=>by rw[<- hI.hs];exact hb.1) (by rw[<- hI.hs];exact Nat.le_trans hgl hk3.hs) (hIn.k.keeps kp) (hk3.F (hS _ _ _ (hIn.k 0 (by decide))).1) (hrd.keeps kp) hlen (fun ad e=>?_)) γ2 rfl hI.hs (fun b hb=>hb) hs3 fun S' g' w' γ' hx hS' hs' e=>?_
   ·obtain⟨o,v,hv⟩:=hra ad e
    exact⟨hk3.F (hS _ _ _ hv).1,cells_of (kp _ _ hv)⟩
   ·subst e
    rw[Frame.finish_at];walk_nrm
    exact hnext _ _ _ ⟨_,_,_,_,_,_,_,_,_,_,_,_,_,_,_,_,_,rfl,(by simp only[Bool.false_eq_true,if_false,if_true] at hm ⊢;omega),rfl,h0,h1,h2,h3,h4,(fun _=>rfl),(fun _=>rfl),h7,hx.ph _ ⟨hp3,.inl hi0⟩,hx.deaf.trans (hrl.deaf.trans hd2),hx.tag.trans (hrl.tag.trans ht2),hk2.trans (l2.kw.trans hx.kw)⟩
  ·-- operation 7
   have hb:b7=false/\b0=true/\b1=true/\b0=true/\b1=true/\b2=true/\b3=true/\b4=true/\b5=true/\b6=true:=by simpa [Region.binds] using hl2
   obtain⟨rfl,rfl,rfl,-,-,rfl,rfl,rfl,rfl,rfl⟩:=hb
   obtain rfl:=h0 rfl
   obtain rfl:=h1 rfl
   obtain rfl:=h2 rfl
   obtain rfl:=h3 rfl
   obtain rfl:=h4 rfl
   obtain rfl:=h5 rfl
   obtain rfl:=h6 rfl
   refine lop hg rfl rfl (by k_ne) fun v W H=>?_;go_simp;refine H _ _ rfl (by simp[go_sem];exact events_indexAt_slice _ _ _ _ _ _ (by kernel_rfl) hidx) ?_;clear H W v;try walk_nrm
   exact hnext _ _ _ ⟨_,_,_,_,_,_,_,_,_,_,_,_,_,_,_,_,_,rfl,(by simp only[Bool.false_eq_true,if_false,if_true] at hm ⊢;omega),rfl,(fun _=>rfl),(fun _=>rfl),(fun _=>rfl),(fun _=>rfl),(fun _=>rfl),(fun _=>rfl),(fun _=>rfl),(fun _=>rfl),hp2,hd2,ht2,hk2⟩
  ·-- operation 8
   have hb:b8=false/\b7=true/\b6=true/\b0=true/\b1=true/\b2=true/\b3=true/\b4=true/\b5=true/\b6=true:=by simpa [Region.binds] using hl2
   obtain⟨rfl,rfl,rfl,rfl,rfl,rfl,rfl,rfl,rfl,-⟩:=hb
   obtain rfl:=h0 rfl
   obtain rfl:=h1 rfl
   obtain rfl:=h2 rfl
   obtain rfl:=h3 rfl
   obtain rfl:=h4 rfl
   obtain rfl:=h5 rfl
   obtain rfl:=h6 rfl
   obtain rfl:=h7 rfl
   have ht3:γ.tag i=.busy x:=by simpa using ht2
   refine lives_step rfl hg fun γ2 w2 hrl hI hi=>?_
   have l2:=hrl.live hg
   have hp3:=l2.ph _ ⟨hp2,.inl hi0⟩
   have hC:=hI.core _ hp3
   obtain⟨cur,hcur,hcs,_⟩:=(hC.fill hkd).out
   have hvl:((Sha.sum row).map U8).length=32:=by rw[List.length_map,sum_length]
   have hfit:x * 32+((Sha.sum row).map U8).length<=cur.size:=by rw[hvl,hcs];omega
   have hv1:∀v∈(Sha.sum row).map U8,v.oneCell'=true:=fun v hv=>by obtain⟨y,_,rfl⟩:=List.mem_map.1 hv;rfl
   have hinf:(Tryd.prog.info? 39).map (·.size)=some ((Sha.sum row).map U8).length:=by rw[hvl];kernel_rfl
   have hvg:∀o,o < 32->((Sha.sum row).map U8)[o]?=some (p.val x o):=fun o ho=>by
    rw[hIn.val x row o hrow ho,byteAt_lt (by rw[sum_length];exact ho),List.getElem?_map,List.getElem?_eq_getElem (by rw[sum_length];exact ho)]
    rfl
   have hPut:PutsAt p x w2 (w2.setRow p.out (cur.toList.take (x * 32)++(Sha.sum row).map U8++cur.toList.drop (x * 32+((Sha.sum row).map U8).length)).toArray):=by
    refine⟨by simp[World.setRow],rfl,.of rfl rfl,fun b hb=>setRow_other _ _ _ _ hb,fun cs' hcs'=>?_⟩
    rw[hcur] at hcs'
    injection hcs' with hcs'
    injection hcs' with hcs'
    subst hcs'
    have hfit':x * 32+((Sha.sum row).map U8).length<=cur.toList.length:=by simpa using hfit
    refine⟨_,setRow_heap _ _ _ _ _ _ hcur,by simpa using splice_length _ _ _ hfit',fun o ho=>?_,fun k hk=>?_⟩
    ·rw[List.getElem?_toArray,show 32 * x+o=x * 32+o by omega,splice_in _ _ _ _ hfit' (by rw[hvl];exact ho)]
     exact hvg o ho
    ·rw[List.getElem?_toArray,splice_out _ _ _ _ hfit' (by rw[hvl];omega)]
     simp
   refine .go _ (w2.setRow p.out (cur.toList.take (x * 32)++(Sha.sum row).map U8++cur.toList.drop (x * 32+((Sha.sum row).map U8).length)).toArray) _ (γ2.put i x) (stepG_none rfl rfl (by k_ne) (exec_store_row (P:=Tryd.prog) rfl rfl rfl hinf hcur hfit hv1).1) (do_put hI hp3 hkd hbi hi (hrl.tag.trans ht3) (hrl.deaf.trans hd2) hPut (fun e he=>?_) _) ?_
   ·obtain⟨j,hj,rfl⟩:=(exec_store_row (P:=Tryd.prog) rfl rfl rfl hinf hcur hfit hv1).2 e (mem_listed he)
    rw[hvl] at hj
    exact⟨_,rfl,rfl,by show (x * 32+j) / 32=x;omega⟩
   ·exact hnext _ _ _ ⟨_,_,_,_,_,_,_,_,_,_,_,_,_,_,_,_,_,rfl,(by simp only[Bool.false_eq_true,if_false,if_true] at hm ⊢;omega),rfl,(fun _=>rfl),(fun _=>rfl),(fun _=>rfl),(fun _=>rfl),(fun _=>rfl),(fun _=>rfl),(fun _=>rfl),(fun _=>rfl),hp3,hrl.deaf.trans hd2,upd_same _ _ _,hk2.trans (l2.kw.trans (kw_put _ _ _))⟩
end
end Go.Proofs.YtbicafgmfgdckaaDoor
namespace Go.Proofs.YtbicafgmfgdckaaDoor
open Go
theorem info_id:∃i,Tryd.prog.info? 39=some i/\(∃z,i.zero=some z)/\i.size=32/\i.bytes=32:=by
 have h:(Tryd.prog.info? 39).map (fun i=>(i.size,i.bytes,i.zero.isSome))=some (32,32,true):=by kernel_rfl
 cases hi:Tryd.prog.info? 39 with
 | none=>rw[hi] at h;cases h
 | some i =>
  rw[hi] at h
  simp only[Option.map_some,Option.some.injEq,Prod.mk.injEq] at h
  exact⟨i,rfl,Option.isSome_iff_exists.1 h.2.2,h.1,h.2.1⟩
theorem make_run (n:Nat) (hn:n<=1000):∃Z:Array Value,Z.size=n * 32/\∀w,(Instr.makeSlice 23 (.int .i64 n) (.int .i64 n)).run Tryd.prog w=.ok (.slice (some ⟨w.heap.size,0,none⟩) n n) (w.alloc (.cells Z 39)):=by
 have hu:Tryd.prog.underlying 23=some (.slice 39):=by kernel_rfl
 obtain⟨i,hi,hz,hs,hb⟩:=info_id
 obtain⟨z,hz⟩:=hz
 have:=fun w=>run_makeSlice (P:=Tryd.prog) (w:=w) 23 39 i z hu hi hz .i64 .i64 n n (by omega) (by omega) (by rw[hs];omega) (by rw[hb];omega) (by omega)
 refine⟨_,?_,fun w=>by simpa using this w⟩
 simp[madeCells,hs]
theorem make_ev (n:Nat) (hn:n<=1000) (w:World):(Instr.makeSlice 23 (.int .i64 n) (.int .i64 n)).events Tryd.prog w #[]=#[]:=by
 have hu:Tryd.prog.underlying 23=some (.slice 39):=by kernel_rfl
 obtain⟨i,hi,hz,hs,hb⟩:=info_id
 obtain⟨z,hz⟩:=hz
 have hw:IntKind.i64.wrap (n:Int)=n:=by rw[IntKind.wrap_i64];omega
 have n1:¬(n:Int) < 0:=by omega
 have n2:¬(281474976710656 < (32:Int) * n):=by omega
 have n3:¬(roomBytes < n * 32):=by show ¬(_ < n * 32);unfold roomBytes;omega
 unfold Instr.makeSlice
 simp[run_underlying hu,asInt,asIntOf,typeInfo,hi,hb,hs,hw,n1,n2,n3,askRoom,sizeOf,zeroValue,hz,newRow]
end Go.Proofs.YtbicafgmfgdckaaDoor
namespace Go.Proofs.YtbicafgmfgdckaaDoor
open Go Go.RowKit Go.Conc
section
variable {top:Nat} {γ γ' γ2:Gho} {p:Ph} {w w' w2:World} {i b o out:Nat} {v:Value}
def snapW (γ:Gho) (out:Nat) (w:World):World:={ w with heap:=w.heap.mapIdx fun b o=>if γ.bk b=.priv 0/\b≠out then o else .cells #[] 0 }
theorem snap_get (b:Nat):(snapW γ out w).heap[b]?=(w.heap[b]?).map fun o=>if γ.bk b=.priv 0/\b≠out then o else .cells #[] 0:=by simp[snapW]
theorem snap_of (h:γ.bk b=.priv 0) (hne:b≠out):(snapW γ out w).heap[b]?=w.heap[b]?:=by
 rw[snap_get]
 simp[h,hne]
theorem snap_cell_of (h:γ.bk b=.priv 0) (hne:b≠out) (hc:w.cell? ⟨b,o,none⟩=some v):(snapW γ out w).cell? ⟨b,o,none⟩=some v:=by
 unfold World.cell? at hc ⊢
 rw[snap_of h hne]
 exact hc
theorem snap_cell (h:(snapW γ out w).cell? ⟨b,o,none⟩=some v):γ.bk b=.priv 0/\b≠out/\b < w.heap.size/\w.cell? ⟨b,o,none⟩=some v:=by
 unfold World.cell? at h ⊢
 rw[snap_get] at h
 cases hb:w.heap[b]? with
 | none=>rw[hb] at h;cases h
 | some ob =>
  rw[hb] at h
  have hlt:b < w.heap.size:=(Array.getElem?_eq_some_iff.1 hb).1
  by_cases hc:γ.bk b=.priv 0/\b≠out
  ·simp only[Option.map_some,if_pos hc] at h
   exact⟨hc.1,hc.2,hlt,h⟩
  ·simp only[Option.map_some,if_neg hc] at h
   simp at h
theorem snap_snap (hs:γ.hs=w.heap.size) (h:∀b,b < γ.hs->γ.bk b=.priv 0->b≠out->γ'.F i b/\p.H b=w.heap[b]?):Snap i p γ' (snapW γ out w):=fun b o v hc=>by
 obtain⟨h1,h2,h3,_⟩:=snap_cell hc
 obtain⟨h4,h5⟩:=h b (by omega) h1 h2
 exact⟨h4,by rw[h5,snap_of h1 h2]⟩
theorem snap_keeps {out':Nat} (hl:∀b,b < γ.hs->γ'.bk b=γ.bk b) (hs:γ.hs=w.heap.size) (hh:∀b,b < γ.hs->w'.heap[b]?=w.heap[b]?) (ho:γ.hs<=out'):Keeps (snapW γ out w) (snapW γ' out' w'):=by
 rintro⟨b,o,sp⟩ v h
 cases sp with
 | some sp =>
  exfalso
  unfold World.cell? at h
  cases hb:(snapW γ out w).heap[b]? with
  | none=>simp[hb] at h
  | some ob=>cases ob<;>simp[hb] at h
 | none =>
  obtain⟨h1,h2,h3,h4⟩:=snap_cell h
  have hlt:b < γ.hs:=by omega
  refine snap_cell_of ((hl b hlt).trans h1) (by omega) ?_
  unfold World.cell? at h4 ⊢
  rw[hh b hlt]
  exact h4
end
end Go.Proofs.YtbicafgmfgdckaaDoor
namespace Go.Proofs.YtbicafgmfgdckaaDoor
open Go Go.RowKit Go.Conc Go.Conc.Lib Go.ConcR.Gen
open Go.ConcR (KK wgBlock WgAt stA smA rd wr mk DC0)
open Go.ConcN (sumTo upd upd_same upd_ne RelBy PermW WgLive)
section
variable {top:Nat} {γ γ' γ2:Gho} {p:Ph} {w w' w2:World} {i j k n:Nat} {Post:Value->World->Prop} {es:Array Event} {g g':Goroutine}
set_option maxRecDepth 100000 in
set_option maxHeartbeats 4000000 in
theorem lives_right {m:Int} {c:Frame} {cs:List Frame} (hg:γ.tag i≠.gone) (hK:LV Tryd.prog wgLink.tWg top Post i γ w (G (c.finish (.bool (decide (1<=m)&&decide (m<=16)))) cs)) :
  LV Tryd.prog wgLink.tWg top Post i γ w (G ((base 18).at ⟨#[.int .i64 m]++Array.replicate 8 undef,[]⟩ [.code (Tryd.f18.body.getD .skip)]) (c::cs)):=by
 simp only[Tryd.f18,Option.getD_some]
 walk_nrm;refine lsq hg ?_;refine lrg hg ?_;simp only[ix,Nat.reduceAdd];refine lop hg rfl rfl (by k_ne) fun v W H=>?_;go_simp;refine H _ _ rfl (by simp[go_sem]) ?_;clear H W v;(try walk_nrm);refine len hg ?_;refine lsq hg ?_;refine lrg hg ?_;simp only[ix,Nat.reduceAdd];(iterate 3 (refine lop hg rfl rfl (by k_ne) fun v W H=>?_;go_simp;refine H _ _ rfl (by simp[go_sem]) ?_;clear H W v;try walk_nrm))
 by_cases h1:1<=m
 ·simp only[h1,decide_true,ge_iff_le,Bool.true_and] at hK ⊢
  (iterate 4 (refine lop hg rfl rfl (by k_ne) fun v W H=>?_;go_simp;refine H _ _ rfl (by simp[go_sem]) ?_;clear H W v;try walk_nrm));refine len hg ?_
  refine lives_ctl rfl hg (fun _=>stepG_ret') ?_
  refine lives_ctl rfl hg (fun _=>stepG_leave (v:=.bool (decide (m<=16))) rfl rfl Tryd.func18 (by kernel_rfl) (by kernel_rfl)) ?_
  exact hK
 ·simp only[h1,decide_false,ge_iff_le,Bool.false_and] at hK ⊢
  refine lun hg rfl rfl ?_;(try walk_nrm);refine lun hg rfl rfl ?_;(try walk_nrm);(iterate 2 (refine lop hg rfl rfl (by k_ne) fun v W H=>?_;go_simp;refine H _ _ rfl (by simp[go_sem]) ?_;clear H W v;try walk_nrm));refine len hg ?_
  refine lives_ctl rfl hg (fun _=>stepG_ret') ?_
  refine lives_ctl rfl hg (fun _=>stepG_leave (v:=.bool false) rfl rfl Tryd.func18 (by kernel_rfl) (by kernel_rfl)) ?_
  exact hK
structure RowsMem (Hw:World) (la:Option Addr) (n:Nat) (rows:List (List (BitVec 8))):Prop where
 n:n=rows.length
 rws:∃lb lo,(rows≠[]->la=some ⟨lb,lo,none⟩)/\∀x row,rows[x]?=some row->row.length<=1048576/\∃ra rc,Hw.cell? ⟨lb,lo+x,none⟩=some (.slice ra row.length rc)/\Reads Hw ra rc row/\∀ad,ra=some ad->∃o v,Hw.cell? ⟨ad.block,o,none⟩=some v
 k:KTab Hw
theorem RowsMem.keeps {Hw Hw':World} {la:Option Addr} {rows:List (List (BitVec 8))} (h:RowsMem Hw la n rows) (k:Keeps Hw Hw'):RowsMem Hw' la n rows:=by
 obtain⟨h1,⟨lb,lo,h2,h3⟩,h4⟩:=h
 refine⟨h1,⟨lb,lo,h2,fun x row hx=>?_⟩,h4.keeps k⟩
 obtain⟨a1,ra,rc,a2,a3,a4⟩:=h3 x row hx
 exact⟨a1,ra,rc,k _ _ a2,a3.keeps k,fun ad e=>let ⟨o,v,q⟩:=a4 ad e;⟨o,v,k _ _ q⟩⟩
def sumVal (rows:List (List (BitVec 8))) (x o:Nat):Value:=U8 (byteAt (Sha.sum (rows.getD x [])) o)
theorem sums_in {p:Ph} {Hw:World} {la:Option Addr} {lc:Nat} {rows:List (List (BitVec 8))} {LB OB:Nat} (h:RowsMem Hw la n rows) (hpn:p.n=n) (hn:n<=1000) (hv:p.val=sumVal rows) (ho:p.oty=39)
  (hlb:Hw.cell? ⟨LB,0,none⟩=some (.slice la n lc)) (hob:Hw.cell? ⟨OB,0,none⟩=some (.slice (some ⟨p.out,0,none⟩) n n)):SumsIn p Hw LB OB rows:=by
 obtain⟨h1,⟨lb,lo,h2,h3⟩,h4⟩:=h
 refine⟨hpn.trans h1,by omega,⟨lb,lo,lc,fun q=>by rw[hlb,h2 q,hpn],h3⟩,fun _=>⟨n,by rw[hob,hpn]⟩,h4,fun x row o hx _=>?_,ho⟩
 rw[hv]
 unfold sumVal
 rw[List.getD_eq_getElem?_getD,hx]
 rfl
set_option maxRecDepth 100000 in
set_option maxHeartbeats 8000000 in
theorem lives_sums {m:Int} {la:Option Addr} {lc:Nat} {c:Frame} {cs:List Frame} {rows:List (List (BitVec 8))} (s0:Solo γ w) (hn:n<=1000) (hmem:RowsMem (snapW γ γ.hs w) la n rows) (hgl:Tryd.prog.globals.size<=γ.hs) (hcnt:γ.cnt+16<=top)
  (hGood:∀W0:Nat,m=W0->1<=W0->W0<=16->∀γ' w' out,Solo γ' w'->γ.hs<=out->out < γ'.hs->γ'.bk out=.priv 0->γ'.cnt=γ.cnt+W0->(∀b,b < γ.hs->γ'.bk b=γ.bk b)->(∀b,b < γ.hs->γ.bk b=.priv 0->w'.heap[b]?=w.heap[b]?)->w'.tape=w.tape ->
   (∃cells,w'.heap[out]?=some (.cells cells 39 (0,0))/\cells.size=32 * n/\∀x,x < n->∀o,o < 32->cells[32 * x+o]?=some (sumVal rows x o))->LV Tryd.prog wgLink.tWg top Post 0 γ' w' (G (c.finish (.tuple #[.slice (some ⟨out,0,none⟩) n n,.int .i64 0])) cs))
  (hBad:¬(1<=m/\m<=16)->∀γ' w',Solo γ' w'->Later2 γ γ'->(∀b,b < γ.hs->w'.heap[b]?=w.heap[b]?)->w'.tape=w.tape->LV Tryd.prog wgLink.tWg top Post 0 γ' w' (G (c.finish (.tuple #[.slice none 0 0,.int .i64 2])) cs)) :
  LV Tryd.prog wgLink.tWg top Post 0 γ w (G ((base 6).at ⟨#[.slice la n lc,.int .i64 m]++Array.replicate 17 undef,[]⟩ [.code (Tryd.f6.body.getD .skip)]) (c::cs)):=by
 have hg:γ.tag 0≠.gone:=s0.ng
 simp only[Tryd.f6,Option.getD_some]
 walk_nrm;refine lsq hg ?_;refine lrg hg ?_;simp only[ix,Nat.reduceAdd]
 refine solo_goes s0 rfl fun wV eV eT=>?_
 refine goes_oper_k rfl rfl (by k_ne) (fun W hW=>?_)
 go_simp
 refine hW _ _ ⟨own_push (w:=wV) rfl rfl rfl rfl (no_listed (by simp[go_sem])),fun γ1 w1 h1 t1 s1 l1 b1=>?_⟩
 replace h1:w1.heap=(w.heap).push (Obj.cells #[Value.slice la n lc] 22):=by rw[h1];show wV.heap.push _=_;rw[eV];try rfl
 replace t1:w1.tape=w.tape:=t1.trans eT
 replace b1:γ1.bk (w.heap.size)=.priv 0:=b1 _ (by rw[s0.hs];simp[Nat.add_assoc]) (by show _ < (wV.heap.push _).size;rw[eV];simp[Nat.add_assoc])
 clear hW;clear W eV eT;clear wV
 have hg:γ1.tag 0≠.gone:=s1.ng
 (try walk_nrm);(iterate 2 (refine lop hg rfl rfl (by k_ne) fun v W H=>?_;go_simp;refine H _ _ rfl (by simp[go_sem]) ?_;clear H W v;try walk_nrm));refine len hg ?_;refine lsq hg ?_;refine lsq hg ?_;refine lrg hg ?_;simp only[ix,Nat.reduceAdd];refine lop hg rfl rfl (by k_ne) fun v W H=>?_;go_simp;refine H _ _ rfl (by simp[go_sem]) ?_;clear H W v;try walk_nrm
 refine lives_ctl rfl hg (fun _=>stepG_callv (first:=#[]) (caps:=#[]) (vs:=#[.int .i64 m]) rfl rfl (by k_ne) rfl rfl (by simp[Act.eval]) Tryd.func18 (by kernel_rfl) rfl) ?_
 refine lives_right hg ?_
 rw[Frame.finish_at];walk_nrm;refine lop hg rfl rfl (by k_ne) fun v W H=>?_;go_simp;refine H _ _ rfl (by simp[go_sem]) ?_;clear H W v;(try walk_nrm);refine len hg ?_
 by_cases hm:1<=m/\m<=16
 ·have hmb:(!decide (1<=m)||!decide (m<=16))=false:=by simp[hm.1,hm.2]
  simp only[hmb]
  refine lcf hg rfl ?_;refine lsk hg ?_;refine lsq hg ?_;refine lrg hg ?_;simp only[ix,Nat.reduceAdd]
  have H1:w1.heap[w.heap.size]?=some (.cells #[.slice la n lc] 22 (0,0)):=by rw[h1,Array.getElem?_push];simp
  have hS1:γ1.S 0 w.heap.size:=⟨by rw[s1.hs,h1];simp,b1⟩
  refine lives_read rfl s1.ns (fun γV wV hrl hIV=>?_)
  have hcell:wV.cell? ⟨w.heap.size,0,none⟩=some (.slice la n lc):=by rw[World.cell?,(s1.rel hrl).2.1];simp[H1]
  refine goes_oper_k rfl rfl (by k_ne) (fun W hW=>?_)
  go_simp
  refine hW _ _ ⟨⟨rfl,fun e he=>?_⟩,?_⟩
  ·have hm:=mem_listed he
   simp[go_sem,hcell] at hm
   subst hm
   exact .inl ⟨_,rfl,rfl,.inl (by rw[hrl.S s1.ng];exact hS1)⟩
  clear hW hcell;clear W;clear hrl hIV;clear γV wV;(try walk_nrm);refine lop hg rfl rfl (by k_ne) fun v W H=>?_;go_simp;refine H _ _ rfl (by simp[go_sem]) ?_;clear H W v;try walk_nrm
  obtain⟨Z,hZ,hmk⟩:=make_run n hn
  refine solo_goes s1 rfl fun wV eV eT=>?_
  refine goes_oper_k rfl rfl (by k_ne) (fun W hW=>?_)
  have hmkV:=hmk wV
  go_simp
  refine hW _ _ ⟨own_push (w:=wV) rfl rfl rfl rfl (no_listed (by simp[go_sem];exact make_ev n hn _)),fun γ2 w2 h2 t2 s2 l2 b2=>?_⟩
  replace h2:w2.heap=(w.heap.push (Obj.cells #[Value.slice la n lc] 22)).push (Obj.cells Z 39):=by rw[h2];show wV.heap.push _=_;rw[eV,h1];try rfl
  replace t2:w2.tape=w1.tape:=t2.trans eT
  replace b2:γ2.bk (w.heap.size+1)=.priv 0:=b2 _ (by rw[s1.hs,h1];simp[Nat.add_assoc]) (by show _ < (wV.heap.push _).size;rw[eV,h1];simp[Nat.add_assoc])
  clear hW hmkV;clear W eV eT;clear wV
  rw[t1] at t2
  have m2:=l2
  replace l2:=l1.trans l2
  have hg:γ2.tag 0≠.gone:=s2.ng
  try walk_nrm
  refine solo_goes s2 rfl fun wV eV eT=>?_
  refine goes_oper_k rfl rfl (by k_ne) (fun W hW=>?_)
  go_simp
  refine hW _ _ ⟨own_push (w:=wV) rfl rfl rfl rfl (no_listed (by simp[go_sem])),fun γ3 w3 h3 t3 s3 l3 b3=>?_⟩
  replace h3:w3.heap=((w.heap.push (Obj.cells #[Value.slice la n lc] 22)).push (Obj.cells Z 39)).push (Obj.cells #[Value.slice none 0 0] 23):=by rw[h3];show wV.heap.push _=_;rw[eV,h2];try rfl
  replace t3:w3.tape=w2.tape:=t3.trans eT
  replace b3:γ3.bk (w.heap.size+2)=.priv 0:=b3 _ (by rw[s2.hs,h2];simp[Nat.add_assoc]) (by show _ < (wV.heap.push _).size;rw[eV,h2];simp[Nat.add_assoc])
  clear hW;clear W eV eT;clear wV
  rw[t2] at t3
  have m3:=l3
  replace l3:=l2.trans l3
  have hg:γ3.tag 0≠.gone:=s3.ng
  try walk_nrm
  have H3:w3.heap[w.heap.size+1+1]?=some (.cells #[Value.slice none 0 0] 23 (0,0)):=by rw[h3,Array.getElem?_push];simp
  have hS3:γ3.S 0 (w.heap.size+1+1):=⟨by rw[s3.hs,h3];simp,b3⟩
  refine solo_goes s3 rfl fun wV eV eT=>?_
  refine goes_oper_k rfl rfl (by k_ne) (fun W hW=>?_)
  have hcell:wV.cell? ⟨w.heap.size+1+1,0,none⟩=some (Value.slice none 0 0):=by simp[World.cell?,eV,H3]
  have hfro:wV.frozen? ⟨w.heap.size+1+1,0,none⟩=false:=by simp[World.frozen?,eV,H3]
  go_simp
  refine hW _ _ ⟨own_set wV _ _ hS3 (fun e he=>by have hm:=mem_listed he;simp[go_sem,hcell,hfro] at hm;first|exact hm | (rw[events_store _ _ _ _ _ _ rfl,hcell] at hm;simp[hfro] at hm;exact hm)),fun γ4 w4 h4 t4 s4 l4 bX=>?_⟩
  replace h4:w4.heap=((w.heap.push (Obj.cells #[Value.slice la n lc] 22)).push (Obj.cells Z 39)).push (.cells #[Value.slice (some ⟨w.heap.size+1,0,none⟩) n n] 23):=by
   have hq:=heap_set_last (w:=wV) (v:=Value.slice (some ⟨w.heap.size+1,0,none⟩) n n) (A:=(w.heap.push (Obj.cells #[Value.slice la n lc] 22)).push (Obj.cells Z 39)) (u:=Value.slice none 0 0) (t:=23) (by rw[eV,h3])
   simp only[Array.size_push] at hq
   rw[h4];exact hq
  replace t4:w4.tape=w3.tape:=t4.trans eT
  clear hW bX;clear W hcell hfro eV eT;clear wV
  rw[t3] at t4
  have b4:γ4.bk (w.heap.size+2)=.priv 0:=(l4.bk _ hS3.1).trans b3
  have m4:=l4
  replace l4:=l3.trans l4
  have hg:γ4.tag 0≠.gone:=s4.ng
  (try walk_nrm);refine len hg ?_;refine lsq hg ?_;refine lrg hg ?_;simp only[ix,Nat.reduceAdd]
  have hs0:=s0.hs
  have H4:w4.heap[w.heap.size]?=some (.cells #[.slice la n lc] 22 (0,0)):=by
   rw[h4]
   simp only[Array.getElem?_push,Array.size_push]
   repeat (first|rw[if_neg (by omega)] | rw[if_pos (by omega)])
   try simp
  have H4o:w4.heap[w.heap.size+2]?=some (.cells #[.slice (some ⟨w.heap.size+1,0,none⟩) n n] 23 (0,0)):=by
   rw[h4]
   simp only[Array.getElem?_push,Array.size_push]
   repeat (first|rw[if_neg (by omega)] | rw[if_pos (by omega)])
   try simp
  have H4z:w4.heap[w.heap.size+1]?=some (.cells Z 39 (0,0)):=by
   rw[h4]
   simp only[Array.getElem?_push,Array.size_push]
   repeat (first|rw[if_neg (by omega)] | rw[if_pos (by omega)])
   try simp
  have old4:∀b,b < w.heap.size->w4.heap[b]?=w.heap[b]?:=fun b hb=>by
   rw[h4]
   simp only[Array.getElem?_push,Array.size_push]
   repeat rw[if_neg (by omega)]
  have hs4:γ4.hs=w.heap.size+3:=by rw[s4.hs,h4];simp
  have d0:γ4.bk w.heap.size=.priv 0:=((m2.trans (m3.trans m4)).bk _ hS1.1).trans b1
  have d1:γ4.bk (w.heap.size+1)=.priv 0:=((m3.trans m4).bk _ (by rw[s2.hs,h2];simp)).trans b2
  have hS4:γ4.S 0 w.heap.size:=⟨by omega,d0⟩
  refine lives_read rfl s4.ns (fun γV wV hrl hIV=>?_)
  have hcell:wV.cell? ⟨w.heap.size,0,none⟩=some (.slice la n lc):=by rw[World.cell?,(s4.rel hrl).2.1];simp[H4]
  refine goes_oper_k rfl rfl (by k_ne) (fun W hW=>?_)
  go_simp
  refine hW _ _ ⟨⟨rfl,fun e he=>?_⟩,?_⟩
  ·have hm:=mem_listed he
   simp[go_sem,hcell] at hm
   subst hm
   exact .inl ⟨_,rfl,rfl,.inl (by rw[hrl.S s4.ng];exact hS4)⟩
  clear hW hcell;clear W;clear hrl hIV;clear γV wV;(try walk_nrm);(iterate 3 (refine lop hg rfl rfl (by k_ne) fun v W H=>?_;go_simp;refine H _ _ rfl (by simp[go_sem]) ?_;clear H W v;try walk_nrm))
  obtain⟨W0,hW0⟩:∃W0:Nat,m=W0:=⟨m.toNat,by omega⟩
  subst hW0
  have l4':Later2 γ γ4:=l4
  refine lives_ctl rfl hg (fun _=>stepG_callv (first:=#[]) (caps:=#[]) (vs:=#[.int .i64 n,.int .i64 W0,.func (.func 20) #[] #[.pointer (some ⟨w.heap.size,0,none⟩),.pointer (some ⟨w.heap.size+1+1,0,none⟩)]]) rfl rfl (by k_ne) rfl rfl (by simp[Act.eval]) Tryd.func19 (by kernel_rfl) rfl) ?_
  refine lives_each (out:=w.heap.size+1) (oty:=39) (val:=sumVal rows) s4 Tryd.func20 rfl (by kernel_rfl) hn (by omega) (by omega) (by rw[l4'.cnt];omega) ⟨by omega,d1⟩ ⟨Z,H4z,by rw[hZ];omega⟩ (fun p γ' w' i hbi hi0 hpn hpo hoty hval hkd hfix hhs=>?_) (fun γ9 w9 s9 e1 e2 e3 e4 e5 e6=>?_)
  ·refine sums_job (Hw:=snapW γ4 (w.heap.size+1) w4) (rows:=rows) (snap_snap s4.hs hfix) (sums_in (lc:=lc) (hmem.keeps (snap_keeps l4'.bk hs0 (fun b hb=>old4 b (by omega)) (by omega))) hpn hn hval hoty ?_ ?_) hkd hbi hi0 (by omega)
   ·refine snap_cell_of d0 (by omega) ?_
    simp[World.cell?,H4]
   ·rw[hpo]
    refine snap_cell_of (b:=w.heap.size+2) b4 (by omega) ?_
    simp[World.cell?,H4o]
  ·have H9:w9.heap[w.heap.size+1+1]?=some (.cells #[.slice (some ⟨w.heap.size+1,0,none⟩) n n] 23 (0,0)):=(e4 (w.heap.size+2) (by omega) b4 (by omega)).trans H4o
   have hS9:γ9.S 0 (w.heap.size+1+1):=⟨by omega,(e3 (w.heap.size+2) (by omega)).trans b4⟩
   rw[Frame.finish_at];clear hg
   have hg:γ9.tag 0≠.gone:=s9.ng
   walk_nrm;refine len hg ?_;refine lsq hg ?_;refine lrg hg ?_;simp only[ix,Nat.reduceAdd]
   refine lives_read rfl s9.ns (fun γV wV hrl hIV=>?_)
   have hcell:wV.cell? ⟨w.heap.size+1+1,0,none⟩=some (.slice (some ⟨w.heap.size+1,0,none⟩) n n):=by rw[World.cell?,(s9.rel hrl).2.1];simp[H9]
   refine goes_oper_k rfl rfl (by k_ne) (fun W hW=>?_)
   go_simp
   refine hW _ _ ⟨⟨rfl,fun e he=>?_⟩,?_⟩
   ·have hm:=mem_listed he
    simp[go_sem,hcell] at hm
    subst hm
    exact .inl ⟨_,rfl,rfl,.inl (by rw[hrl.S s9.ng];exact hS9)⟩
   clear hW hcell;clear W;clear hrl hIV;clear γV wV;(try walk_nrm);(iterate 2 (refine lop hg rfl rfl (by k_ne) fun v W H=>?_;go_simp;refine H _ _ rfl (by simp[go_sem]) ?_;clear H W v;try walk_nrm));refine len hg ?_
   refine lives_ctl rfl hg (fun _=>stepG_ret') ?_
   refine lives_ctl rfl hg (fun _=>stepG_leave (v:=.tuple #[.slice (some ⟨w.heap.size+1,0,none⟩) n n,.int .i64 0]) rfl rfl Tryd.func6 (by kernel_rfl) (by kernel_rfl)) ?_
   refine hGood W0 rfl (by omega) (by omega) γ9 w9 (w.heap.size+1) s9 (by omega) (by omega) ((e3 (w.heap.size+1) (by omega)).trans d1) (by rw[e2,l4'.cnt]) (fun b hb=>?_) (fun b hb hpv=>?_) (e5.trans t4) e6
   ·exact(e3 b (by have:=l4'.hs;omega)).trans (l4'.bk b hb)
   ·exact(e4 b (by have:=l4'.hs;omega) ((l4'.bk b hb).trans hpv) (by omega)).trans (old4 b (by omega))
 ·have hmb:(!decide (1<=m)||!decide (m<=16))=true:=by
   by_cases h1:1<=m
   ·have h2:¬m<=16:=fun h2=>hm ⟨h1,h2⟩
    simp[h2]
   ·simp[h1]
  simp only[hmb]
  refine lct hg rfl ?_;refine lsq hg ?_;refine lrg hg ?_;simp only[ix,Nat.reduceAdd];(iterate 2 (refine lop hg rfl rfl (by k_ne) fun v W H=>?_;go_simp;refine H _ _ rfl (by simp[go_sem]) ?_;clear H W v;try walk_nrm));refine len hg ?_
  refine lives_ctl rfl hg (fun _=>stepG_ret') ?_
  refine lives_ctl rfl hg (fun _=>stepG_leave (v:=.tuple #[.slice none 0 0,.int .i64 2]) rfl rfl Tryd.func6 (by kernel_rfl) (by kernel_rfl)) ?_
  exact hBad hm γ1 w1 s1 l1 (fun b hb=>by rw[h1,Array.getElem?_push,if_neg (by have:=s0.hs;omega)]) t1
end
end Go.Proofs.YtbicafgmfgdckaaDoor
namespace Go.Proofs.YtbicafgmfgdckaaDoor
open Go Go.RowKit

section
variable {P:Program} {ops:Array Oper} {rest:List Oper} {o:Oper} {a:Act} {w:World} {Q:Exit->Act->World->Prop}
end
theorem rangeAt_touch {F:Nat->Prop} {w w':World} (h:Touch F w w') {b o:Nat} {cs:List Value} (hr:w.rangeAt b o cs) (hn:¬F b):w'.rangeAt b o cs:=fun j v hv=>h.cell (hr j v hv) hn
theorem rangeAt_row {w:World} {g:Nat} {cs:Array Value} {t:TypeId} {fr:Nat × Nat} (h:w.heap[g]?=some (.cells cs t fr)):w.rangeAt g 0 cs.toList:=fun j v hv=>by
 rw[cell_of_row w g (0+j) cs t fr h,Nat.zero_add]
 simpa using hv
end Go.Proofs.YtbicafgmfgdckaaDoor
namespace Go.Proofs.YtbicafgmfgdckaaDoor
open Go Go.RowKit

theorem quiet_mid_of {P:Program} {C:World->Prop} {o:Oper} {a:Act} {K:Act->Prop} {ty:TypeId} {x:Operand} {b f:Nat} {cs:List Value} {d:TypeDesc}
  (hc:∀w',C w'->w'.rangeAt b f cs) (hu:P.underlying ty=some d) (hd:d.isRow=true) (hi:(P.info? ty).map (·.size)=some cs.length)
  (ho:o.op=.load ty x) (hx:a.eval x=.pointer (some ⟨b,f,none⟩)) (hk:K (a.put o.dst (.agg cs.toArray))):o.quiet P a C K:=by
 refine⟨.agg cs.toArray,?_,hk⟩
 intro w' hw'
 unfold Oper.quietAt execOp
 simp only[ho,hx,Instr.loadAt,Instr.sureAddr,Sem.run_bind,Sem.run_pure,Result.andThen_ok,run_loadVar_mid w' b f ty cs d (hc w' hw') hu hd hi]
 exact⟨rfl,rfl⟩
end Go.Proofs.YtbicafgmfgdckaaDoor
