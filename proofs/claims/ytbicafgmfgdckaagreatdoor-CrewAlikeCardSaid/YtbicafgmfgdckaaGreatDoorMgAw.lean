/- A piece. -/
import Derived.Test.YtbicafgmfgdckaaGreatDoorMgAv
import Derived.Test.YtbicafgmfgdckaaGreatDoorMgAu
set_option maxRecDepth 100000
set_option maxHeartbeats 16000000
set_option linter.all false
namespace Go.Proofs.YtbicafgmfgdckaaGreatDoor
open Go.Proofs.Tryz
open Go Go.Conc
section
variable {P:Program}
theorem N3 (g o:Nat) (t:TypeId):∀(vs:List Value) (i:Nat) (cur:Array Value) (w:World) (es:Array Event),w.heap[g]?=some (.cells cur t (0,0))->o+i+vs.length<=cur.size->(∀v∈vs,v.oneCell'=true) ->
  ∀ev∈(storeCells ⟨g,o,none⟩ vs i).events P w es,ev∈es\/∃j,j < vs.length/\ev=⟨.cell ⟨g,o+i+j,none⟩,true,false⟩
 | [],_,_,_,_,_,_,_=>fun ev h=>.inl (by simpa [storeCells] using h)
 | v::rest,i,cur,w,es,hg,hl,h1=>fun ev h=>by
  have hi:o+i < cur.size:=by simp at hl;omega
  have hadd:(⟨g,o,none⟩:Addr).add i=⟨g,o+i,none⟩:=by unfold Addr.add;split<;>simp_all
  have hcell:w.cell? ⟨g,o+i,none⟩=some cur[o+i]:=by simp[World.cell?,hg,hi]
  have hfro:w.frozen? ⟨g,o+i,none⟩=false:=by simp[World.frozen?,hg]
  have hst:(store ((⟨g,o,none⟩:Addr).add i) v).run P w=.ok () (w.setRow g (cur.setIfInBounds (o+i) v)):=by
   rw[hadd,run_store P w _ v _ (h1 v (by simp)),hcell];simp[hfro,setCell_eq_setRow w g (o+i) cur t (0,0) v hg]
  have hev:(store ((⟨g,o,none⟩:Addr).add i) v).events P w es=es.push ⟨.cell ⟨g,o+i,none⟩,true,false⟩:=by
   rw[hadd,events_store P w es _ v _ (h1 v (by simp)),hcell];simp only[hfro,Bool.false_eq_true,if_false];rfl
  simp only[storeCells,Sem.events_bind,hst,Result.evThen_ok,hev] at h;rcases N3 g o t rest (i+1) (cur.setIfInBounds (o+i) v) (w.setRow g (cur.setIfInBounds (o+i) v)) _ (setRow_heap w g cur _ t _ hg) (by simp at hl ⊢;omega) (fun x hx=>h1 x (by simp[hx])) ev h with h|⟨j,hj,h⟩
  ·rcases Array.mem_push.1 h with h|rfl
   ·exact .inl h
   ·exact .inr ⟨0,by simp,rfl⟩
  ·exact .inr ⟨j+1,by simp;omega,by rw[h,show o+(i+1)+j=o+i+(j+1) by omega]⟩
theorem Gg {a:Act} {op:Oper} {ty t:TypeId} {x y:Operand} {g o:Nat} {vs:List Value} {cur:Array Value} {w:World} (ho:op.op=.store ty x y) (hx:a.eval x=.pointer (some ⟨g,o,none⟩)) (hy:a.eval y=.agg vs.toArray)
  (hi:(P.info? ty).map (·.size)=some vs.length) (hg:w.heap[g]?=some (.cells cur t (0,0))) (hl:o+vs.length<=cur.size) (h1:∀v∈vs,v.oneCell'=true) :
  (execOp a.eval op).run P w=.ok .skip (w.setRow g (cur.toList.take o++vs++cur.toList.drop (o+vs.length)).toArray)/\∀ev∈(execOp a.eval op).events P w #[],∃j,j < vs.length/\ev=⟨.cell ⟨g,o+j,none⟩,true,false⟩:=by
 have hsz:∀w,(sizeOf ty).run P w=.ok vs.length w:=fun w=>by
  cases hq:P.info? ty with
  | none=>simp[hq] at hi
  | some i =>
   simp[hq] at hi;simp[sizeOf,typeInfo,hq,hi]
 have hse:∀w es,(sizeOf ty).events P w es=es:=fun w es=>by simp
 have hr:=run_storeCells_at (P:=P) g o t vs 0 cur w hg (by omega) h1;have he:=N3 (P:=P) g o t vs 0 cur w #[] hg (by omega) h1;have hc:(Value.agg vs.toArray).cells=vs.toArray:=rfl;constructor
 ·unfold execOp;simp only[ho,hx,hy,Instr.storeAt,Instr.sureAddr,storeVar,hc,Sem.run_bind,Sem.run_pure,Result.andThen_ok,hsz,List.size_toArray,ne_eq,not_true_eq_false,if_false,hr];simp
 ·intro ev h;unfold execOp at h;simp only[ho,hx,hy,Instr.storeAt,Instr.sureAddr,storeVar,hc,Sem.events_bind,Sem.events_pure,Sem.run_bind,Sem.run_pure,Result.andThen_ok,Result.evThen_ok,hsz,hse,List.size_toArray,ne_eq,not_true_eq_false,if_false,hr] at h;rcases he ev (by simpa using h) with h|⟨j,hj,h⟩
  ·simp at h
  ·exact⟨j,hj,by simpa using h⟩
theorem Ai3 (A vs:List Value) (o j:Nat) (hl:o+vs.length<=A.length) (hj:j < vs.length):(A.take o++vs++A.drop (o+vs.length))[o+j]?=vs[j]?:=by
 rw[List.append_assoc,List.getElem?_append_right (by simp;omega),List.length_take,Nat.min_eq_left (by omega),List.getElem?_append_left (by omega)]
 congr 1;omega
theorem Afh (A vs:List Value) (o k:Nat) (hl:o+vs.length<=A.length) (hk:k < o\/o+vs.length<=k):(A.take o++vs++A.drop (o+vs.length))[k]?=A[k]?:=by
 rcases hk with hk|hk
 ·rw[List.append_assoc,List.getElem?_append_left (by simp;omega),List.getElem?_take,if_pos hk]
 ·rw[List.getElem?_append_right (by simp;omega),List.getElem?_drop]
  congr 1
  simp;omega
theorem Yr (A vs:List Value) (o:Nat) (hl:o+vs.length<=A.length):(A.take o++vs++A.drop (o+vs.length)).length=A.length:=by
 simp;omega
end
open Go.RowKit Go.Conc.Lib Go.ConcR.Gen
open Go.ConcR (KK wgBlock WgAt stA smA rd wr mk DC0)
open Go.ConcN (sumTo upd upd_same upd_ne RelBy PermW WgLive)
def Alf (i:Nat) (p:Ph) (I:Ab) (Hw:World):Prop:=∀b o v,Hw.cell? ⟨b,o,none⟩=some v->I.F i b/\p.H b=Hw.heap[b]?
structure Apq (p:Ph) (Hw:World) (LB OB:Nat) (rows:List (List (BitVec 8))):Prop where
 n:p.n=rows.length
 small:p.n<=1000
 rws:∃lb lo lc,(rows≠[]->Hw.cell? ⟨LB,0,none⟩=some (.slice (some ⟨lb,lo,none⟩) p.n lc))/\∀x row,rows[x]?=some row->row.length<=1048576/\∃ra rc,Hw.cell? ⟨lb,lo+x,none⟩=some (.slice ra row.length rc)/\A0 Hw ra rc row/\∀ad,ra=some ad->∃o v,Hw.cell? ⟨ad.block,o,none⟩=some v
 ob:rows≠[]->∃oc,Hw.cell? ⟨OB,0,none⟩=some (.slice (some ⟨p.out,0,none⟩) p.n oc)
 k:C2 Hw
 val:∀x row o,rows[x]?=some row->o < 32->p.val x o=U8 (Ad (Sha.sum row) o)
 oty:p.oty=40
section
variable {top:Nat} {I I' I2:Ab} {p:Ph} {w w' w2:World} {i j k n:Nat} {Post:Value->World->Prop} {es:Array Event} {g g':Goroutine} {Hw:World} {LB OB:Nat}
theorem Alf.keeps {ty:TypeId} (s:Alf i p I Hw) (hI:Ae ty top I2 w2) (hp:I2.ph=some p) (hk:Kw i I I2):Bm Hw w2:=by
 rintro⟨b,o,sp⟩ v h;cases sp with
 | some sp =>
  exfalso;unfold World.cell? at h;cases hb:Hw.heap[b]? with
  | none=>simp[hb] at h
  | some ob=>cases ob<;>simp[hb] at h
 | none =>
  obtain⟨hF,hH⟩:=s b o v h;have hF2:=hk.F hF;obtain⟨q1,m,_,q2⟩:=hF2;have e:=(hI.core _ hp).fix b m q1 q2;unfold World.cell? at h ⊢;rw[e,hH];exact h
theorem He {w:World} {b o:Nat} {v:Value} (h:w.cell? ⟨b,o,none⟩=some v):∃cs t fr,w.heap[b]?=some (.cells cs t fr):=by
 unfold World.cell? at h;cases hb:w.heap[b]? with
 | none=>simp[hb] at h
 | some ob=>cases ob<;>simp[hb] at h;exact⟨_,_,_,rfl⟩
def Ava (p:Ph) (LBX OBX i x:Nat) (row:List (BitVec 8)) (oc lb lo lc:Nat) (ra:Option Addr) (rc:Nat) (I0:Ab) (m:Nat) (listed:Array Bool) (T:Array Value) (I:Ab) (_:World):Prop :=
 ∃b0 b1 b2 b3 b4 b5 b6 b7 b8:Bool,∃t5 t6 t7 t8 t9 t10 t11 t12:Value,listed=#[b0,b1,b2,b3,b4,b5,b6,b7,b8]/\m=(if b0 then 0 else 1)+(if b1 then 0 else 1)+(if b2 then 0 else 1)+(if b3 then 0 else 1)+(if b4 then 0 else 1)+(if b5 then 0 else 1)+(if b6 then 0 else 1)+(if b7 then 0 else 1)+(if b8 then 0 else 1)/\T=#[.int .i64 (x:Int),.pointer (some ⟨LBX,0,none⟩),.pointer (some ⟨OBX,0,none⟩),undef,.bool false,t5,t6,t7,t8,t9,t10,t11,t12] /\
 (b0=true->t5=(Value.slice (some ⟨p.out,0,none⟩) p.n oc))/\(b1=true->t6=(Value.int .i64 (x:Int)))/\(b2=true->t7=(Value.slice (some ⟨lb,lo,none⟩) p.n lc))/\(b3=true->t8=(Value.int .i64 (x:Int)))/\(b4=true->t9=(Value.pointer (some ⟨lb,lo+x,none⟩)))/\(b5=true->t10=(Value.slice ra row.length rc))/\(b6=true->t11=(Value.agg ((Sha.sum row).map U8).toArray))/\(b7=true->t12=(Value.pointer (some ⟨p.out,x * 32,none⟩))) /\
 I.ph=some p/\I.deaf i=0/\I.tag i=(if b8 then .idle else .busy x)/\Kw i I0 I
noncomputable def At7:Array Oper:=match (match Tryz.f31.body with|some (.seq _ (.seq (.region _ ops _) _))=>some ops|_=>none) with|some ops=>ops|none=>#[]
theorem Ajh:∀b0 b1 b2 b3 b4 b5 b6 b7 b8:Bool,Region.ready .any At7 #[b0,b1,b2,b3,b4,b5,b6,b7,b8]=[]->(b0&&b1&&b2&&b3&&b4&&b5&&b6&&b7&&b8)=true:=by decide +kernel
theorem Amm {rows:List (List (BitVec 8))} (hS:Alf i p I Hw) (hIn:Apq p Hw LB OB rows) (ie:p.kind=.fill) (m7:p.b<=i) (hi0:i≠0) (hgl:prog.globals.size<=I.hs):Job p top Post i I w 31 #[.pointer (some ⟨LB,0,none⟩),.pointer (some ⟨OB,0,none⟩)]:=by
 intro x I1 w1 c cs fn cd fg gq ji hp ht hd _ ft hI hK _;rw[func31] at fg;obtain rfl:=Option.some.inj fg;obtain rfl:(Tryz.f31.body.getD .skip)=cd:=by rw[gq];rfl
 clear fg gq;obtain⟨row,hrow⟩:∃row,rows[x]?=some row:=⟨rows[x]'(by rw[<- hIn.n];exact ft),by simp⟩;have hne:rows≠[]:=fun e=>by rw[e] at hrow;simp at hrow
 obtain⟨oc,iz⟩:=hIn.ob hne;obtain⟨lb,lo,lc,hlb,hr⟩:=hIn.rws;replace hlb:=hlb hne;obtain⟨hlen,ra,rc,ur,r7,hra⟩:=hr x row hrow;clear hr;have hsm:=hIn.small;have li:(0:Int)<=(x:Int)/\(x:Int) < (p.n:Int):=⟨by omega,by omega⟩;have hg:I1.tag i≠.gone:=by rw[ht];simp
 have hs:¬(I1.tag i).tied:=by rw[ht];exact fun h=>h
 simp only[Tryz.f31,Option.getD_some]
 (try walk_nrm);refine Am (Au ?_);simp only[ix,Nat.reduceAdd];refine Ai fun v W H=>?_;go_simp;refine H _ ?_;clear H W v;(try walk_nrm);refine len (Am ?_)
 refine Oy (by kernel_rfl) hs fun t=>?_;refine Sv (Ava p LB OB i x row oc lb lo lc ra rc I1) (fun listed T I w h=>?_) (fun m listed T I w h=>?_) (fun m listed T I w h l hl rest ac=>?_) _ _ _ _ _ _ ⟨_,_,_,_,_,_,_,_,_,_,_,_,_,_,_,_,_,rfl,rfl,rfl,nofun,nofun,nofun,nofun,nofun,nofun,nofun,nofun,hp,hd,ht,.refl _ _⟩
 ·obtain⟨b0,b1,b2,b3,b4,b5,b6,b7,b8,t5,t6,t7,t8,t9,t10,t11,t12,rfl,hm,rfl,h0,h1,h2,h3,h4,h5,h6,h7,hp2,hd2,ht2,hk2⟩:=h;obtain rfl:b8=true:=by cases b8 with
   | true=>rfl
   | false=>simp at hm
  clear hm h0 h1 h2 h3 h4 h5 h6 h7 hg hs;have hg:I.tag i≠.gone:=by rw[ht2];simp
  refine len (Am (Au ?_));simp only[ix,Nat.reduceAdd];refine Ai fun v W H=>?_;go_simp;refine H _ ?_;clear H W v;(try walk_nrm);refine len ?_;refine Bz (fun _=>stepG_ret') ?_;refine Ak rfl hg (fun w2=>stepG_leave (v:=.bool true) rfl rfl func31 (by kernel_rfl) (by kernel_rfl)) ?_;exact hK I w hk2 hp2 (by simpa using ht2) hd2
 ·obtain⟨b0,b1,b2,b3,b4,b5,b6,b7,b8,t5,t6,t7,t8,t9,t10,t11,t12,rfl,hm,rfl,h0,h1,h2,h3,h4,h5,h6,h7,hp2,hd2,ht2,hk2⟩:=h;intro hr;have:=Ajh _ _ _ _ _ _ _ _ _ hr;simp only[Bool.and_eq_true] at this;obtain⟨⟨⟨⟨⟨⟨⟨⟨rfl,rfl⟩,rfl⟩,rfl⟩,rfl⟩,rfl⟩,rfl⟩,rfl⟩,rfl⟩:=this;simp at hm
 ·obtain⟨b0,b1,b2,b3,b4,b5,b6,b7,b8,t5,t6,t7,t8,t9,t10,t11,t12,rfl,hm,rfl,h0,h1,h2,h3,h4,h5,h6,h7,hp2,hd2,ht2,hk2⟩:=h;clear hg hs ht hp hd hI;have hg:I.tag i≠.gone:=by rw[ht2];split<;>simp
  have hs:¬(I.tag i).tied:=by rw[ht2];split<;>exact fun h=>h
  have hkk:=ji.trans hk2;unfold Region.ready at hl;obtain⟨vg,hl2⟩:=List.mem_filter.1 hl;have av:l < 9:=by simpa using vg
  have hl4:l=0\/l=1\/l=2\/l=3\/l=4\/l=5\/l=6\/l=7\/l=8:=by omega
  clear hl vg av;rcases hl4 with rfl|rfl|rfl|rfl|rfl|rfl|rfl|rfl|rfl
  ·-- operation 0
   have hb:b0=false:=by simpa [Region.binds] using hl2
   obtain rfl:=hb;have ag:=hkk.F (hS _ _ _ iz).1;refine Yt (ad:=⟨OB,0,none⟩) (v:=.slice (some ⟨p.out,0,none⟩) p.n oc) hs (fun IV wV hrl au=>⟨(hS.keeps au ((hrl.live hg).ph _ ⟨hp2,.inl hi0⟩) (hkk.trans (hrl.live hg).kw)) _ _ iz,.inl ⟨_,rfl,rfl,.inr ⟨(hrl.live hg).kw.F ag,rfl⟩⟩⟩) fun v W hcell H=>?_;go_simp;refine H _ ?_ (by simp[go_sem,hcell]);clear H hcell W v;try walk_nrm
   exact ac _ _ _ ⟨_,_,_,_,_,_,_,_,_,_,_,_,_,_,_,_,_,rfl,(by simp only[Bool.false_eq_true,if_false,if_true] at hm ⊢;omega),rfl,(fun _=>rfl),h1,h2,h3,h4,h5,h6,h7,hp2,hd2,ht2,hk2⟩
  ·-- operation 1
   have hb:b1=false:=by simpa [Region.binds] using hl2
   obtain rfl:=hb;refine Ai fun v W H=>?_;go_simp;refine H _ ?_;clear H W v;try walk_nrm
   exact ac _ _ _ ⟨_,_,_,_,_,_,_,_,_,_,_,_,_,_,_,_,_,rfl,(by simp only[Bool.false_eq_true,if_false,if_true] at hm ⊢;omega),rfl,h0,(fun _=>rfl),h2,h3,h4,h5,h6,h7,hp2,hd2,ht2,hk2⟩
  ·-- operation 2
   have hb:b2=false:=by simpa [Region.binds] using hl2
   obtain rfl:=hb;have ag:=hkk.F (hS _ _ _ hlb).1;refine Yt (ad:=⟨LB,0,none⟩) (v:=.slice (some ⟨lb,lo,none⟩) p.n lc) hs (fun IV wV hrl au=>⟨(hS.keeps au ((hrl.live hg).ph _ ⟨hp2,.inl hi0⟩) (hkk.trans (hrl.live hg).kw)) _ _ hlb,.inl ⟨_,rfl,rfl,.inr ⟨(hrl.live hg).kw.F ag,rfl⟩⟩⟩) fun v W hcell H=>?_;go_simp;refine H _ ?_ (by simp[go_sem,hcell]);clear H hcell W v;try walk_nrm
   exact ac _ _ _ ⟨_,_,_,_,_,_,_,_,_,_,_,_,_,_,_,_,_,rfl,(by simp only[Bool.false_eq_true,if_false,if_true] at hm ⊢;omega),rfl,h0,h1,(fun _=>rfl),h3,h4,h5,h6,h7,hp2,hd2,ht2,hk2⟩
  ·-- operation 3
   have hb:b3=false:=by simpa [Region.binds] using hl2
   obtain rfl:=hb;refine Ai fun v W H=>?_;go_simp;refine H _ ?_;clear H W v;try walk_nrm
   exact ac _ _ _ ⟨_,_,_,_,_,_,_,_,_,_,_,_,_,_,_,_,_,rfl,(by simp only[Bool.false_eq_true,if_false,if_true] at hm ⊢;omega),rfl,h0,h1,h2,(fun _=>rfl),h4,h5,h6,h7,hp2,hd2,ht2,hk2⟩
  ·-- operation 4
   have hb:b4=false/\b2=true/\b3=true:=by simpa [Region.binds] using hl2
   obtain⟨rfl,rfl,rfl⟩:=hb;obtain rfl:=h2 rfl;obtain rfl:=h3 rfl;refine Ai fun v W H=>?_;go_simp;refine H _ ?_ (by simp[go_sem];exact events_indexAt_slice _ _ _ _ _ _ (by kernel_rfl) li);clear H W v;try walk_nrm
   exact ac _ _ _ ⟨_,_,_,_,_,_,_,_,_,_,_,_,_,_,_,_,_,rfl,(by simp only[Bool.false_eq_true,if_false,if_true] at hm ⊢;omega),rfl,h0,h1,(fun _=>rfl),(fun _=>rfl),(fun _=>rfl),h5,h6,h7,hp2,hd2,ht2,hk2⟩
  ·-- operation 5
   have hb:b5=false/\b4=true:=by simpa [Region.binds] using hl2
   obtain⟨rfl,rfl⟩:=hb;obtain rfl:=h4 rfl;have ag:=hkk.F (hS _ _ _ ur).1;refine Yt (ad:=⟨lb,lo+x,none⟩) (v:=.slice ra row.length rc) hs (fun IV wV hrl au=>⟨(hS.keeps au ((hrl.live hg).ph _ ⟨hp2,.inl hi0⟩) (hkk.trans (hrl.live hg).kw)) _ _ ur,.inl ⟨_,rfl,rfl,.inr ⟨(hrl.live hg).kw.F ag,rfl⟩⟩⟩) fun v W hcell H=>?_;go_simp;refine H _ ?_ (by simp[go_sem,hcell]);clear H hcell W v;try walk_nrm
   exact ac _ _ _ ⟨_,_,_,_,_,_,_,_,_,_,_,_,_,_,_,_,_,rfl,(by simp only[Bool.false_eq_true,if_false,if_true] at hm ⊢;omega),rfl,h0,h1,h2,h3,(fun _=>rfl),(fun _=>rfl),h6,h7,hp2,hd2,ht2,hk2⟩
  ·-- operation 6
   have hb:b6=false/\b5=true:=by simpa [Region.binds] using hl2
   obtain⟨rfl,rfl⟩:=hb;obtain rfl:=h5 rfl;refine An rfl hg fun I2 w2 hrl hI hi=>?_;have l2:=hrl.live hg;have ax:=l2.ph _ ⟨hp2,.inl hi0⟩;have hk3:=hkk.trans l2.kw;have kp:=hS.keeps hI ax hk3;have hs3:¬(I2.tag i).tied:=by rw[hrl.tag];exact hs
   refine .go _ w2 #[] I2 (Ea (vs:=#[.slice ra row.length rc]) rfl rfl (by k_ne) rfl (by simp[Act.eval]) func25 (by kernel_rfl) (by rfl)) (Fj hI hi _) ?_;refine Ss (Ahb (F:=I2.F i) (S:=I2.S i) (fun b hb=>by rw[<- hI.hs];exact hb.1) (by rw[<- hI.hs];exact Nat.le_trans hgl hk3.hs) (hIn.k.keeps kp) (hk3.F (hS _ _ _ (hIn.k 0 (by decide))).1) (r7.keeps kp) hlen (fun ad e=>?_)) I2 rfl hI.hs (fun b hb=>hb) hs3 fun S' g' w' I' hx dg hs' e=>?_
   ·obtain⟨o,v,hv⟩:=hra ad e;exact⟨hk3.F (hS _ _ _ hv).1,He (kp _ _ hv)⟩
   ·subst e;rw[Frame.finish_at];try walk_nrm
    exact ac _ _ _ ⟨_,_,_,_,_,_,_,_,_,_,_,_,_,_,_,_,_,rfl,(by simp only[Bool.false_eq_true,if_false,if_true] at hm ⊢;omega),rfl,h0,h1,h2,h3,h4,(fun _=>rfl),(fun _=>rfl),h7,hx.ph _ ⟨ax,.inl hi0⟩,hx.deaf.trans (hrl.deaf.trans hd2),hx.tag.trans (hrl.tag.trans ht2),hk2.trans (l2.kw.trans hx.kw)⟩
  ·-- operation 7
   have hb:b7=false/\b0=true/\b1=true/\b0=true/\b1=true/\b2=true/\b3=true/\b4=true/\b5=true/\b6=true:=by simpa [Region.binds] using hl2
   obtain⟨rfl,rfl,rfl,-,-,rfl,rfl,rfl,rfl,rfl⟩:=hb;obtain rfl:=h0 rfl;obtain rfl:=h1 rfl;obtain rfl:=h2 rfl;obtain rfl:=h3 rfl;obtain rfl:=h4 rfl;obtain rfl:=h5 rfl;obtain rfl:=h6 rfl;refine Ai fun v W H=>?_;go_simp;refine H _ ?_ (by simp[go_sem];exact events_indexAt_slice _ _ _ _ _ _ (by kernel_rfl) li);clear H W v;try walk_nrm
   exact ac _ _ _ ⟨_,_,_,_,_,_,_,_,_,_,_,_,_,_,_,_,_,rfl,(by simp only[Bool.false_eq_true,if_false,if_true] at hm ⊢;omega),rfl,(fun _=>rfl),(fun _=>rfl),(fun _=>rfl),(fun _=>rfl),(fun _=>rfl),(fun _=>rfl),(fun _=>rfl),(fun _=>rfl),hp2,hd2,ht2,hk2⟩
  ·-- operation 8
   have hb:b8=false/\b7=true/\b6=true/\b0=true/\b1=true/\b2=true/\b3=true/\b4=true/\b5=true/\b6=true:=by simpa [Region.binds] using hl2
   obtain⟨rfl,rfl,rfl,rfl,rfl,rfl,rfl,rfl,rfl,-⟩:=hb;obtain rfl:=h0 rfl;obtain rfl:=h1 rfl;obtain rfl:=h2 rfl;obtain rfl:=h3 rfl;obtain rfl:=h4 rfl;obtain rfl:=h5 rfl;obtain rfl:=h6 rfl;obtain rfl:=h7 rfl;have bg:I.tag i=.busy x:=by simpa using ht2
   refine An rfl hg fun I2 w2 hrl hI hi=>?_;have l2:=hrl.live hg;have ax:=l2.ph _ ⟨hp2,.inl hi0⟩;have hC:=hI.core _ ax;obtain⟨cur,j0,hcs,_⟩:=(hC.fill ie).out;have hvl:((Sha.sum row).map U8).length=32:=by rw[List.length_map,Cg]
   have hfit:x * 32+((Sha.sum row).map U8).length<=cur.size:=by rw[hvl,hcs];omega
   have hv1:∀v∈(Sha.sum row).map U8,v.oneCell'=true:=fun v hv=>by obtain⟨y,_,rfl⟩:=List.mem_map.1 hv;rfl
   have tj:(prog.info? 40).map (·.size)=some ((Sha.sum row).map U8).length:=by rw[hvl];kernel_rfl
   have hvg:∀o,o < 32->((Sha.sum row).map U8)[o]?=some (p.val x o):=fun o ho=>by
    rw[hIn.val x row o hrow ho,Cm (by rw[Cg];exact ho),List.getElem?_map,List.getElem?_eq_getElem (by rw[Cg];exact ho)];rfl
   have hPut:Apu p x w2 (w2.setRow p.out (cur.toList.take (x * 32)++(Sha.sum row).map U8++cur.toList.drop (x * 32+((Sha.sum row).map U8).length)).toArray):=by
    refine⟨by simp[World.setRow],rfl,.of rfl rfl,fun b hb=>setRow_other _ _ _ _ hb,fun cs' hcs'=>?_⟩;rw[j0] at hcs';injection hcs' with hcs';injection hcs' with hcs';subst hcs';have pu:x * 32+((Sha.sum row).map U8).length<=cur.toList.length:=by simpa using hfit
    refine⟨_,setRow_heap _ _ _ _ _ _ j0,by simpa using Yr _ _ _ pu,fun o ho=>?_,fun k hk=>?_⟩
    ·rw[List.getElem?_toArray,show 32 * x+o=x * 32+o by omega,Ai3 _ _ _ _ pu (by rw[hvl];exact ho)];exact hvg o ho
    ·rw[List.getElem?_toArray,Afh _ _ _ _ pu (by rw[hvl];omega)];simp
   refine .go _ (w2.setRow p.out (cur.toList.take (x * 32)++(Sha.sum row).map U8++cur.toList.drop (x * 32+((Sha.sum row).map U8).length)).toArray) _ (I2.put i x) (stepG_none rfl rfl (by k_ne) (Gg (P:=prog) rfl rfl rfl tj j0 hfit hv1).1) (Aua hI ax ie m7 hi (hrl.tag.trans bg) (hrl.deaf.trans hd2) hPut (fun e he=>?_) _) ?_
   ·obtain⟨j,hj,rfl⟩:=(Gg (P:=prog) rfl rfl rfl tj j0 hfit hv1).2 e (mem_listed he);rw[hvl] at hj;exact⟨_,rfl,rfl,by show (x * 32+j) / 32=x;omega⟩
   ·exact ac _ _ _ ⟨_,_,_,_,_,_,_,_,_,_,_,_,_,_,_,_,_,rfl,(by simp only[Bool.false_eq_true,if_false,if_true] at hm ⊢;omega),rfl,(fun _=>rfl),(fun _=>rfl),(fun _=>rfl),(fun _=>rfl),(fun _=>rfl),(fun _=>rfl),(fun _=>rfl),(fun _=>rfl),ax,hrl.deaf.trans hd2,upd_same _ _ _,hk2.trans (l2.kw.trans (At5 _ _ _))⟩
end
theorem Ahw:∃i,prog.info? 40=some i/\(∃z,i.zero=some z)/\i.size=32/\i.bytes=32:=by
 have h:(prog.info? 40).map (fun i=>(i.size,i.bytes,i.zero.isSome))=some (32,32,true):=by kernel_rfl
 cases hi:prog.info? 40 with
 | none=>rw[hi] at h;cases h
 | some i =>
  rw[hi] at h;simp only[Option.map_some,Option.some.injEq,Prod.mk.injEq] at h;exact⟨i,rfl,Option.isSome_iff_exists.1 h.2.2,h.1,h.2.1⟩
theorem An7 (n:Nat) (hn:n<=1000):∃Z:Array Value,Z.size=n * 32/\∀w,(Instr.makeSlice 46 (.int .i64 n) (.int .i64 n)).run prog w=.ok (.slice (some ⟨w.heap.size,0,none⟩) n n) (w.alloc (.cells Z 40)):=by
 have hu:prog.underlying 46=some (.slice 40):=by kernel_rfl
 obtain⟨i,hi,hz,hs,hb⟩:=Ahw;obtain⟨z,hz⟩:=hz;have:=fun w=>run_makeSlice (P:=prog) (w:=w) 46 40 i z hu hi hz .i64 .i64 n n (by omega) (by omega) (by rw[hs];omega) (by rw[hb];omega) (by omega);refine⟨_,?_,fun w=>by simpa using this w⟩;simp[madeCells,hs]
theorem Arh (n:Nat) (hn:n<=1000) (w:World):(Instr.makeSlice 46 (.int .i64 n) (.int .i64 n)).events prog w #[]=#[]:=by
 have hu:prog.underlying 46=some (.slice 40):=by kernel_rfl
 obtain⟨i,hi,hz,hs,hb⟩:=Ahw;obtain⟨z,hz⟩:=hz;have hw:IntKind.i64.wrap (n:Int)=n:=by rw[IntKind.wrap_i64];omega
 have n1:¬(n:Int) < 0:=by omega
 have n2:¬(281474976710656 < (32:Int) * n):=by omega
 have n3:¬(roomBytes < n * 32):=by show ¬(_ < n * 32);unfold roomBytes;omega
 unfold Instr.makeSlice;simp[run_underlying hu,asInt,asIntOf,typeInfo,hi,hb,hs,hw,n1,n2,n3,askRoom,sizeOf,zeroValue,hz,newRow]
section
variable {top:Nat} {I I' I2:Ab} {p:Ph} {w w' w2:World} {i b o out:Nat} {v:Value}
def Eu (I:Ab) (out:Nat) (w:World):World:={ w with heap:=w.heap.mapIdx fun b o=>if I.bk b=.priv 0/\b≠out then o else .cells #[] 0 }
theorem Acv (b:Nat):(Eu I out w).heap[b]?=(w.heap[b]?).map fun o=>if I.bk b=.priv 0/\b≠out then o else .cells #[] 0:=by simp[Eu]
theorem Aap (h:I.bk b=.priv 0) (hne:b≠out):(Eu I out w).heap[b]?=w.heap[b]?:=by
 rw[Acv];simp[h,hne]
theorem Cd (h:I.bk b=.priv 0) (hne:b≠out) (hc:w.cell? ⟨b,o,none⟩=some v):(Eu I out w).cell? ⟨b,o,none⟩=some v:=by
 unfold World.cell? at hc ⊢;rw[Aap h hne];exact hc
theorem Ni (h:(Eu I out w).cell? ⟨b,o,none⟩=some v):I.bk b=.priv 0/\b≠out/\b < w.heap.size/\w.cell? ⟨b,o,none⟩=some v:=by
 unfold World.cell? at h ⊢;rw[Acv] at h;cases hb:w.heap[b]? with
 | none=>rw[hb] at h;cases h
 | some ob =>
  rw[hb] at h;have hlt:b < w.heap.size:=(Array.getElem?_eq_some_iff.1 hb).1;by_cases hc:I.bk b=.priv 0/\b≠out
  ·simp only[Option.map_some,if_pos hc] at h;exact⟨hc.1,hc.2,hlt,h⟩
  ·simp only[Option.map_some,if_neg hc] at h;simp at h
theorem Zd (hs:I.hs=w.heap.size) (h:∀b,b < I.hs->I.bk b=.priv 0->b≠out->I'.F i b/\p.H b=w.heap[b]?):Alf i p I' (Eu I out w):=fun b o v hc=>by
 obtain⟨h1,h2,h3,_⟩:=Ni hc;obtain⟨h4,h5⟩:=h b (by omega) h1 h2;exact⟨h4,by rw[h5,Aap h1 h2]⟩
theorem V7 {out':Nat} (hl:∀b,b < I.hs->I'.bk b=I.bk b) (hs:I.hs=w.heap.size) (hh:∀b,b < I.hs->w'.heap[b]?=w.heap[b]?) (ho:I.hs<=out'):Bm (Eu I out w) (Eu I' out' w'):=by
 rintro⟨b,o,sp⟩ v h;cases sp with
 | some sp =>
  exfalso;unfold World.cell? at h;cases hb:(Eu I out w).heap[b]? with
  | none=>simp[hb] at h
  | some ob=>cases ob<;>simp[hb] at h
 | none =>
  obtain⟨h1,h2,h3,h4⟩:=Ni h;have hlt:b < I.hs:=by omega
  refine Cd ((hl b hlt).trans h1) (by omega) ?_;unfold World.cell? at h4 ⊢;rw[hh b hlt];exact h4
end
section
variable {top:Nat} {I I' I2:Ab} {p:Ph} {w w' w2:World} {i j k n:Nat} {Post:Value->World->Prop} {es:Array Event} {g g':Goroutine}
theorem Mu {m:Int} {c:Frame} {cs:List Frame} (hg:I.tag i≠.gone) (hK:LT top Post i I w (G (c.finish (.bool (decide (1<=m)&&decide (m<=16)))) cs)) :
  LT top Post i I w (G ((base 19).at ⟨#[.int .i64 m]++Array.replicate 8 undef,[]⟩ [.code (Tryz.f19.body.getD .skip)]) (c::cs)):=by
 simp only[Tryz.f19,Option.getD_some]
 (try walk_nrm);refine Am (Au ?_);simp only[ix,Nat.reduceAdd];refine Ai fun v W H=>?_;go_simp;refine H _ ?_;clear H W v;(try walk_nrm);refine len (Am (Au ?_));simp only[ix,Nat.reduceAdd];(iterate 3 (refine Ai fun v W H=>?_;go_simp;refine H _ ?_;clear H W v;try walk_nrm))
 by_cases h1:1<=m
 ·simp only[h1,decide_true,ge_iff_le,Bool.true_and] at hK ⊢
  (iterate 4 (refine Ai fun v W H=>?_;go_simp;refine H _ ?_;clear H W v;try walk_nrm));refine len ?_;refine Bz (fun _=>stepG_ret') ?_;refine Bz (fun _=>stepG_leave (v:=.bool (decide (m<=16))) rfl rfl func19 (by kernel_rfl) (by kernel_rfl)) ?_
  exact hK
 ·simp only[h1,decide_false,ge_iff_le,Bool.false_and] at hK ⊢;refine Fg ?_;(try walk_nrm);refine Fg ?_;(try walk_nrm);(iterate 2 (refine Ai fun v W H=>?_;go_simp;refine H _ ?_;clear H W v;try walk_nrm));refine len ?_;refine Bz (fun _=>stepG_ret') ?_;refine Bz (fun _=>stepG_leave (v:=.bool false) rfl rfl func19 (by kernel_rfl) (by kernel_rfl)) ?_;exact hK
structure Hv (Hw:World) (la:Option Addr) (n:Nat) (rows:List (List (BitVec 8))):Prop where
 n:n=rows.length
 rws:∃lb lo,(rows≠[]->la=some ⟨lb,lo,none⟩)/\∀x row,rows[x]?=some row->row.length<=1048576/\∃ra rc,Hw.cell? ⟨lb,lo+x,none⟩=some (.slice ra row.length rc)/\A0 Hw ra rc row/\∀ad,ra=some ad->∃o v,Hw.cell? ⟨ad.block,o,none⟩=some v
 k:C2 Hw
theorem Hv.keeps {Hw Hw':World} {la:Option Addr} {rows:List (List (BitVec 8))} (h:Hv Hw la n rows) (k:Bm Hw Hw'):Hv Hw' la n rows:=by
 obtain⟨h1,⟨lb,lo,h2,h3⟩,h4⟩:=h;refine⟨h1,⟨lb,lo,h2,fun x row hx=>?_⟩,h4.keeps k⟩;obtain⟨a1,ra,rc,a2,a3,a4⟩:=h3 x row hx;exact⟨a1,ra,rc,k _ _ a2,a3.keeps k,fun ad e=>let ⟨o,v,q⟩:=a4 ad e;⟨o,v,k _ _ q⟩⟩
def Si (rows:List (List (BitVec 8))) (x o:Nat):Value:=U8 (Ad (Sha.sum (rows.getD x [])) o)
theorem Aqp {p:Ph} {Hw:World} {la:Option Addr} {lc:Nat} {rows:List (List (BitVec 8))} {LB OB:Nat} (h:Hv Hw la n rows) (og:p.n=n) (hn:n<=1000) (hv:p.val=Si rows) (ho:p.oty=40)
  (hlb:Hw.cell? ⟨LB,0,none⟩=some (.slice la n lc)) (iz:Hw.cell? ⟨OB,0,none⟩=some (.slice (some ⟨p.out,0,none⟩) n n)):Apq p Hw LB OB rows:=by
 obtain⟨h1,⟨lb,lo,h2,h3⟩,h4⟩:=h;refine⟨og.trans h1,by omega,⟨lb,lo,lc,fun q=>by rw[hlb,h2 q,og],h3⟩,fun _=>⟨n,by rw[iz,og]⟩,h4,fun x row o hx _=>?_,ho⟩;rw[hv];unfold Si;rw[List.getD_eq_getElem?_getD,hx];rfl
theorem Ox {m:Int} {la:Option Addr} {lc:Nat} {c:Frame} {cs:List Frame} {rows:List (List (BitVec 8))} (s0:B3 I w) (hn:n<=1000) (hmem:Hv (Eu I I.hs w) la n rows) (hgl:prog.globals.size<=I.hs) (ak:I.cnt+16<=top)
  (jg:∀W0:Nat,m=W0->1<=W0->W0<=16->∀I' w' out,B3 I' w'->I.hs<=out->out < I'.hs->I'.bk out=.priv 0->I'.cnt=I.cnt+W0->(∀b,b < I.hs->I'.bk b=I.bk b)->(∀b,b < I.hs->I.bk b=.priv 0->w'.heap[b]?=w.heap[b]?)->w'.tape=w.tape ->
   (∃cells,w'.heap[out]?=some (.cells cells 40 (0,0))/\cells.size=32 * n/\∀x,x < n->∀o,o < 32->cells[32 * x+o]?=some (Si rows x o))->LT top Post 0 I' w' (G (c.finish (.tuple #[.slice (some ⟨out,0,none⟩) n n,.int .i64 0])) cs))
  (mf:¬(1<=m/\m<=16)->∀I' w',B3 I' w'->C1 I I'->(∀b,b < I.hs->w'.heap[b]?=w.heap[b]?)->w'.tape=w.tape->LT top Post 0 I' w' (G (c.finish (.tuple #[.slice none 0 0,.int .i64 2])) cs)) :
  LT top Post 0 I w (G ((base 15).at ⟨#[.slice la n lc,.int .i64 m]++Array.replicate 17 undef,[]⟩ [.code (Tryz.f15.body.getD .skip)]) (c::cs)):=by
 have hg:I.tag 0≠.gone:=s0.ng;simp only[Tryz.f15,Option.getD_some]
 (try walk_nrm);refine Am (Au ?_);simp only[ix,Nat.reduceAdd]
 refine solo_goes s0 rfl fun wV eV eT=>?_;refine goes_oper_k rfl rfl (by k_ne) (fun W hW=>?_);go_simp;refine hW _ _ ⟨Dc (w:=wV) rfl rfl rfl rfl (Ax (by simp[go_sem])),fun I1 w1 h1 t1 s1 l1 b1=>?_⟩;replace h1:w1.heap=(w.heap).push (Obj.cells #[Value.slice la n lc] 25):=by rw[h1];show wV.heap.push _=_;rw[eV];try rfl
 replace t1:w1.tape=w.tape:=t1.trans eT;replace b1:I1.bk (w.heap.size)=.priv 0:=b1 _ (by rw[s0.hs];simp[Nat.add_assoc]) (by show _ < (wV.heap.push _).size;rw[eV];simp[Nat.add_assoc]);clear hW;clear W eV eT;clear wV;have hg:I1.tag 0≠.gone:=s1.ng
 (try walk_nrm);(iterate 2 (refine Ai fun v W H=>?_;go_simp;refine H _ ?_;clear H W v;try walk_nrm));refine len (Am ?_);refine Am (Au ?_);simp only[ix,Nat.reduceAdd];refine Ai fun v W H=>?_;go_simp;refine H _ ?_;clear H W v;(try walk_nrm);refine Bz (fun _=>Aj (first:=#[]) (caps:=#[]) (vs:=#[.int .i64 m]) rfl rfl (by k_ne) rfl rfl (by simp[Act.eval]) func19 (by kernel_rfl) rfl) ?_
 refine Mu hg ?_;rw[Frame.finish_at];(try walk_nrm);refine Ai fun v W H=>?_;go_simp;refine H _ ?_;clear H W v;(try walk_nrm);refine len ?_;by_cases hm:1<=m/\m<=16
 ·have hmb:(!decide (1<=m)||!decide (m<=16))=false:=by simp[hm.1,hm.2]
  simp only[hmb];refine Gl (Gz ?_);refine Am (Au ?_);simp only[ix,Nat.reduceAdd];have H1:w1.heap[w.heap.size]?=some (.cells #[.slice la n lc] 25 (0,0)):=by rw[h1,Array.getElem?_push];simp
  have hS1:I1.S 0 w.heap.size:=⟨by rw[s1.hs,h1];simp,b1⟩;refine Yt (ad:=⟨w.heap.size,0,none⟩) (v:=.slice la n lc) s1.ns (fun IV wV hrl au=>⟨by rw[World.cell?,(s1.rel hrl).2.1];simp[H1],.inl ⟨_,rfl,rfl,.inl (by rw[hrl.S s1.ng];exact hS1)⟩⟩) fun v W hcell H=>?_;go_simp;refine H _ ?_ (by simp[go_sem,hcell]);clear H hcell W v;try walk_nrm
  refine Ai fun v W H=>?_;go_simp;refine H _ ?_;clear H W v;try walk_nrm
  obtain⟨Z,hZ,hmk⟩:=An7 n hn;refine solo_goes s1 rfl fun wV eV eT=>?_;refine goes_oper_k rfl rfl (by k_ne) (fun W hW=>?_);have x8:=hmk wV;go_simp;refine hW _ _ ⟨Dc (w:=wV) rfl rfl rfl rfl (Ax (by simp[go_sem];exact Arh n hn _)),fun I2 w2 h2 t2 s2 l2 b2=>?_⟩;replace h2:w2.heap=(w.heap.push (Obj.cells #[Value.slice la n lc] 25)).push (Obj.cells Z 40):=by rw[h2];show wV.heap.push _=_;rw[eV,h1];try rfl
  replace t2:w2.tape=w1.tape:=t2.trans eT;replace b2:I2.bk (w.heap.size+1)=.priv 0:=b2 _ (by rw[s1.hs,h1];simp[Nat.add_assoc]) (by show _ < (wV.heap.push _).size;rw[eV,h1];simp[Nat.add_assoc]);clear hW x8;clear W eV eT;clear wV;rw[t1] at t2;have m2:=l2;replace l2:=l1.trans l2;have hg:I2.tag 0≠.gone:=s2.ng
  try walk_nrm
  refine solo_goes s2 rfl fun wV eV eT=>?_;refine goes_oper_k rfl rfl (by k_ne) (fun W hW=>?_);go_simp;refine hW _ _ ⟨Dc (w:=wV) rfl rfl rfl rfl (Ax (by simp[go_sem])),fun I3 w3 h3 t3 s3 l3 b3=>?_⟩;replace h3:w3.heap=((w.heap.push (Obj.cells #[Value.slice la n lc] 25)).push (Obj.cells Z 40)).push (Obj.cells #[Value.slice none 0 0] 46):=by rw[h3];show wV.heap.push _=_;rw[eV,h2];try rfl
  replace t3:w3.tape=w2.tape:=t3.trans eT;replace b3:I3.bk (w.heap.size+2)=.priv 0:=b3 _ (by rw[s2.hs,h2];simp[Nat.add_assoc]) (by show _ < (wV.heap.push _).size;rw[eV,h2];simp[Nat.add_assoc]);clear hW;clear W eV eT;clear wV;rw[t2] at t3;have m3:=l3;replace l3:=l2.trans l3;have hg:I3.tag 0≠.gone:=s3.ng
  try walk_nrm
  have H3:w3.heap[w.heap.size+1+1]?=some (.cells #[Value.slice none 0 0] 46 (0,0)):=by rw[h3,Array.getElem?_push];simp
  have hS3:I3.S 0 (w.heap.size+1+1):=⟨by rw[s3.hs,h3];simp,b3⟩;refine solo_goes s3 rfl fun wV eV eT=>?_;refine goes_oper_k rfl rfl (by k_ne) (fun W hW=>?_);have hcell:wV.cell? ⟨w.heap.size+1+1,0,none⟩=some (Value.slice none 0 0):=by simp[World.cell?,eV,H3]
  have hfro:wV.frozen? ⟨w.heap.size+1+1,0,none⟩=false:=by simp[World.frozen?,eV,H3]
  go_simp;refine hW _ _ ⟨Vk wV _ _ hS3 (fun e he=>by have hm:=mem_listed he;simp[go_sem,hcell,hfro] at hm;first|exact hm | (rw[events_store _ _ _ _ _ _ rfl,hcell] at hm;simp[hfro] at hm;exact hm)),fun I4 w4 h4 t4 s4 l4 bX=>?_⟩;replace h4:w4.heap=((w.heap.push (Obj.cells #[Value.slice la n lc] 25)).push (Obj.cells Z 40)).push (.cells #[Value.slice (some ⟨w.heap.size+1,0,none⟩) n n] 46):=by
   have hq:=N7 (w:=wV) (v:=Value.slice (some ⟨w.heap.size+1,0,none⟩) n n) (A:=(w.heap.push (Obj.cells #[Value.slice la n lc] 25)).push (Obj.cells Z 40)) (u:=Value.slice none 0 0) (t:=46) (by rw[eV,h3]);simp only[Array.size_push] at hq;rw[h4];exact hq
  replace t4:w4.tape=w3.tape:=t4.trans eT;clear hW bX;clear W hcell hfro eV eT;clear wV;rw[t3] at t4;have b4:I4.bk (w.heap.size+2)=.priv 0:=(l4.bk _ hS3.1).trans b3;have m4:=l4;replace l4:=l3.trans l4;have hg:I4.tag 0≠.gone:=s4.ng
  (try walk_nrm);refine len (Am (Au ?_));simp only[ix,Nat.reduceAdd]
  have hs0:=s0.hs;have H4:w4.heap[w.heap.size]?=some (.cells #[.slice la n lc] 25 (0,0)):=by
   rw[h4];simp only[Array.getElem?_push,Array.size_push]
   repeat (first|rw[if_neg (by omega)] | rw[if_pos (by omega)])
   try simp
  have H4o:w4.heap[w.heap.size+2]?=some (.cells #[.slice (some ⟨w.heap.size+1,0,none⟩) n n] 46 (0,0)):=by
   rw[h4];simp only[Array.getElem?_push,Array.size_push]
   repeat (first|rw[if_neg (by omega)] | rw[if_pos (by omega)])
   try simp
  have H4z:w4.heap[w.heap.size+1]?=some (.cells Z 40 (0,0)):=by
   rw[h4];simp only[Array.getElem?_push,Array.size_push]
   repeat (first|rw[if_neg (by omega)] | rw[if_pos (by omega)])
   try simp
  have old4:∀b,b < w.heap.size->w4.heap[b]?=w.heap[b]?:=fun b hb=>by
   rw[h4];simp only[Array.getElem?_push,Array.size_push]
   repeat rw[if_neg (by omega)]
  have hs4:I4.hs=w.heap.size+3:=by rw[s4.hs,h4];simp
  have d0:I4.bk w.heap.size=.priv 0:=((m2.trans (m3.trans m4)).bk _ hS1.1).trans b1;have d1:I4.bk (w.heap.size+1)=.priv 0:=((m3.trans m4).bk _ (by rw[s2.hs,h2];simp)).trans b2;have zn:I4.S 0 w.heap.size:=⟨by omega,d0⟩;refine Yt (ad:=⟨w.heap.size,0,none⟩) (v:=.slice la n lc) s4.ns (fun IV wV hrl au=>⟨by rw[World.cell?,(s4.rel hrl).2.1];simp[H4],.inl ⟨_,rfl,rfl,.inl (by rw[hrl.S s4.ng];exact zn)⟩⟩) fun v W hcell H=>?_;go_simp;refine H _ ?_ (by simp[go_sem,hcell]);clear H hcell W v;try walk_nrm
  (iterate 3 (refine Ai fun v W H=>?_;go_simp;refine H _ ?_;clear H W v;try walk_nrm))
  obtain⟨W0,hW0⟩:∃W0:Nat,m=W0:=⟨m.toNat,by omega⟩;subst hW0;have l4':C1 I I4:=l4;refine Bz (fun _=>Aj (first:=#[]) (caps:=#[]) (vs:=#[.int .i64 n,.int .i64 W0,.func (.func 31) #[] #[.pointer (some ⟨w.heap.size,0,none⟩),.pointer (some ⟨w.heap.size+1+1,0,none⟩)]]) rfl rfl (by k_ne) rfl rfl (by simp[Act.eval]) func22 (by kernel_rfl) rfl) ?_;refine Age (out:=w.heap.size+1) (oty:=40) (val:=Si rows) s4 func31 rfl (by kernel_rfl) hn (by omega) (by omega) (by rw[l4'.cnt];omega) ⟨by omega,d1⟩ ⟨Z,H4z,by rw[hZ];omega⟩ (fun p I' w' i m7 hi0 og hpo iy hval ie pq hhs=>?_) (fun I9 w9 s9 e1 e2 e3 e4 e5 e6=>?_)
  ·refine Amm (Hw:=Eu I4 (w.heap.size+1) w4) (rows:=rows) (Zd s4.hs pq) (Aqp (lc:=lc) (hmem.keeps (V7 l4'.bk hs0 (fun b hb=>old4 b (by omega)) (by omega))) og hn hval iy ?_ ?_) ie m7 hi0 (by omega)
   ·refine Cd d0 (by omega) ?_;simp[World.cell?,H4]
   ·rw[hpo];refine Cd (b:=w.heap.size+2) b4 (by omega) ?_;simp[World.cell?,H4o]
  ·have H9:w9.heap[w.heap.size+1+1]?=some (.cells #[.slice (some ⟨w.heap.size+1,0,none⟩) n n] 46 (0,0)):=(e4 (w.heap.size+2) (by omega) b4 (by omega)).trans H4o;have hS9:I9.S 0 (w.heap.size+1+1):=⟨by omega,(e3 (w.heap.size+2) (by omega)).trans b4⟩;rw[Frame.finish_at];clear hg;have hg:I9.tag 0≠.gone:=s9.ng
   (try walk_nrm);refine len (Am (Au ?_));simp only[ix,Nat.reduceAdd]
   refine Yt (ad:=⟨w.heap.size+1+1,0,none⟩) (v:=.slice (some ⟨w.heap.size+1,0,none⟩) n n) s9.ns (fun IV wV hrl au=>⟨by rw[World.cell?,(s9.rel hrl).2.1];simp[H9],.inl ⟨_,rfl,rfl,.inl (by rw[hrl.S s9.ng];exact hS9)⟩⟩) fun v W hcell H=>?_;go_simp;refine H _ ?_ (by simp[go_sem,hcell]);clear H hcell W v;try walk_nrm
   (iterate 2 (refine Ai fun v W H=>?_;go_simp;refine H _ ?_;clear H W v;try walk_nrm));refine len ?_;refine Bz (fun _=>stepG_ret') ?_;refine Bz (fun _=>stepG_leave (v:=.tuple #[.slice (some ⟨w.heap.size+1,0,none⟩) n n,.int .i64 0]) rfl rfl func15 (by kernel_rfl) (by kernel_rfl)) ?_
   refine jg W0 rfl (by omega) (by omega) I9 w9 (w.heap.size+1) s9 (by omega) (by omega) ((e3 (w.heap.size+1) (by omega)).trans d1) (by rw[e2,l4'.cnt]) (fun b hb=>?_) (fun b hb hpv=>?_) (e5.trans t4) e6
   ·exact(e3 b (by have:=l4'.hs;omega)).trans (l4'.bk b hb)
   ·exact(e4 b (by have:=l4'.hs;omega) ((l4'.bk b hb).trans hpv) (by omega)).trans (old4 b (by omega))
 ·have hmb:(!decide (1<=m)||!decide (m<=16))=true:=by
   by_cases h1:1<=m
   ·have h2:¬m<=16:=fun h2=>hm ⟨h1,h2⟩;simp[h2]
   ·simp[h1]
  simp only[hmb];refine Hd (Am (Au ?_));simp only[ix,Nat.reduceAdd];(iterate 2 (refine Ai fun v W H=>?_;go_simp;refine H _ ?_;clear H W v;try walk_nrm));refine len ?_;refine Bz (fun _=>stepG_ret') ?_;refine Bz (fun _=>stepG_leave (v:=.tuple #[.slice none 0 0,.int .i64 2]) rfl rfl func15 (by kernel_rfl) (by kernel_rfl)) ?_;exact mf hm I1 w1 s1 l1 (fun b hb=>by rw[h1,Array.getElem?_push,if_neg (by have:=s0.hs;omega)]) t1
end
section
variable {P:Program} {G:Nat->Bool} {fs:List Nat} {K:List Item} {ρ ρ0:Bn} {F S:Nat->Prop} {base:List Frame} {R:Mg} {main:Bool}
def Avh (P:Program) (G:Nat->Bool) (fs:List Nat) (K:List Item) (F:Nat->Prop) (base:List Frame) (R:Mg) (ρ0:Bn) (S:Nat->Prop) (g:Goroutine) (W:World):Prop :=
 ∃(x:Vt) (ρ:Bn) (r':Bt),x.outR R/\RR P G fs K ρ x.r r'/\g=Conc.G r'.fr base/\WR P.globals.size F ρ (re x.w W.tape W.drawn) W/\(∀a b,ρ a b->S b\/F b)/\ρ0.le ρ
theorem Ahy {x:Vt} (hend:∀fr w,R fr w->fr.mode=.run) (hb:Df P x.r.fn=true) (hR:L8 P [] R x) (hl:x.l=[]) (ht:x.r.todo=[]) (hr:x.r.ret=false):x.outR R:=by
 obtain⟨T2,d2,_,n,fr,w1,e,hq⟩:=hR (fun _ _=>0) 0;cases n with
 | zero=>exact If e hq
 | succ n =>
  exfalso;have hc:ctl x.r=some { x.r with ret:=true }:=(show ∀r:Bt,r.todo=[]->ctl r=some { r with ret:=true } by
   rintro⟨_,_,_,_⟩ h;dsimp only at h;subst h;rfl) _ ht
  have hs:=Ye (P:=P) (G:=fun _=>false) (fs:=[]) hr (fun it h=>by rw[ht] at h;cases h) hc true [] (re x.w T2 d2);have hs2:step P (lone x.r.fr [] (re x.w T2 d2))=.next (lone (Bt.fr { x.r with ret:=true }) [] (re x.w T2 d2)):=Ja hs
  rw[hl,List.map_nil,List.append_nil,Dx hs2] at e;cases n with
  | zero =>
   simp only[runN,Stepped.next.injEq,lone,Machine.mk.injEq] at e;have:=e.2.1;simp only[Array.mk.injEq,List.cons.injEq,Goroutine.mk.injEq] at this;have h2:=hend fr w1 hq;rw[<- this.1.1] at h2;simp[Bt.fr] at h2
  | succ n =>
   obtain⟨o,w2,hs3⟩:=Kv (r:={ x.r with ret:=true }) hb rfl (re x.w T2 d2);have:runN P (n+1) (lone (Bt.fr { x.r with ret:=true }) [] (re x.w T2 d2))=.ended o w2:=by
    simp only[runN,hs3]
   rw[this] at e;cases e
theorem Alq (bh:∀f,fs.contains f=true->Cj P G fs f=true) (hm:∀fr w c,R fr w->fr.mode≠.panicking c) (hend:∀fr w,R fr w->fr.mode=.run) {x:Vt} (hacc:Acc (Ag7 P R) x) :
  ∀ {ρ:Bn} {r':Bt} {l':List Bt} {W:World} {S:Nat->Prop},RR P G fs (L6 K x.l) ρ x.r r'->LR P G fs K ρ x.l l'->WR P.globals.size F ρ (re x.w W.tape W.drawn) W->(∀g,G g=true->ρ g g)->(∀a b,ρ a b->S b\/F b)->ρ0.le ρ ->
   L8 P [Az] R x->L8 P [] R x ->
   Way P main F (Avh P G fs K F base R ρ0) S (Conc.G r'.fr (l'.map Bt.fr++base)) W:=by
 induction hacc with
 | intro x _ ih=>?_
 intro ρ r' l' W S h hl hw hG hS hle qj mb;by_cases hout:x.outR R
 ·refine .stop ?_;have e0:=hout.1;have e:l'=[]:=by
   rw[e0] at hl;cases hl;rfl
  subst e;rw[e0] at h;exact⟨x,ρ,r',hout,h,rfl,hw,hS,hle⟩
 have hne:x.r.ret=true->x.l≠[]:=fun e1 e2=>by
  obtain⟨T2,d2,_,n,fr,w1,e,hR⟩:=mb (fun _ _=>0) 0;cases n with
  | zero=>exact hout (If e hR)
  | succ n =>
   rw[e2] at e;obtain⟨o,w2,hs⟩:=Kv h.body e1 (re x.w T2 d2);have:runN P (n+1) (lone x.r.fr (List.map Bt.fr []++[]) (re x.w T2 d2))=.ended o w2:=by
    simp only[List.map_nil,List.append_nil,runN,hs]
   rw[this] at e;cases e
 have hst:x.r.todo≠[]\/L6 K x.l=[]:=by
  by_cases e:x.l=[]
  ·left;intro q;cases hr:x.r.ret with
   | true=>exact hne hr e
   | false=>exact hout (Ahy hend h.body mb e q hr)
  ·right;cases hl2:x.l with
   | nil=>exact absurd hl2 e
   | cons a l=>rfl
 have both:∀W2,Aer S F W W2->Aeu P G fs K F ρ x.r r' x.l l' (re x.w W2.tape W2.drawn) W2:=by
  intro W2 hr;have hw2:=Vj hw hS hr;rcases G8 bh h hl hw2 hG hne hst with hb|hd
  ·exact hb
  ·exfalso;obtain⟨T2,d2,hT,n,fr,w1,e,hR⟩:=qj W2.tape W2.drawn;have hnd:=Ms hm h.body (Vn hl) hout e hR;have hw3:WR P.globals.size F ρ (re x.w T2 d2) (re W2 T2 d2):=hw2.re T2 d2;rcases G8 bh h hl hw3 hG hne hst with hb|hd3
   ·obtain⟨r1,l1,w1,_,_,_,_,_,⟨_,_,e0,hmv⟩,_⟩:=hb;have hst:=hmv W2.tape W2.drawn (fun i _=>(hT i).symm) true [Az];rcases hd [Az] with⟨v,w4,es,hx⟩|⟨o,w4,es,hx⟩
    ·have e1:=hst.symm.trans hx;simp only[GStep.go.injEq,Conc.G,Goroutine.mk.injEq] at e1;have e2:=congrArg Frame.mode e1.1.1;rw[Fz] at e2;simp only[Bt.bad,Bt.fr] at e2;split at e2<;>cases e2
    ·have e1:=hst.symm.trans hx;cases e1
   ·exact hnd hd3
 refine .step rfl (fun W2 hr=>?_) fun W2 g1 W3 es hr hst=>?_
 ·obtain⟨r1,l1,w1,r1',l1',w1',ρ1,es,b1,b2,b3,b4,b5,b6,b7⟩:=both W2 hr;exact⟨_,w1',es,b2 main base,F0 hS b6 (fun a b q=>(b5.lt a b q).2) b7⟩
 ·obtain⟨r1,l1,w1,r1',l1',w1',ρ1,es',b1,b2,b3,b4,b5,b6,b7⟩:=both W2 hr;have e1:=(b2 main base).symm.trans hst;simp only[GStep.go.injEq] at e1;obtain⟨rfl,rfl,rfl⟩:=e1;have e2:re w1 w1'.tape w1'.drawn=w1:=by rw[<- b5.tape,<- b5.drawn];rfl
  exact ih ⟨r1,l1,w1⟩ ⟨hout,_,_,b1⟩ b3 b4 (by rw[e2];exact b5) (fun g hg=>b6.le _ _ (hG g hg)) (Gu hS b6 fun a b q=>(b5.lt a b q).2) (Bn.le_trans hle b6.le) (Fy qj hout b1) (Fy mb hout b1)
def Atd (P:Program) (F:Nat->Prop) (b:Frame) (k:List Item) (cs:List Frame) (Q:Array Value->World->Prop) (ρ:Bn) (S:Nat->Prop) (g:Goroutine) (W:World):Prop :=
 ∃ts ts' ρ1 w1,g=Conc.G (b.at ⟨ts',[]⟩ k) cs/\Cx ρ1 ts ts'/\(∃T d,Q ts (re w1 T d))/\WR P.globals.size F ρ1 (re w1 W.tape W.drawn) W/\(∀a b,ρ1 a b->S b\/F b)/\ρ.le ρ1
theorem Aqb (bh:∀f,fs.contains f=true->Cj P G fs f=true) {f:Nat} {fn:Func} (hf:P.funcs[f]?=some fn) (hfi:(P.inits.idxOf? f).isNone=true) {code:Code} (hok:Ee P G fs code=true) {ts ts':Array Value} {w0 W:World} {b:Frame} {k:List Item} {cs:List Frame} {Q:Array Value->World->Prop}
  (bu:b.fn=f) (hbk:b.kind=.normal)
  (hw:WR P.globals.size F ρ (re w0 W.tape W.drawn) W) (ha:Cx ρ ts ts') (hG:∀g,G g=true->ρ g g) (hS:∀a b,ρ a b->S b\/F b)
  (hc:∀(T:Tape) (d:Nat),code.wp P (fun e a' w'=>e=.normal/\a'.defers=[]/\Q a'.tmps w') ⟨ts,[]⟩ (re w0 T d)) :
  Way P main F (Atd P F b k cs Q ρ) S (Conc.G (b.at ⟨ts',[]⟩ (.code code::k)) cs) W:=by
 have e0:∀(t:Array Value) (kk:List Item),b.at ⟨t,[]⟩ kk=Bt.fr ⟨f,t,kk,false⟩:=fun t kk=>by
  obtain⟨b1,b2,b3,b4,b5,b6⟩:=b;dsimp only at bu hbk;subst bu hbk;rfl
 rw[e0]
 let R:Mg:=fun fr w=>fr.todo=[]/\fr.mode=.run/\fr.fn=f/\Q fr.tmps w
 let x:Vt:=⟨⟨f,ts,[.code code],false⟩,[],w0⟩
 have ah:∀base:List Frame,∀(T:Tape) (d:Nat),∃n fr w1,runN P n (lone x.r.fr (x.l.map Bt.fr++base) (re x.w T d))=.next (lone fr base w1)/\R fr w1:=by
  intro base T d;obtain⟨e,a',w',⟨rfl,hd,hq⟩,harr⟩:=hc T d b [] base;rw[e0] at harr;obtain⟨n,hn⟩:=harr;obtain⟨at1,at2⟩:=a';dsimp only at hd hq;subst hd;exact⟨n,_,w',hn,rfl,by rw[e0];rfl,bu,hq⟩
 have hacc:Acc (Ag7 P R) x:=Abt (base:=[]) fun T d=>ah [] T d;have zg:RR P G fs (L6 k x.l) ρ x.r ⟨f,ts',.code code::k,false⟩:=by
  refine⟨rfl,rfl,rfl,ha,fun it hit=>?_,?_⟩
  ·simp only[x,List.mem_singleton] at hit;subst hit;exact hok
  ·unfold Df;rw[hf];exact hfi
 have h1:=Alq (main:=main) (base:=cs) (S:=S) (W:=W) (ρ0:=ρ) (K:=k) bh (fun fr w c h e=>by rw[h.2.1] at e;cases e) (fun fr w h=>h.2.1) hacc zg .nil hw hG hS (Bn.le_refl _)
  (fun T d=>⟨T,d,fun _=>rfl,ah [Az] T d⟩) (fun T d=>⟨T,d,fun _=>rfl,ah [] T d⟩)
 refine Way.bind h1 fun S2 g W2 hE=>.stop ?_;obtain⟨y,ρ1,r',⟨_,T,d,q1,q2,q3,q4⟩,hr,rfl,hw1,hS1,hle⟩:=hE;refine⟨y.r.tmps,r'.tmps,ρ1,y.w,?_,hr.tmps,⟨T,d,q4⟩,hw1,hS1,hle⟩;have t1:r'.todo=k:=by
  have:y.r.todo=[]:=q1;rw[hr.todo,this,List.nil_append]
 have t2:r'.fn=f:=by rw[<- hr.fn];exact q3
 have t3:r'.ret=false:=by
  rw[<- hr.ret];cases hq:y.r.ret with
  | false=>rfl
  | true=>rw[show y.r.fr.mode=.returning by simp[Bt.fr,hq]] at q2;cases q2
 rw[e0];obtain⟨r1,r2,r3,r4⟩:=r';dsimp only at t1 t2 t3;subst t1 t2 t3;rfl
end
section
variable {P:Program} {G:Nat->Bool} {fs:List Nat} {main:Bool} {F:Nat->Prop}
def Aau (P:Program):List Code->(Array Value->World->Prop)->Array Value->World->Prop
 | [],Q,ts,w=>Q ts w
 | c::l,Q,ts,w=>∀(T:Tape) (d:Nat),c.wp P (fun e a' w'=>e=.normal/\a'.defers=[]/\Aau P l Q a'.tmps w') ⟨ts,[]⟩ (re w T d)
theorem Aih {K:(Nat->Prop)->Goroutine->World->Prop} {S:Nat->Prop} {g g':Goroutine} {w:World} (hg:g.status=.running) (hs:∀w2,stepG P main g w2=.go g' w2 #[]) (h:∀w2,Aer S F w w2->Way P main F K S g' w2):Way P main F K S g w:=by
 refine .step hg (fun w2 _=>⟨_,_,_,hs w2,Aj3 S F w2⟩) fun w2 g1 w3 es hr e=>?_;rw[hs w2] at e;simp only[GStep.go.injEq] at e;obtain⟨rfl,rfl,rfl⟩:=e;rw[Z0];exact h _ hr
theorem Ab2 (bh:∀f,fs.contains f=true->Cj P G fs f=true) {f:Nat} {fn:Func} (hf:P.funcs[f]?=some fn) (hfi:(P.inits.idxOf? f).isNone=true) {b:Frame} {k:List Item} {cs:List Frame} {Q:Array Value->World->Prop} {rest:Code}
  (bu:b.fn=f) (hbk:b.kind=.normal):∀(codes:List Code) {ρ:Bn} {ts ts':Array Value} {w0 W:World} {S:Nat->Prop},(∀c∈codes,Ee P G fs c=true)->WR P.globals.size F ρ (re w0 W.tape W.drawn) W->Cx ρ ts ts'->(∀g,G g=true->ρ g g)->(∀a b,ρ a b->S b\/F b) ->
   (∃T d,Aau P codes Q ts (re w0 T d))->Way P main F (Atd P F b (.code rest::k) cs Q ρ) S (Conc.G (b.at ⟨ts',[]⟩ (.code (codes.foldr .seq rest)::k)) cs) W
 | [],ρ,ts,ts',w0,W,S,_,hw,ha,_,hS,hq=>.stop ⟨ts,ts',ρ,w0,rfl,ha,hq,hw,hS,Bn.le_refl _⟩
 | c::l,ρ,ts,ts',w0,W,S,hok,hw,ha,hG,hS,⟨T0,d0,hq⟩=>by
  refine Aih rfl (fun w2=>stepG_seq) fun W2 hr=>?_;refine Way.bind (Aqb (main:=main) (S:=S) bh hf hfi (hok c (by simp)) bu hbk (Vj hw hS hr) ha hG hS (Q:=Aau P l Q) (k:=.code (l.foldr .seq rest)::k) (cs:=cs) fun T d=>hq T d) fun S2 g W3 hE=>?_;obtain⟨ts1,ts1',ρ1,w1,rfl,h1,⟨T,d,h2⟩,h3,h4,h5⟩:=hE;refine Way.bind (Ab2 bh hf hfi bu hbk l (fun c h=>hok c (by simp[h])) h3 h1 (fun g hg=>h5 _ _ (hG g hg)) h4 ⟨T,d,h2⟩) fun S3 g W4 hE=>.stop ?_;obtain⟨ts2,ts2',ρ2,w2,e,q1,q2,q3,q4,q5⟩:=hE;exact⟨ts2,ts2',ρ2,w2,e,q1,q2,q3,q4,Bn.le_trans h5 q5⟩
end
section
variable {P:Program} {G:Nat->Bool} {fs:List Nat} {K:List Item} {ρ ρ0:Bn} {F S:Nat->Prop} {base:List Frame} {R:Mg}
theorem Mi.bind {K K2:(Nat->Prop)->Goroutine->World->Prop} {g:Goroutine} {w:World} (h:Mi P F K S g w) (hk:∀S g w,K S g w->Mi P F K2 S g w):Mi P F K2 S g w:=by
 induction h with
 | stop h=>exact hk _ _ _ h
 | step hg h _ ih=>exact .step hg h ih
def Auv (P:Program) (G:Nat->Bool) (fs:List Nat) (K:List Item) (F:Nat->Prop) (base:List Frame) (R:Mg) (ρ0:Bn) (S:Nat->Prop) (g:Goroutine) (W:World):Prop :=
 ∃(x:Vt) (ρ:Bn) (r':Bt),x.outR R/\RR P G fs K ρ x.r r'/\g=Conc.G r'.fr base/\WR P.globals.size F ρ (re x.w W.tape W.drawn) W/\(∀a b,ρ a b->S b\/F b)/\ρ0.le ρ/\(∀a b,ρ a b->a=b)/\x.w.heap.size=W.heap.size
theorem Aik (bh:∀f,fs.contains f=true->Cj P G fs f=true) (hm:∀fr w c,R fr w->fr.mode≠.panicking c) (hend:∀fr w,R fr w->fr.mode=.run) {x:Vt} (hacc:Acc (Ag7 P R) x) :
  ∀ {ρ:Bn} {r':Bt} {l':List Bt} {W:World} {S:Nat->Prop},RR P G fs (L6 K x.l) ρ x.r r'->LR P G fs K ρ x.l l'->WR P.globals.size F ρ (re x.w W.tape W.drawn) W->(∀g,G g=true->ρ g g)->(∀a b,ρ a b->S b\/F b)->ρ0.le ρ->(∀a b,ρ a b->a=b)->x.w.heap.size=W.heap.size ->
   L8 P [Az] R x->L8 P [] R x ->
   Mi P F (Auv P G fs K F base R ρ0) S (Conc.G r'.fr (l'.map Bt.fr++base)) W:=by
 induction hacc with
 | intro x _ ih=>?_
 intro ρ r' l' W S h hl hw hG hS hle hid hsz qj mb;by_cases hout:x.outR R
 ·refine .stop ?_;have e0:=hout.1;have e:l'=[]:=by
   rw[e0] at hl;cases hl;rfl
  subst e;rw[e0] at h;exact⟨x,ρ,r',hout,h,rfl,hw,hS,hle,hid,hsz⟩
 have hne:x.r.ret=true->x.l≠[]:=fun e1 e2=>by
  obtain⟨T2,d2,_,n,fr,w1,e,hR⟩:=mb (fun _ _=>0) 0;cases n with
  | zero=>exact hout (If e hR)
  | succ n =>
   rw[e2] at e;obtain⟨o,w2,hs⟩:=Kv h.body e1 (re x.w T2 d2);have:runN P (n+1) (lone x.r.fr (List.map Bt.fr []++[]) (re x.w T2 d2))=.ended o w2:=by
    simp only[List.map_nil,List.append_nil,runN,hs]
   rw[this] at e;cases e
 have hst:x.r.todo≠[]\/L6 K x.l=[]:=by
  by_cases e:x.l=[]
  ·left;intro q;cases hr:x.r.ret with
   | true=>exact hne hr e
   | false=>exact hout (Ahy hend h.body mb e q hr)
  ·right;cases hl2:x.l with
   | nil=>exact absurd hl2 e
   | cons a l=>rfl
 have both:∀W2,Aac W W2->Aeu P G fs K F ρ x.r r' x.l l' (re x.w W2.tape W2.drawn) W2:=by
  intro W2 hr;have hw2:=Vv hw hr;rcases G8 bh h hl hw2 hG hne hst with hb|hd
  ·exact hb
  ·exfalso;obtain⟨T2,d2,hT,n,fr,w1,e,hR⟩:=qj W2.tape W2.drawn;have hnd:=Ms hm h.body (Vn hl) hout e hR;have hw3:WR P.globals.size F ρ (re x.w T2 d2) (re W2 T2 d2):=hw2.re T2 d2;rcases G8 bh h hl hw3 hG hne hst with hb|hd3
   ·obtain⟨r1,l1,w1,_,_,_,_,_,⟨_,_,e0,hmv⟩,_⟩:=hb;have hst:=hmv W2.tape W2.drawn (fun i _=>(hT i).symm) true [Az];rcases hd [Az] with⟨v,w4,es,hx⟩|⟨o,w4,es,hx⟩
    ·have e1:=hst.symm.trans hx;simp only[GStep.go.injEq,Conc.G,Goroutine.mk.injEq] at e1;have e2:=congrArg Frame.mode e1.1.1;rw[Fz] at e2;simp only[Bt.bad,Bt.fr] at e2;split at e2<;>cases e2
    ·have e1:=hst.symm.trans hx;cases e1
   ·exact hnd hd3
 refine .step rfl (fun W2 hr=>?_) fun W2 g1 W3 es hr hst=>?_
 ·obtain⟨r1,l1,w1,r1',l1',w1',ρ1,es,b1,b2,b3,b4,b5,b6,b7⟩:=both W2 hr;exact⟨_,w1',es,b2 true base,F0 hS b6 (fun a b q=>(b5.lt a b q).2) b7⟩
 ·obtain⟨r1,l1,w1,r1',l1',w1',ρ1,es',b1,b2,b3,b4,b5,b6,b7⟩:=both W2 hr;have e1:=(b2 true base).symm.trans hst;simp only[GStep.go.injEq] at e1;obtain⟨rfl,rfl,rfl⟩:=e1;have e2:re w1 w1'.tape w1'.drawn=w1:=by rw[<- b5.tape,<- b5.drawn];rfl
  obtain⟨hsz1,jv⟩:=b6.same (by show x.w.heap.size=W2.heap.size;rw[hr.heap];exact hsz) hid;exact ih ⟨r1,l1,w1⟩ ⟨hout,_,_,b1⟩ b3 b4 (by rw[e2];exact b5) (fun g hg=>b6.le _ _ (hG g hg)) (Gu hS b6 fun a b q=>(b5.lt a b q).2) (Bn.le_trans hle b6.le) jv hsz1 (Fy qj hout b1) (Fy mb hout b1)
def Avc (P:Program) (F:Nat->Prop) (b:Frame) (k:List Item) (cs:List Frame) (Q:Array Value->World->Prop) (ρ:Bn) (S:Nat->Prop) (g:Goroutine) (W:World):Prop :=
 ∃ts ts' ρ1 w1,g=Conc.G (b.at ⟨ts',[]⟩ k) cs/\Cx ρ1 ts ts'/\(∃T d,Q ts (re w1 T d))/\WR P.globals.size F ρ1 (re w1 W.tape W.drawn) W/\(∀a b,ρ1 a b->S b\/F b)/\ρ.le ρ1/\(∀a b,ρ1 a b->a=b)/\w1.heap.size=W.heap.size
theorem Als (bh:∀f,fs.contains f=true->Cj P G fs f=true) {f:Nat} {fn:Func} (hf:P.funcs[f]?=some fn) (hfi:(P.inits.idxOf? f).isNone=true) {code:Code} (hok:Ee P G fs code=true) {ts ts':Array Value} {w0 W:World} {b:Frame} {k:List Item} {cs:List Frame} {Q:Array Value->World->Prop}
  (bu:b.fn=f) (hbk:b.kind=.normal)
  (hw:WR P.globals.size F ρ (re w0 W.tape W.drawn) W) (ha:Cx ρ ts ts') (hG:∀g,G g=true->ρ g g) (hS:∀a b,ρ a b->S b\/F b) (hid:∀a b,ρ a b->a=b) (hsz:w0.heap.size=W.heap.size)
  (hc:∀(T:Tape) (d:Nat),code.wp P (fun e a' w'=>e=.normal/\a'.defers=[]/\Q a'.tmps w') ⟨ts,[]⟩ (re w0 T d)) :
  Mi P F (Avc P F b k cs Q ρ) S (Conc.G (b.at ⟨ts',[]⟩ (.code code::k)) cs) W:=by
 have e0:∀(t:Array Value) (kk:List Item),b.at ⟨t,[]⟩ kk=Bt.fr ⟨f,t,kk,false⟩:=fun t kk=>by
  obtain⟨b1,b2,b3,b4,b5,b6⟩:=b;dsimp only at bu hbk;subst bu hbk;rfl
 rw[e0]
 let R:Mg:=fun fr w=>fr.todo=[]/\fr.mode=.run/\fr.fn=f/\Q fr.tmps w
 let x:Vt:=⟨⟨f,ts,[.code code],false⟩,[],w0⟩
 have ah:∀base:List Frame,∀(T:Tape) (d:Nat),∃n fr w1,runN P n (lone x.r.fr (x.l.map Bt.fr++base) (re x.w T d))=.next (lone fr base w1)/\R fr w1:=by
  intro base T d;obtain⟨e,a',w',⟨rfl,hd,hq⟩,harr⟩:=hc T d b [] base;rw[e0] at harr;obtain⟨n,hn⟩:=harr;obtain⟨at1,at2⟩:=a';dsimp only at hd hq;subst hd;exact⟨n,_,w',hn,rfl,by rw[e0];rfl,bu,hq⟩
 have hacc:Acc (Ag7 P R) x:=Abt (base:=[]) fun T d=>ah [] T d;have zg:RR P G fs (L6 k x.l) ρ x.r ⟨f,ts',.code code::k,false⟩:=by
  refine⟨rfl,rfl,rfl,ha,fun it hit=>?_,?_⟩
  ·simp only[x,List.mem_singleton] at hit;subst hit;exact hok
  ·unfold Df;rw[hf];exact hfi
 have h1:=Aik (base:=cs) (S:=S) (W:=W) (ρ0:=ρ) (K:=k) bh (fun fr w c h e=>by rw[h.2.1] at e;cases e) (fun fr w h=>h.2.1) hacc zg .nil hw hG hS (Bn.le_refl _) hid hsz
  (fun T d=>⟨T,d,fun _=>rfl,ah [Az] T d⟩) (fun T d=>⟨T,d,fun _=>rfl,ah [] T d⟩)
 refine Mi.bind h1 fun S2 g W2 hE=>.stop ?_;obtain⟨y,ρ1,r',⟨_,T,d,q1,q2,q3,q4⟩,hr,rfl,hw1,hS1,hle,jv,hsz1⟩:=hE;refine⟨y.r.tmps,r'.tmps,ρ1,y.w,?_,hr.tmps,⟨T,d,q4⟩,hw1,hS1,hle,jv,hsz1⟩;have t1:r'.todo=k:=by
  have:y.r.todo=[]:=q1;rw[hr.todo,this,List.nil_append]
 have t2:r'.fn=f:=by rw[<- hr.fn];exact q3
 have t3:r'.ret=false:=by
  rw[<- hr.ret];cases hq:y.r.ret with
  | false=>rfl
  | true=>rw[show y.r.fr.mode=.returning by simp[Bt.fr,hq]] at q2;cases q2
 rw[e0];obtain⟨r1,r2,r3,r4⟩:=r';dsimp only at t1 t2 t3;subst t1 t2 t3;rfl
end
section
variable {ty:TypeId} {top:Nat} {I I' I2:Ab} {w w' w2:World} {P:Program} {Post:Value->World->Prop} {b:Frame} {cs:List Frame}
theorem Af8 {G:Nat->Bool} {fs:List Nat} (bh:∀f,fs.contains f=true->Cj P G fs f=true) {f:Nat} {fn:Func} (hf:P.funcs[f]?=some fn) (hfi:(P.inits.idxOf? f).isNone=true) {code:Code} {k:List Item} (hok:Ee P G fs code=true) (bu:b.fn=f) (hbk:b.kind=.normal)
  (s:B3 I w) (hgl:P.globals.size<=I.hs) (T:Nat->Prop) (hT:∀b,T b->I.S 0 b/\∃cs t fr,w.heap[b]?=some (.cells cs t fr))
  {ts ts':Array Value} (ha:Cx (Cw T) ts ts') (hG:∀g,G g=true->T g) (Q:Array Value->World->Prop)
  (hc:∀(Tp:Tape) (d:Nat),code.wp P (fun e a' w'=>e=.normal/\a'.defers=[]/\Q a'.tmps w') ⟨ts,[]⟩ (re (Eb (Cw T) T w) Tp d))
  (hK:∀I' w' ts ts' ρ w1,B3 I' w'->C1 I I'->(∀b,I.hs<=b->b < I'.hs->I'.bk b=.priv 0)->(∀b,b < I.hs->w'.heap[b]?=w.heap[b]?)->w'.tape=w.tape->Q ts w1->Cx ρ ts ts'->(Cw T).le ρ->Hi T I.hs ρ w1 w'->LV P ty top Post 0 I' w' (Conc.G (b.at ⟨ts',[]⟩ k) cs)) :
  LV P ty top Post 0 I w (Conc.G (b.at ⟨ts',[]⟩ (.code code::k)) cs):=by
 have h1:=Als (P:=P) (G:=G) (fs:=fs) (F:=T) (S:=fun _=>False) (ρ:=Cw T) (k:=k) (cs:=cs) (Q:=Q) bh hf hfi hok bu hbk (w0:=Eb (Cw T) T w) (Aa8 s hgl hT) ha (fun g hg=>⟨rfl,hG g hg⟩) (fun a b h=>.inr (by obtain⟨rfl,h⟩:=h;exact h)) (fun a b h=>h.1) (H8) hc;refine Ow h1 I s (fun _ q=>q.elim) (fun b hb=>(hT b hb).1) fun S' g' w' I' s' l hnew hold gh dg hk=>?_;obtain⟨ts1,ts1',ρ1,w1,rfl,hv,⟨Tp,d,hR⟩,hw,hS,hle,hid,_⟩:=hk;refine hK I' w' ts1 ts1' ρ1 (re w1 Tp d) s' l hnew (fun b hb=>hold b hb fun q=>q) gh hR hv hle ?_;exact Aas (gs:=P.globals.size) (w1:=re w1 Tp d) (S:=S') hw hid hS (fun b q=>(dg b q).elim (fun q=>q.elim) id) fun b q=>(hT b q).1.1
end
section
variable {top:Nat} {I I' I2:Ab} {w w' w2 w1:World} {Post:Value->World->Prop} {c b:Frame} {rest:List Frame} {n m:Nat}
structure After (I:Ab) (w:World) (I':Ab) (w':World):Prop where
 solo:B3 I' w'
 later:C1 I I'
 stays:B4 I w I' w'
 tape:w'.tape=w.tape
 new:∀b,I.hs<=b->b < I'.hs->I'.bk b=.priv 0
structure Avf (I:Ab) (w:World) (I':Ab) (w':World):Prop where
 solo:B3 I' w'
 stays:B4 I w I' w'
 tape:w'.tape=w.tape
 cnt:I'.cnt<=I.cnt+16
theorem Lx {G:Nat->Bool} {fs:List Nat} (bh:∀f,fs.contains f=true->Cj prog G fs f=true) {f:Nat} (hf:fs.contains f=true) (s:B3 I w) (hgl:prog.globals.size<=I.hs)
  {args:Array Value} (ha:Cx (Cw (D7 I w)) args args) (hG:∀g,G g=true->D7 I w g) (R:Value->World->Prop)
  (hc:∀(Tp:Tape) (d:Nat),Calls prog f args (LW I w Tp d) (fun e w'=>∃v,e=.returned v/\R v w'))
  (hK:∀I' w' v v' ρ w1,After I w I' w'->R v w1->VR ρ v v'->Hi (D7 I w) I.hs ρ w1 w'->LT top Post 0 I' w' (Conc.G (c.finish v') rest)) :
  LT top Post 0 I w (Conc.G (Frame.enter prog f args .normal) (c::rest)) :=
 Tq bh hf s hgl (D7 I w) (fun b hb=>⟨hb.1,hb.2⟩) ha hG R hc fun I' w' v v' ρ w1 s' l hnew hold gh hR hv sm=>hK I' w' v v' ρ w1 ⟨s',l,.of l hold,gh,hnew⟩ hR hv sm
theorem Af9 {G:Nat->Bool} {fs:List Nat} (bh:∀f,fs.contains f=true->Cj prog G fs f=true) {f:Nat} {fn:Func} (hf:prog.funcs[f]?=some fn) (hfi:(prog.inits.idxOf? f).isNone=true) {code:Code} (hok:Ee prog G fs code=true) (bu:b.fn=f) (hbk:b.kind=.normal) (s:B3 I w) (hgl:prog.globals.size<=I.hs)
  {ts:Array Value} (ha:Cx (Cw (D7 I w)) ts ts) (hG:∀g,G g=true->D7 I w g) (R:Value->World->Prop)
  (hc:∀(Tp:Tape) (d:Nat),code.wp prog (bodyPost prog fn (fun e w'=>∃v,e=.returned v/\R v w')) ⟨ts,[]⟩ (LW I w Tp d))
  (hK:∀I' w' v v' ρ w1,After I w I' w'->R v w1->VR ρ v v'->Hi (D7 I w) I.hs ρ w1 w'->LT top Post 0 I' w' (Conc.G (c.finish v') rest)) :
  LT top Post 0 I w (Conc.G (b.at ⟨ts,[]⟩ [.code code]) (c::rest)) :=
 Ad3 bh hf hfi hok bu hbk s hgl (D7 I w) (fun b hb=>⟨hb.1,hb.2⟩) ha hG R hc fun I' w' v v' ρ w1 s' l hnew hold gh hR hv sm=>hK I' w' v v' ρ w1 ⟨s',l,.of l hold,gh,hnew⟩ hR hv sm
theorem F7 {ρ:Bn}:Cx ρ #[] #[]:=Cx.empty
theorem Be {ρ:Bn} {v:Value} {l:List Value} (h:VR ρ v v) (k:Cx ρ l.toArray l.toArray):Cx ρ (v::l).toArray (v::l).toArray:=by
 refine⟨rfl,fun i h1 h2=>?_⟩;cases i with
 | zero=>exact h
 | succ i =>
  have q:=k.at_ i (by simpa using h1) (by simpa using h1);rw[List.getElem_toArray] at q ⊢;exact q
theorem Zx (k:List (BitVec 8)):∀v∈F4 k,∃kd n,v=.int kd n:=fun v hv=>by
 obtain⟨y,_,rfl⟩:=List.mem_map.1 hv;exact⟨_,_,rfl⟩
theorem Oz (l:Dg):∀x∈l,∀v∈F4 x,∃kd n,v=.int kd n:=fun x _=>Zx x
theorem Afr (p:Pt):∀v∈C0 p,∃kd n,v=.int kd n:=fun v hv=>by
 unfold C0 at hv;rcases List.mem_append.1 hv with h|h
 ·exact Zx _ v h
 ·rw[List.mem_singleton] at h;exact⟨_,_,h⟩
structure F2 (I:Ab) (w:World) (a:Option Addr) (cap:Nat) (ls:Dg):Prop where
 txts:La w a cap ls
 held:Hx I w a
 rows:∀b off i x n c,a=some ⟨b,off,none⟩->i < ls.length->w.cell? ⟨b,off+i,none⟩=some (.slice x n c)->Hx I w x\/(n=0/\c=0)
theorem F2.lone {a:Option Addr} {cap:Nat} {ls:Dg} {Tp:Tape} {d:Nat} (h:F2 I w a cap ls):La (LW I w Tp d) a cap ls:=by
 refine⟨h.txts.fits,h.txts.room,?_⟩;rcases h.txts.rows with e|⟨b,off,e,hb⟩
 ·exact .inl e
 ·refine .inr ⟨b,off,e,fun i hi=>?_⟩;obtain⟨x,c,h1,h2⟩:=hb i hi;rcases h.rows b off i x _ c e hi h1 with hh|⟨h0,hc0⟩
  ·exact⟨x,c,Rj h1 hh.vr,Adz h2⟩
  ·subst hc0;rw[h0] at h1;have h3:(LW I w Tp d).cell? ⟨b,off+i,none⟩=some (Kn (Cw (D7 I w)) (.slice x 0 0)):=Wl h1;have ht:Sd ls i=[]:=List.eq_nil_of_length_eq_zero h0;cases x with
   | none =>
    rw[Y8 (.snil _ _)] at h3;exact⟨none,0,by rw[h0];exact h3,by rw[ht];exact Hz _⟩
   | some ad =>
    obtain⟨ad',e2⟩:=Ait (ρ:=Cw (D7 I w)) ad;rw[e2] at h3;exact⟨some ad',0,by rw[h0];exact h3,by rw[ht];exact⟨by simp,by omega,fun e=>(by cases e),.inl rfl⟩⟩
theorem Ab5 {ρ:Bn} (L M K W:Int) (s:BitVec 32):VR ρ (Ca L M K W s) (Ca L M K W s):=by
 unfold Ca;exact .agg rfl (Be (.int _ _) (Be (.int _ _) (Be (.int _ _) (Be (.int _ _) (Be (.int _ _) F7))))).at_
theorem Ad4 {L M K W:Int} {sd:BitVec 32} (s:B3 I w) (hgl:prog.globals.size<=I.hs)
  (hK:∀I' w',After I w I' w'->LT top Post 0 I' w' (Conc.G (c.finish (.int .i64 (if K5 L M K W then 0 else 2))) rest)) :
  LT top Post 0 I w (Conc.G (Frame.enter prog 20 #[Ca L M K W sd] .normal) (c::rest)):=by
 refine Lx We (by decide) s hgl (Be (Ab5 _ _ _ _ _) F7) (fun g hg=>by cases hg) (fun v w1=>v=.int .i64 (if K5 L M K W then 0 else 2)) (fun Tp d=>?_) fun I' w' v v' ρ w1 A h hv sm=>?_
 ·cases hb:K5 L M K W with
  | true =>
   obtain⟨h1,h2,h3,h4,h5,h6,h7⟩:=Rt.1 hb;exact(Aaa L M K W sd _ h1 h2 h3 h4 h5 h6 h7).mono fun e w' h=>⟨_,h.1,rfl⟩
  | false=>exact(Ape L M K W sd _ (Asq.1 hb)).mono fun e w' h=>⟨_,h.1,rfl⟩
 ·subst h;rw[Oh hv];exact hK I' w' A
theorem Wo {a a2:Option Addr} {cap cap2:Nat} {L:Dg} (s:B3 I w) (hgl:prog.globals.size<=I.hs) (hk:∀k∈L,k.length=32) (h1:Tx F4 32 I w a cap L) (h2:Tx F4 32 I w a2 cap2 L)
  (hK:∀I' w',After I w I' w'->LT top Post 0 I' w' (Conc.G (c.finish (.bool true)) rest)) :
  LT top Post 0 I w (Conc.G (Frame.enter prog 16 #[.slice a L.length cap,.slice a2 L.length cap2] .normal) (c::rest)):=by
 refine Lx We (by decide) s hgl (Be h1.held.vr (Be h2.held.vr F7)) (fun g hg=>by cases hg) (fun v w1=>v=.bool true) (fun Tp d=>(Aat _ a a2 cap cap2 L hk (h1.lone (Oz _)) (h2.lone (Oz _))).mono fun e w' h=>⟨_,h.1,rfl⟩) fun I' w' v v' ρ w1 A h hv sm=>?_;subst h;rw[Aaf hv];exact hK I' w' A
theorem Lo {rows:Dg} {out:Nat} (hn:n=rows.length) (hn2:n<=1000) (hout:∃cells,w.heap[out]?=some (.cells cells 40 (0,0))/\cells.size=32 * n/\∀x,x < n->∀o,o < 32->cells[32 * x+o]?=some (Si rows x o)) (hS:I.S 0 out):Tx F4 32 I w (some ⟨out,0,none⟩) n (rows.map Sha.sum):=by
 obtain⟨cells,h1,h2,h3⟩:=hout;refine⟨⟨by rw[List.length_map];omega,by omega,.inr ⟨out,0,rfl,fun i hi j v hv=>?_⟩⟩,fun ad e=>by injection e with e;subst e;exact⟨rfl,hS,_,_,_,h1⟩⟩;rw[List.length_map] at hi;rw[List.getElem_map] at hv;have hj:j < 32:=by
  have:=(List.getElem?_eq_some_iff.1 hv).1;simp only[F4,List.length_map,Cg] at this;exact this
 have h4:=h3 i (by omega) j hj;unfold World.cell?;rw[h1];simp only[Option.isSome_none,Bool.false_eq_true,if_false];rw[show 0+i * 32+j=32 * i+j by omega,h4];unfold Si;rw[List.getD_eq_getElem?_getD,List.getElem?_eq_getElem hi,Option.getD_some,<- hv];simp[F4,Ad,List.getD_eq_getElem?_getD,List.getElem?_eq_getElem (show j < (Sha.sum rows[i]).length by rw[Cg];exact hj)]
theorem Er.mem {a:Option Addr} {cap:Nat} {ls:Dg} (h:Er I w a cap ls) (hs:I.hs=w.heap.size) (hn:n=ls.length) (hl:∀r∈ls,r.length<=1048576) (hk:C2 w) (dw:I.bk 0=.priv 0):Hv (Eu I I.hs w) a n ls:=by
 have low:∀b,D7 I w b->I.bk b=.priv 0/\b≠I.hs:=fun b q=>⟨q.1.2,by have:=q.1.1;omega⟩;refine⟨hn,?_,fun i hi=>Cd dw (fun q=>?_) (hk i hi)⟩
 ·rcases h.txts.rows with rfl|⟨b,off,e,hb⟩
  ·exact⟨0,0,fun q=>absurd rfl q,fun x row hx=>by simp at hx⟩
  ·refine⟨b,off,fun _=>e,fun x row hx=>?_⟩;obtain⟨hlt,e2⟩:=List.getElem?_eq_some_iff.1 hx;obtain⟨x',c,h1,h2⟩:=hb x hlt;rw[Sc hlt,e2] at h1 h2;obtain⟨hx1,hx2⟩:=h.rows b off x x' _ c e hlt h1;obtain⟨p1,p2⟩:=low b (h.held _ e).2;refine⟨hl row (by rw[<- e2];exact List.getElem_mem hlt),x',c,Cd p1 p2 h1,⟨h2.fits,h2.room,h2.null,h2.bytes.imp id fun⟨b3,off3,e3,hb3⟩=>⟨b3,off3,e3,fun i hi=>?c1⟩⟩,fun ad e3=>?c2⟩
   case c1 =>
    obtain⟨q1,q2⟩:=low b3 (hx1 _ e3).2;exact Cd q1 q2 (hb3 i hi)
   case c2 =>
    obtain⟨b4,off4,e4,hb4⟩:=h2.bytes.resolve_left fun q=>by have:=hx2 ad e3;rw[q] at this;simp at this
    obtain⟨q1,q2⟩:=low ad.block (hx1 _ e3).2;rw[e3] at e4;injection e4 with e4;subst e4;exact⟨off4+0,_,Cd q1 q2 (hb4 0 (hx2 _ e3))⟩
 ·have h0:=hk 0 (by decide);have:=World.block_lt_of_cell? w _ h0;dsimp only at this;omega
end
open Go.Extern.Stop (cell)
section
variable {P:Program}
theorem Sz (d:Nat) (t e:TypeId) (n:Nat) (ht:P.underlying t=some (.array n e)) (he:P.underlying e=some (.int .u8)) (hsz:∀w,(sizeOf e).run P w=.ok 1 w) (w:World) (es:Array Event)
  (xs ys:List UInt8) (hx:xs.length=n) (hy:ys.length=n) :
  (Op.equalIn (d+2) t (.agg (xs.map cell).toArray) (.agg (ys.map cell).toArray)).events P w es=es:=by
 rw[Op.equalIn];simp only[Sem.events_bind,Sem.run_bind,run_underlying ht,events_underlying,Result.evThen_ok,Result.andThen_ok,hsz,events_sizeOf,Std.Legacy.Range.forIn_eq_forIn_range',Std.Legacy.Range.size,Nat.sub_zero,Nat.add_sub_cancel,Nat.div_one];have hl:∀i∈List.range' 0 n 1,i < n:=fun i hi=>by simpa using (List.mem_range'_1.1 hi).2
 generalize List.range' 0 n 1=l at hl ⊢
 induction l generalizing es with
 | nil=>simp
 | cons i l ih =>
  have hi:i < n:=hl i (by simp);have px:(part e (xs.map cell).toArray (i * 1)).run P w=.ok (cell (xs.getD i 0)) w:=by
   simp[part,isAgg,run_underlying he,List.getD,List.getElem?_eq_getElem (show i < xs.length by omega)]
  have py:(part e (ys.map cell).toArray (i * 1)).run P w=.ok (cell (ys.getD i 0)) w:=by
   simp[part,isAgg,run_underlying he,List.getD,List.getElem?_eq_getElem (show i < ys.length by omega)]
  have qx:∀es,(part e (xs.map cell).toArray (i * 1)).events P w es=es:=fun es=>by
   simp[part,isAgg,run_underlying he,List.getD,List.getElem?_eq_getElem (show i < xs.length by omega)]
  have qy:∀es,(part e (ys.map cell).toArray (i * 1)).events P w es=es:=fun es=>by
   simp[part,isAgg,run_underlying he,List.getD,List.getElem?_eq_getElem (show i < ys.length by omega)]
  have pe:∃b,(Op.equalIn (d+1) e (cell (xs.getD i 0)) (cell (ys.getD i 0))).run P w=.ok b w:=by
   rw[cell,cell,run_equalIn_int w d e .u8 .u8 _ _ he];exact⟨_,rfl⟩
  have qe:∀es,(Op.equalIn (d+1) e (cell (xs.getD i 0)) (cell (ys.getD i 0))).events P w es=es:=fun es=>by
   rw[cell,cell,Op.equalIn];simp[run_underlying he]
  obtain⟨b,pe⟩:=pe;simp only[List.forIn_cons,Sem.events_bind,Sem.run_bind,px,py,pe,qx,qy,qe,Result.andThen_ok,Result.evThen_ok];cases b
  ·simp
  ·simp only[Bool.not_true,Bool.false_eq_true,if_false,Sem.run_pure,Sem.events_pure,Result.andThen_ok,Result.evThen_ok];exact ih _ fun j hj=>hl j (by simp[hj])
end
theorem Tj (k m:List (BitVec 8)) (hk:k.length=32) (hm:m.length=32) (w:World) :
  (Op.equalIn 10000 40 (.agg (k.map U8).toArray) (.agg (m.map U8).toArray)).run prog w=.ok (k==m) w:=by
 have h:=run_equalIn_bytes (P:=prog) w 9998 40 5 32 underlying40 underlying5 (fun w=>by kernel_rfl) (k.map ub) (m.map ub) (by simpa using hk) (by simpa using hm)
 rwa [Ha,Ha,Ou] at h
theorem Agq (k m:List (BitVec 8)) (hk:k.length=32) (hm:m.length=32) (w:World) (es:Array Event) :
  (Op.equalIn 10000 40 (.agg (k.map U8).toArray) (.agg (m.map U8).toArray)).events prog w es=es:=by
 have h:=Sz (P:=prog) 9998 40 5 32 underlying40 underlying5 (fun w=>by kernel_rfl) w es (k.map ub) (m.map ub) (by simpa using hk) (by simpa using hm)
 rwa [Ha,Ha] at h
theorem Aee (ox oy:Operand) (a b:Array Value) (w:World) (es:Array Event):(eqGuard .neq 40 ox oy (.agg a) (.agg b)).events prog w es=es:=by
 have hq:prog.eqGuardType prog.depth 40=false:=by kernel_rfl
 unfold eqGuard;simp[hq]
theorem Akt (k m:List (BitVec 8)) (hk:k.length=32) (hm:m.length=32) (w:World) (es:Array Event) :
  (binOp .neq 40 (.agg (k.map U8).toArray) (.agg (m.map U8).toArray)).events prog w es=es:=by
 show (do pure (.bool (!(<- Op.equal 40 (.agg (k.map U8).toArray) (.agg (m.map U8).toArray)))):Sem Value).events prog w es=es;rw[Op.equal,Op.maxDepth];simp only[Sem.events_bind,Tj k m hk hm,Agq k m hk hm,Result.evThen_ok,Sem.events_pure]
end Go.Proofs.YtbicafgmfgdckaaGreatDoor
