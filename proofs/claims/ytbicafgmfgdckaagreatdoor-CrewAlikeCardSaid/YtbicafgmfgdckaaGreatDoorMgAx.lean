/- A piece. -/
import Derived.Test.YtbicafgmfgdckaaGreatDoorMgAw
set_option maxRecDepth 100000
set_option maxHeartbeats 16000000
set_option linter.all false
namespace Go.Proofs.YtbicafgmfgdckaaGreatDoor
open Go.Proofs.Tryz
open Go Go.RowKit Go.Conc Go.Conc.Lib Go.ConcR.Gen
open Go.ConcR (KK wgBlock WgAt stA smA rd wr mk DC0)
open Go.ConcN (sumTo upd upd_same upd_ne RelBy PermW WgLive)
theorem Rx {P:Program} (a:Addr):∀(n i:Nat) (acc:Array Value) (w:World) (es:Array Event),(∀j,j < n->(w.cell? (a.add (i+j))).isSome) ->
  ∀ev∈(loadCellsFrom a i n acc).events P w es,ev∈es\/∃j,ev=⟨.cell (a.add (i+j)),false,false⟩
 | 0,_,_,_,_,_=>fun ev h=>.inl (by simpa [loadCellsFrom] using h)
 | n+1,i,acc,w,es,hc=>fun ev h=>by
  simp only[loadCellsFrom,Sem.events_bind] at h;obtain⟨u,hu⟩:=Option.isSome_iff_exists.1 (hc 0 (by omega));simp only[Nat.add_zero] at hu;have hr:(load (a.add i)).run P w=.ok u w:=by simp[hu]
  rw[hr,events_load,hu] at h;rcases Rx a n (i+1) (acc.push u) w _ (fun j hj=>by have:=hc (j+1) (by omega);rwa [show i+(j+1)=i+1+j by omega] at this) ev h with h|⟨j,h⟩
  ·rcases Array.mem_push.1 h with h|rfl
   ·exact .inl h
   ·exact .inr ⟨0,rfl⟩
  ·exact .inr ⟨j+1,by rw[show i+(j+1)=i+1+j by omega];exact h⟩
theorem N9 {P:Program} {a:Act} {op:Oper} {ty:TypeId} {x:Operand} {g o:Nat} {vs:List Value} {w:World} (ho:op.op=.load ty x) (hx:a.eval x=.pointer (some ⟨g,o,none⟩))
  (ha:∀w,(isAgg ty).run P w=.ok true w) (hae:∀w es,(isAgg ty).events P w es=es) (hi:(P.info? ty).map (·.size)=some vs.length) (hc:∀j v,vs[j]?=some v->w.cell? ⟨g,o+j,none⟩=some v) :
  (execOp a.eval op).run P w=.ok (.value (.agg vs.toArray)) w/\∀ev∈(execOp a.eval op).events P w #[],∃j,ev=⟨.cell ⟨g,o+j,none⟩,false,false⟩:=by
 have hsz:∀w,(sizeOf ty).run P w=.ok vs.length w:=fun w=>by
  cases hq:P.info? ty with
  | none=>simp[hq] at hi
  | some i =>
   simp[hq] at hi;simp[sizeOf,typeInfo,hq,hi]
 have hse:∀w es,(sizeOf ty).events P w es=es:=fun w es=>by simp
 have hadd:∀j,(⟨g,o,none⟩:Addr).add j=⟨g,o+j,none⟩:=fun j=>by unfold Addr.add;split<;>simp_all
 have hr:(loadCells ⟨g,o,none⟩ vs.length).run P w=.ok vs.toArray w:=run_loadCells_list (P:=P) w ⟨g,o,none⟩ vs fun j v h=>by rw[hadd];exact hc j v h
 have he:=Rx (P:=P) ⟨g,o,none⟩ vs.length 0 #[] w #[] (fun j hj=>by
  rw[Nat.zero_add,hadd,hc j _ (List.getElem?_eq_getElem hj)];rfl)
 constructor
 ·unfold execOp;simp only[ho,hx,Instr.loadAt,Instr.sureAddr,loadVar,Sem.run_bind,Sem.run_pure,Result.andThen_ok,hsz,ha,if_true,hr]
 ·intro ev h;unfold execOp at h;simp only[ho,hx,Instr.loadAt,Instr.sureAddr,loadVar,Sem.events_bind,Sem.events_pure,Sem.run_bind,Sem.run_pure,Result.andThen_ok,Result.evThen_ok,hsz,hse,ha,hae,if_true,hr] at h;obtain⟨j,q⟩:=(he ev h).resolve_left (by simp);exact⟨j,by rw[Nat.zero_add,hadd] at q;exact q⟩
structure Aur (p:Ph) (Hw:World) (LB IB BB:Nat) (rows:List (List (BitVec 8))) (id:List (BitVec 8)):Prop where
 n:p.n=rows.length
 small:p.n<=1000
 rws:∃lb lo lc,(rows≠[]->Hw.cell? ⟨LB,0,none⟩=some (.slice (some ⟨lb,lo,none⟩) p.n lc))/\∀x row,rows[x]?=some row->row.length<=1048576/\∃ra rc,Hw.cell? ⟨lb,lo+x,none⟩=some (.slice ra row.length rc)/\A0 Hw ra rc row/\∀ad,ra=some ad->∃o v,Hw.cell? ⟨ad.block,o,none⟩=some v
 idl:id.length=32
 ib:∀j v,(id.map U8)[j]?=some v->Hw.cell? ⟨IB,j,none⟩=some v
 bb:Hw.cell? ⟨BB,0,none⟩=some (.pointer (some ⟨p.out,0,none⟩))
 k:C2 Hw
 hit:∀x row,rows[x]?=some row->(p.hit x↔Sha.sum row=id)
section
variable {top:Nat} {I I' I2:Ab} {p:Ph} {w w' w2:World} {i j k n:Nat} {Post:Value->World->Prop} {es:Array Event} {g g':Goroutine} {Hw:World} {LB IB BB:Nat} {id:List (BitVec 8)}
noncomputable def Rw:Array Oper:=match (match Tryz.f29.body with|some (.seq _ (.seq (.seq (.region _ ops _) _) _))=>some ops|_=>none) with|some ops=>ops|none=>#[]
theorem Am6:∀b0 b1 b2 b3 b4 b5 b6:Bool,Region.ready .any Rw #[b0,b1,b2,b3,b4,b5,b6]=[]->(b0&&b1&&b2&&b3&&b4&&b5&&b6)=true:=by decide +kernel
theorem Ajo:∀b0 b1 b2 b3 b4 b5 b6:Bool,0∈Region.ready .any Rw #[b0,b1,b2,b3,b4,b5,b6]->(!b0)=true:=by decide +kernel
theorem Ajn:∀b0 b1 b2 b3 b4 b5 b6:Bool,1∈Region.ready .any Rw #[b0,b1,b2,b3,b4,b5,b6]->(!b1)=true:=by decide +kernel
theorem Ajm:∀b0 b1 b2 b3 b4 b5 b6:Bool,2∈Region.ready .any Rw #[b0,b1,b2,b3,b4,b5,b6]->(!b2&&b0&&b1)=true:=by decide +kernel
theorem Ajl:∀b0 b1 b2 b3 b4 b5 b6:Bool,3∈Region.ready .any Rw #[b0,b1,b2,b3,b4,b5,b6]->(!b3&&b2)=true:=by decide +kernel
theorem Ajk:∀b0 b1 b2 b3 b4 b5 b6:Bool,4∈Region.ready .any Rw #[b0,b1,b2,b3,b4,b5,b6]->(!b4&&b3)=true:=by decide +kernel
theorem Ajj:∀b0 b1 b2 b3 b4 b5 b6:Bool,5∈Region.ready .any Rw #[b0,b1,b2,b3,b4,b5,b6]->(!b5)=true:=by decide +kernel
theorem Aji:∀b0 b1 b2 b3 b4 b5 b6:Bool,6∈Region.ready .any Rw #[b0,b1,b2,b3,b4,b5,b6]->(!b6&&b4&&b5)=true:=by decide +kernel
def Aus (p:Ph) (LB IB BB i x:Nat) (row id:List (BitVec 8)) (lb lo lc:Nat) (ra:Option Addr) (rc:Nat) (I0:Ab) (m:Nat) (listed:Array Bool) (T:Array Value) (I:Ab) (_:World):Prop :=
 ∃b0 b1 b2 b3 b4 b5 b6:Bool,∃t6 t7 t8 t9 t10 t11 t12:Value,listed=#[b0,b1,b2,b3,b4,b5,b6]/\m=(if b0 then 0 else 1)+(if b1 then 0 else 1)+(if b2 then 0 else 1)+(if b3 then 0 else 1)+(if b4 then 0 else 1)+(if b5 then 0 else 1)+(if b6 then 0 else 1)/\T=#[.int .i64 (x:Int),.pointer (some ⟨LB,0,none⟩),.pointer (some ⟨IB,0,none⟩),.pointer (some ⟨BB,0,none⟩),undef,.bool false,t6,t7,t8,t9,t10,t11,t12,undef,undef,undef] /\
 (b0=true->t6=(Value.slice (some ⟨lb,lo,none⟩) p.n lc))/\(b1=true->t7=(Value.int .i64 (x:Int)))/\(b2=true->t8=(Value.pointer (some ⟨lb,lo+x,none⟩)))/\(b3=true->t9=(Value.slice ra row.length rc))/\(b4=true->t10=(Value.agg ((Sha.sum row).map U8).toArray))/\(b5=true->t11=(Value.agg (id.map U8).toArray))/\(b6=true->t12=(Value.bool (Sha.sum row != id)))/\In p i x 0 (fun _=>.fresh) I/\Kw i I0 I
theorem Ako:upd (fun _:Nat=>ML.fresh) 0 .fresh=fun _=>.fresh:=by funext z;by_cases q:z=0<;>simp[upd,q]
theorem Aqx:upd skF 1 .fresh=skF:=by funext z;by_cases q:z=1<;>simp[upd,q,skF]
theorem Ao0 {rows:List (List (BitVec 8))} (hS:Alf i p I Hw) (hIn:Aur p Hw LB IB BB rows id) (ie:p.kind=.seek) (m7:p.b<=i) (hi0:i≠0) (hgl:prog.globals.size<=I.hs):Job p top Post i I w 29 #[.pointer (some ⟨LB,0,none⟩),.pointer (some ⟨IB,0,none⟩),.pointer (some ⟨BB,0,none⟩)]:=by
 intro x I1 w1 c cs fn cd fg gq ji hp ht hd cu ft hI hK hK2;rw[func29] at fg;obtain rfl:=Option.some.inj fg;obtain rfl:(Tryz.f29.body.getD .skip)=cd:=by rw[gq];rfl
 clear fg gq;obtain⟨row,hrow⟩:∃row,rows[x]?=some row:=⟨rows[x]'(by rw[<- hIn.n];exact ft),by simp⟩;have hne:rows≠[]:=fun e=>by rw[e] at hrow;simp at hrow
 obtain⟨lb,lo,lc,hlb,hr⟩:=hIn.rws;replace hlb:=hlb hne;obtain⟨hlen,ra,rc,ur,r7,hra⟩:=hr x row hrow;clear hr;have hsm:=hIn.small;have li:(0:Int)<=(x:Int)/\(x:Int) < (p.n:Int):=⟨by omega,by omega⟩;have yh:In p i x 0 (fun _=>.fresh) I1:=⟨hp,ie,m7,hi0,ht,hd,fun m _=>cu m⟩;clear hp hd ht cu;have hg:=yh.ng;have hs:=yh.ns;simp only[Tryz.f29,Option.getD_some]
 (try walk_nrm);refine Am (Au ?_);simp only[ix,Nat.reduceAdd];refine Ai fun v W H=>?_;go_simp;refine H _ ?_;clear H W v;(try walk_nrm);refine len (Am (Am ?_))
 refine Oy (by kernel_rfl) hs fun t=>?_;refine Sv (Aus p LB IB BB i x row id lb lo lc ra rc I1) (fun listed T I w h=>?_) (fun m listed T I w h=>?_) (fun m listed T I w h l hl rest ac=>?_) _ _ _ _ _ _ ⟨_,_,_,_,_,_,_,_,_,_,_,_,_,_,rfl,rfl,rfl,nofun,nofun,nofun,nofun,nofun,nofun,nofun,yh,.refl _ _⟩
 ·obtain⟨b0,b1,b2,b3,b4,b5,b6,t6,t7,t8,t9,t10,t11,t12,rfl,hm,rfl,q0,q1,q2,q3,q4,q5,q6,hin,hk2⟩:=h;have hall:b0=true/\b1=true/\b2=true/\b3=true/\b4=true/\b5=true/\b6=true:=by
   revert hm
   cases b0<;>cases b1<;>cases b2<;>cases b3<;>cases b4<;>cases b5<;>cases b6<;>simp
  obtain⟨rfl,rfl,rfl,rfl,rfl,rfl,rfl⟩:=hall;obtain rfl:=q6 rfl;clear hm q0 q1 q2 q3 q4 q5 hg hs hI;have hg:=hin.ng;by_cases he:Sha.sum row=id
  ·have hb:(Sha.sum row != id)=false:=by simp[he]
   have hh:=(hIn.hit x row hrow).2 he;rw[hb];have hs:=hin.ns;have hkk:=ji.trans hk2;refine len (Gl ?_);refine Gz (Am (Au ?_));simp only[ix,Nat.reduceAdd];have ag:=hkk.F (hS _ _ _ hIn.bb).1;refine Yt (ad:=⟨BB,0,none⟩) (v:=.pointer (some ⟨p.out,0,none⟩)) hs (fun IV wV hrl au=>⟨(hS.keeps au ((hrl.live hg).ph _ hin.on) (hkk.trans (hrl.live hg).kw)) _ _ hIn.bb,.inl ⟨_,rfl,rfl,.inr ⟨(hrl.live hg).kw.F ag,rfl⟩⟩⟩) fun v W hcell H=>?_;go_simp;refine H _ ?_ (by simp[go_sem,hcell]);clear H hcell W v;try walk_nrm
   refine Ai fun v W H=>?_;go_simp;refine H _ ?_;clear H W v;(try walk_nrm);refine Bz (fun _=>Aj (first:=#[]) (caps:=#[]) (vs:=#[.pointer (some ⟨p.out,0,none⟩),.int .i64 (x:Nat)]) rfl rfl (by k_ne) rfl rfl (by simp[Act.eval]) func30 (by kernel_rfl) rfl) ?_;refine Af4 (f:=fun _=>.fresh) (fun k hk jk=>.inr rfl) (by rw[Ako];exact hin) hh fun I5 w5 h5 A5 t5=>?_;rw[Frame.finish_at];clear hg;have hg:=h5.ng;(try walk_nrm);refine len (Am (Au ?_));simp only[ix,Nat.reduceAdd];refine Ai fun v W H=>?_;go_simp;refine H _ ?_;clear H W v;(try walk_nrm);refine len ?_;refine Bz (fun _=>stepG_ret') ?_;exact Ak rfl hg (fun w2=>stepG_leave (v:=.bool false) rfl rfl func29 (by kernel_rfl) (by kernel_rfl)) (hK2 I5 w5 ie (hk2.trans A5.kw) (by rw[Aqx];exact h5) t5)
  ·have hb:(Sha.sum row != id)=true:=by simp[he]
   rw[hb];refine len (Hd ?_);refine Am (Au ?_);simp only[ix,Nat.reduceAdd];refine Ai fun v W H=>?_;go_simp;refine H _ ?_;clear H W v;try walk_nrm
   refine Zu hin rfl (fun k hk=>.inr rfl) (fun q=>absurd ((hIn.hit x row hrow).1 q) he) (fun w=>stepG_region_end) fun I7 w7 td mq jp lq=>?_;clear hg;have hg:I7.tag i≠.gone:=by rw[jp];simp
   (try walk_nrm);refine Bz (fun _=>stepG_ret') ?_
   exact Ak rfl hg (fun w2=>stepG_leave (v:=.bool true) rfl rfl func29 (by kernel_rfl) (by kernel_rfl)) (hK I7 w7 (hk2.trans td) mq jp lq)
 ·obtain⟨b0,b1,b2,b3,b4,b5,b6,t6,t7,t8,t9,t10,t11,t12,rfl,hm,rfl,q0,q1,q2,q3,q4,q5,q6,hin,hk2⟩:=h;intro hr;have:=Am6 _ _ _ _ _ _ _ hr;simp only[Bool.and_eq_true] at this;obtain⟨⟨⟨⟨⟨⟨rfl,rfl⟩,rfl⟩,rfl⟩,rfl⟩,rfl⟩,rfl⟩:=this;simp at hm
 ·obtain⟨b0,b1,b2,b3,b4,b5,b6,t6,t7,t8,t9,t10,t11,t12,rfl,hm,rfl,q0,q1,q2,q3,q4,q5,q6,hin,hk2⟩:=h;clear hg hs hI;have hg:=hin.ng;have hs:=hin.ns;have hkk:=ji.trans hk2;have av:l < 7:=by
   have hl':=hl;unfold Region.ready at hl';have:=(List.mem_filter.1 hl').1;simpa using this
  have hl4:l=0\/l=1\/l=2\/l=3\/l=4\/l=5\/l=6:=by omega
  clear av;rcases hl4 with rfl|rfl|rfl|rfl|rfl|rfl|rfl
  ·have hb:=Ajo _ _ _ _ _ _ _ hl;simp only[Bool.and_eq_true,Bool.not_eq_true'] at hb;obtain rfl:=hb;have ag:=hkk.F (hS _ _ _ hlb).1;refine Yt (ad:=⟨LB,0,none⟩) (v:=(Value.slice (some ⟨lb,lo,none⟩) p.n lc)) hs (fun IV wV hrl au=>⟨(hS.keeps au ((hrl.live hg).ph _ hin.on) (hkk.trans (hrl.live hg).kw)) _ _ hlb,.inl ⟨_,rfl,rfl,.inr ⟨(hrl.live hg).kw.F ag,rfl⟩⟩⟩) fun v W hcell H=>?_;go_simp;refine H _ ?_ (by simp[go_sem,hcell]);clear H hcell W v;try walk_nrm
   exact ac _ _ _ ⟨_,_,_,_,_,_,_,_,_,_,_,_,_,_,rfl,(by simp only[Bool.false_eq_true,if_false,if_true] at hm ⊢;omega),rfl,(fun _=>rfl),q1,q2,q3,q4,q5,q6,hin,hk2⟩
  ·have hb:=Ajn _ _ _ _ _ _ _ hl;simp only[Bool.and_eq_true,Bool.not_eq_true'] at hb;obtain rfl:=hb;refine Ai fun v W H=>?_;go_simp;refine H _ ?_;clear H W v;try walk_nrm
   exact ac _ _ _ ⟨_,_,_,_,_,_,_,_,_,_,_,_,_,_,rfl,(by simp only[Bool.false_eq_true,if_false,if_true] at hm ⊢;omega),rfl,q0,(fun _=>rfl),q2,q3,q4,q5,q6,hin,hk2⟩
  ·have hb:=Ajm _ _ _ _ _ _ _ hl;simp only[Bool.and_eq_true,Bool.not_eq_true'] at hb;obtain⟨⟨rfl,rfl⟩,rfl⟩:=hb;obtain rfl:=q0 rfl;obtain rfl:=q1 rfl;refine Ai fun v W H=>?_;go_simp;refine H _ ?_ (by simp[go_sem];exact events_indexAt_slice _ _ _ _ _ _ (by kernel_rfl) li);clear H W v;try walk_nrm
   exact ac _ _ _ ⟨_,_,_,_,_,_,_,_,_,_,_,_,_,_,rfl,(by simp only[Bool.false_eq_true,if_false,if_true] at hm ⊢;omega),rfl,(fun _=>rfl),(fun _=>rfl),(fun _=>rfl),q3,q4,q5,q6,hin,hk2⟩
  ·have hb:=Ajl _ _ _ _ _ _ _ hl;simp only[Bool.and_eq_true,Bool.not_eq_true'] at hb;obtain⟨rfl,rfl⟩:=hb;obtain rfl:=q2 rfl;have ag:=hkk.F (hS _ _ _ ur).1;refine Yt (ad:=⟨lb,lo+x,none⟩) (v:=(Value.slice ra row.length rc)) hs (fun IV wV hrl au=>⟨(hS.keeps au ((hrl.live hg).ph _ hin.on) (hkk.trans (hrl.live hg).kw)) _ _ ur,.inl ⟨_,rfl,rfl,.inr ⟨(hrl.live hg).kw.F ag,rfl⟩⟩⟩) fun v W hcell H=>?_;go_simp;refine H _ ?_ (by simp[go_sem,hcell]);clear H hcell W v;try walk_nrm
   exact ac _ _ _ ⟨_,_,_,_,_,_,_,_,_,_,_,_,_,_,rfl,(by simp only[Bool.false_eq_true,if_false,if_true] at hm ⊢;omega),rfl,q0,q1,(fun _=>rfl),(fun _=>rfl),q4,q5,q6,hin,hk2⟩
  ·have hb:=Ajk _ _ _ _ _ _ _ hl;simp only[Bool.and_eq_true,Bool.not_eq_true'] at hb;obtain⟨rfl,rfl⟩:=hb;obtain rfl:=q3 rfl;refine An rfl hg fun I2 w2 hrl hI hi=>?_;have l2:=hrl.live hg;have ax:=l2.ph _ hin.on;have hk3:=hkk.trans l2.kw;have kp:=hS.keeps hI ax hk3;have hs3:¬(I2.tag i).tied:=by rw[hrl.tag];exact hs
   refine .go _ w2 #[] I2 (Ea (vs:=#[.slice ra row.length rc]) rfl rfl (by k_ne) rfl (by simp[Act.eval]) func25 (by kernel_rfl) (by rfl)) (Fj hI hi _) ?_;refine Ss (Ahb (F:=I2.F i) (S:=I2.S i) (fun b hb=>by rw[<- hI.hs];exact hb.1) (by rw[<- hI.hs];exact Nat.le_trans hgl hk3.hs) (hIn.k.keeps kp) (hk3.F (hS _ _ _ (hIn.k 0 (by decide))).1) (r7.keeps kp) hlen (fun ad e=>?_)) I2 rfl hI.hs (fun b hb=>hb) hs3 fun S' g' w' I' hx dg hs' e=>?_
   ·obtain⟨o,v,hv⟩:=hra ad e;exact⟨hk3.F (hS _ _ _ hv).1,He (kp _ _ hv)⟩
   ·subst e;rw[Frame.finish_at];try walk_nrm
    have h2:=(hin.rely hrl).1;exact ac _ _ _ ⟨_,_,_,_,_,_,_,_,_,_,_,_,_,_,rfl,(by simp only[Bool.false_eq_true,if_false,if_true] at hm ⊢;omega),rfl,q0,q1,q2,(fun _=>rfl),(fun _=>rfl),q5,q6,⟨hx.ph _ ⟨ax,.inl hin.i0⟩,h2.kind,h2.b,h2.i0,hx.tag.trans h2.tag,hx.deaf.trans h2.deaf,fun m hm=>(hx.ml m).trans (h2.ml m hm)⟩,hk2.trans (l2.kw.trans hx.kw)⟩
  ·have hb:=Ajj _ _ _ _ _ _ _ hl;simp only[Bool.and_eq_true,Bool.not_eq_true'] at hb;obtain rfl:=hb;have hib:=hIn.ib 0 _ (List.getElem?_eq_getElem (by simp[hIn.idl]));have ag:=hkk.F (hS _ _ _ hib).1;refine E3 rfl hs (fun IV wV hrl au=>?_);have hl:=N9 (P:=prog) (a:=⟨#[.int .i64 (x:Int),.pointer (some ⟨LB,0,none⟩),.pointer (some ⟨IB,0,none⟩),.pointer (some ⟨BB,0,none⟩),undef,.bool false,t6,t7,t8,t9,t10,t11,t12,undef,undef,undef],[]⟩) (op:=Rw[5]) (x:=.tmp 2) (ty:=40) (g:=IB) (o:=0) (vs:=id.map U8) (w:=wV) (by kernel_rfl) rfl (fun w=>by kernel_rfl) (fun w es=>by kernel_rfl) (by rw[List.length_map,hIn.idl];kernel_rfl) (fun j v hv=>by
    rw[Nat.zero_add];exact(hS.keeps au ((hrl.live hg).ph _ hin.on) (hkk.trans (hrl.live hg).kw)) _ _ (hIn.ib j v hv))
   rw[stepG_value rfl rfl (by k_ne) hl.1];refine⟨⟨rfl,fun e he=>?_⟩,?_⟩
   ·obtain⟨j,rfl⟩:=hl.2 e (mem_listed he);exact .inl ⟨_,rfl,rfl,.inr ⟨(hrl.live hg).kw.F ag,rfl⟩⟩
   ·exact ac _ _ _ ⟨_,_,_,_,_,_,_,_,_,_,_,_,_,_,rfl,(by simp only[Bool.false_eq_true,if_false,if_true] at hm ⊢;omega),rfl,q0,q1,q2,q3,q4,(fun _=>rfl),q6,hin,hk2⟩
  ·have hb:=Aji _ _ _ _ _ _ _ hl;simp only[Bool.and_eq_true,Bool.not_eq_true'] at hb;obtain⟨⟨rfl,rfl⟩,rfl⟩:=hb;obtain rfl:=q4 rfl;obtain rfl:=q5 rfl;refine Wp rfl hg (fun wV=>?_);refine goes_oper_k rfl rfl (by k_ne) (fun W hW=>?_);go_simp;rw[Tj _ _ (Cg _) hIn.idl];simp only[Result.andThen_ok];refine hW _ _ ⟨⟨rfl,Ax (by simp[go_sem];rw[Aee];exact Akt _ _ (Cg _) hIn.idl _ _)⟩,?_⟩;clear hW;clear W wV;try walk_nrm
   exact ac _ _ _ ⟨_,_,_,_,_,_,_,_,_,_,_,_,_,_,rfl,(by simp only[Bool.false_eq_true,if_false,if_true] at hm ⊢;omega),rfl,q0,q1,q2,q3,(fun _=>rfl),(fun _=>rfl),(fun _=>rfl),hin,hk2⟩
end
section
variable {top:Nat} {I I' I2:Ab} {w w' w2 w1:World} {Post:Value->World->Prop} {c b:Frame} {rest cs:List Frame} {n m IB:Nat} {id id':List (BitVec 8)} {a:Act} {kk:List Item} {ops:Array Oper} {l:Nat} {o:Oper} {rs:List Nat}
theorem Ly {x:Operand} {B off:Nat} (s:B3 I w) (hS:I.S 0 B) (hid:id.length=32) (hc:∀j v,(id.map U8)[j]?=some v->w.cell? ⟨B,off+j,none⟩=some v) (ho:ops[l]?=some o) (hw:Region.wanted o (yielded ops a.tmps)=true) (hk:b.kind≠.early) (hop:o.op=.load 40 x) (hx:a.eval x=.pointer (some ⟨B,off,none⟩))
  (K:LT top Post 0 I w (G (b.at (a.put o.dst (.agg (id.map U8).toArray)) (.inRegion ops rs::kk)) cs)):LT top Post 0 I w (G (b.at a (.inRegion ops (l::rs)::kk)) cs):=by
 refine E3 rfl s.ns (fun IV wV hrl au=>?_);have hl:=N9 (P:=prog) (a:=a) (op:=o) (x:=x) (ty:=40) (g:=B) (o:=off) (vs:=id.map U8) (w:=wV) hop hx (fun w=>by kernel_rfl) (fun w es=>by kernel_rfl) (by rw[List.length_map,hid];kernel_rfl) (fun j v hv=>by
  rw[World.cell?,(s.rel hrl).2.1];exact hc j v hv)
 rw[stepG_value ho hw hk hl.1];refine⟨⟨rfl,fun e he=>?_⟩,K⟩;obtain⟨j,rfl⟩:=hl.2 e (mem_listed he);exact .inl ⟨_,rfl,rfl,.inl (by rw[hrl.S s.ng];exact hS)⟩
theorem Yv {x y:Operand} (s:B3 I w) (f:D5 0 I w IB (.priv 0) (.cells (id.map U8).toArray 40)) (hid:id.length=32) (yi:id'.length=32) (ho:ops[l]?=some o) (hw:Region.wanted o (yielded ops a.tmps)=true) (hk:b.kind≠.early) (hop:o.op=.store 40 x y) (hx:a.eval x=.pointer (some ⟨IB,0,none⟩)) (hy:a.eval y=.agg (id'.map U8).toArray)
  (K:∀I' w',B3 I' w'->C1 I I'->(∀z,z < I.hs->z≠IB->w'.heap[z]?=w.heap[z]?)->w'.tape=w.tape->D5 0 I' w' IB (.priv 0) (.cells (id'.map U8).toArray 40)->LT top Post 0 I' w' (G (b.at (a.put o.dst undef) (.inRegion ops rs::kk)) cs)):LT top Post 0 I w (G (b.at a (.inRegion ops (l::rs)::kk)) cs):=by
 refine V6 s rfl fun w2 e1 e2=>?_;have j0:w2.heap[IB]?=some (.cells (id.map U8).toArray 40 (0,0)):=by rw[e1];exact f.heap
 have tj:(prog.info? 40).map (·.size)=some (id'.map U8).length:=by rw[List.length_map,yi];kernel_rfl
 have hfit:0+(id'.map U8).length<=(id.map U8).toArray.size:=by simp[hid,yi]
 have hv1:∀v∈id'.map U8,v.oneCell'=true:=fun v hv=>by obtain⟨y,_,rfl⟩:=List.mem_map.1 hv;rfl
 have hst:=Gg (P:=prog) (a:=a) (op:=o) (o:=0) hop hx hy tj j0 hfit hv1;refine⟨_,_,_,stepG_none ho hw hk hst.1,⟨by simp[World.setRow],rfl,rfl,rfl,fun z _ hz=>setRow_other _ _ _ _ fun q=>hz (by rw[q];exact⟨f.lt,f.bk⟩),fun e he=>?_⟩,fun I' s' l' _=>K I' _ s' l' (fun z hz hne=>(setRow_other _ _ _ _ hne).trans (by rw[e1])) e2 ⟨Nat.lt_of_lt_of_le f.lt l'.hs,(l'.bk _ f.lt).trans f.bk,?_⟩⟩
 ·obtain⟨j,_,rfl⟩:=hst.2 e (mem_listed he);exact .inl ⟨_,rfl,rfl,.inl (.inl ⟨f.lt,f.bk⟩)⟩
 ·rw[setRow_heap _ _ _ _ _ _ j0];have:(id.map U8).length=(id'.map U8).length:=by simp[hid,yi]
  simp[this]
def Ab.hide (I:Ab) (B:Nat):Ab:={ I with bk:=Go.ConcN.upd I.bk B .mix }
theorem L1 {z:Nat} (h:z≠IB):(I.hide IB).bk z=I.bk z:=Go.ConcN.upd_ne _ _ h
theorem Rs:(I.hide IB).bk IB=.mix:=Go.ConcN.upd_same _ _ _
theorem Nu {z:Nat} (h:(I.hide IB).bk z=.priv 0):z≠IB/\I.bk z=.priv 0:=by
 by_cases q:z=IB
 ·subst q;rw[Rs] at h;cases h
 ·exact⟨q,by rw[<- L1 q];exact h⟩
theorem Aox {z:Nat} (h:D7 (I.hide IB) w z):D7 I w z:=⟨⟨h.1.1,(Nu h.1.2).2⟩,h.2⟩
theorem B4.hide (h:B4 I w I' w'):B4 (I.hide IB) w (I'.hide IB) w':=⟨h.hs,fun z hz=>by
 by_cases q:z=IB
 ·subst q;rw[Rs,Rs]
 ·rw[L1 q,L1 q];exact h.bk z hz,fun z hz hp=>h.heap z hz (Nu hp).2⟩
theorem Hx.shown {ad:Option Addr} (h:Hx (I.hide IB) w ad):Hx I w ad:=fun a e=>⟨(h a e).1,Aox (h a e).2⟩
theorem Er.shown {ad:Option Addr} {cap:Nat} {ls:Dg} (h:Er (I.hide IB) w ad cap ls):Er I w ad cap ls:=⟨h.txts,h.held.shown,fun b off i x n c e hi hc=>let ⟨q1,q2⟩:=h.rows b off i x n c e hi hc;⟨q1.shown,q2⟩⟩
theorem Agc {ad:Option Addr} {cap:Nat} {ls:Dg} (s:B3 I w) (hgl:prog.globals.size<=I.hs) (ww:IB < I.hs) (hu:F2 (I.hide IB) w ad cap ls)
  (hK:∀I' w' x cx,After I w I' w'->Er (I'.hide IB) w' x cx (Md ls)->LT top Post 0 I' w' (Conc.G (c.finish (.slice x (Md ls).length cx)) rest)) :
  LT top Post 0 I w (Conc.G (Frame.enter prog 5 #[.slice ad ls.length cap] .normal) (c::rest)):=by
 refine Tq We (by decide) s hgl (D7 (I.hide IB) w) (fun b hb=>⟨⟨hb.1.1,(Nu hb.1.2).2⟩,hb.2⟩) (Be hu.held.vr F7) (fun g hg=>by cases hg) (fun v w1=>∃B vs,Bl (fun _=>False) w1 B 37 v vs (Md ls)/\Ag9 vs) (fun Tp d=>(Ar3 ad cap ls _ hu.lone).mono fun e w' ⟨v,vs,e1,h1,h2,_⟩=>⟨v,e1,_,vs,h1,h2⟩) fun I' w' v v' ρ w1 s' l hnew hold gh ⟨B,vs,h1,h2⟩ hv sm=>?_;have A:After I w I' w':=⟨s',l,.of l hold,gh,hnew⟩;obtain⟨x,cx,rfl,hx⟩:=Yp (I:=I.hide IB) (I':=I'.hide IB) sm A.stays.hide s'.hs (fun z hz hz2=>by
  have hz':I.hs<=z:=hz;rw[L1 (by omega)];exact hnew z hz hz2) h1 h2 hv
 exact hK I' w' x cx A hx
end
def Acx:Code->Nat->Code
 | .seq a _,0=>a
 | .seq _ b,n+1=>Acx b n
 | c,_=>c
noncomputable def Gd (n:Nat):Code:=Acx (Tryz.f23.body.getD .skip) n
noncomputable def Kt:List Code:=[Gd 1,Gd 2,Gd 3]
def Hk (x SB LB DB:Nat) (t6 t7 t8:Value) (us:List Value):Array Value:=(([.int .i64 (x:Int),.pointer (some ⟨SB,0,none⟩),.pointer (some ⟨LB,0,none⟩),.pointer (some ⟨DB,0,none⟩),undef,.bool false,t6,t7,t8]:List Value)++us).toArray
structure Ta (h:Avu.Sh) (w:World) (x SB LB:Nat) (row:List (BitVec 8)):Prop where
 c0:w.cell? ⟨SB,0,none⟩=some (.int .i64 h.L)
 c1:w.cell? ⟨SB,1,none⟩=some (.int .i64 h.M)
 c2:w.cell? ⟨SB,2,none⟩=some (.int .i64 h.K)
 c3:w.cell? ⟨SB,3,none⟩=some (.int .i64 h.W)
 c4:w.cell? ⟨SB,4,none⟩=some (Af h.s)
 rws:∃lb lo n lc a c,w.cell? ⟨LB,0,none⟩=some (.slice (some ⟨lb,lo,none⟩) n lc)/\x < n/\w.cell? ⟨lb,lo+x,none⟩=some (.slice a row.length c)/\A0 w a c row
 short:row.length<=100000
 k:C2 w
theorem Ta.keeps {h:Avu.Sh} {w w':World} {x SB LB:Nat} {row:List (BitVec 8)} (q:Ta h w x SB LB row) (k:Bm w w'):Ta h w' x SB LB row:=by
 obtain⟨lb,lo,n,lc,a,c,h1,h2,h5,h6⟩:=q.rws;exact⟨k _ _ q.c0,k _ _ q.c1,k _ _ q.c2,k _ _ q.c3,k _ _ q.c4,⟨lb,lo,n,lc,a,c,k _ _ h1,h2,k _ _ h5,h6.keeps k⟩,q.short,q.k.keeps k⟩
def Avd (h:Avu.Sh) (x SB LB DB:Nat) (row:List (BitVec 8)) (w:World) (ts:Array Value) (w':World):Prop :=
 ∃sa sc t7 us,us.length=30/\ts=Hk x SB LB DB (.slice sa (Avu.split h row).length sc) t7 undef us/\La w' sa sc (Avu.split h row)/\Below w.heap.size w w'
theorem Ajy (h:Avu.Sh) (g:h.Good) (x SB LB DB:Nat) (row:List (BitVec 8)) (w:World) (hin:Ta h w x SB LB row) :
  (Gd 1).wp prog (fun e a' w'=>e=.normal/\a'.defers=[]/\Avd h x SB LB DB row w a'.tmps w') ⟨Hk x SB LB DB undef undef undef (List.replicate 30 undef),[]⟩ w:=by
 obtain⟨d0,d1,d2,d3,d4,⟨lb,lo,n,lc,a,c,dl,ft,dr,aq⟩,hshort,_⟩:=hin;have c0:∀y:Kf w,y.to.cell? _=_:=fun y=>Bm.below y.below _ _ d0;have c1:∀y:Kf w,y.to.cell? _=_:=fun y=>Bm.below y.below _ _ d1;have c2:∀y:Kf w,y.to.cell? _=_:=fun y=>Bm.below y.below _ _ d2;have c3:∀y:Kf w,y.to.cell? _=_:=fun y=>Bm.below y.below _ _ d3;have c4:∀y:Kf w,y.to.cell? _=_:=fun y=>Bm.below y.below _ _ d4;have c5:∀y:Kf w,y.to.cell? _=_:=fun y=>Bm.below y.below _ _ dl;have c6:∀y:Kf w,y.to.cell? _=_:=fun y=>Bm.below y.below _ _ dr;have SP:=Y1 h g a c row w.drew (by omega) (aq.keeps (Bm.drewN w 1));have hb1:=(Below.refl w.heap.size w).drew;clear d0 d1 d2 d3 d4 dl dr aq;unfold Gd Hk;unfold shV Ca at *;simp only[Tryz.f23,Option.getD_some,Acx,List.replicate,List.cons_append,List.nil_append];refine B7 [([0,1,2,3,4],some 5),([6,7,8,9,10],none)] (fun w'=>∃y:Kf w,w'=y.to) (by kernel_rfl) (by kernel_rfl) (fun _ _ _ _ _ h=>by cases h.1) (Agh w) ?_;refine Bb (show wpQuiet _ _ _ _ (_::_::_::_::_::[]) _ from ?_)
 repeat (go_big_quiet_step (fail))
 refine wpQuiet_nil (show wpList _ _ _ (_::[]) _ _ from ?_);generalize hw:w.drew=w3 at *
 go_wp2_with fail
 refine SP.mono ?_;rintro e w2 ⟨sv,svs,rfl,srows,hb2⟩;obtain⟨sa,sc,rfl,hT⟩:=srows.texts;have HB:=Lib.hid (hb1.trans (hb2.mono hb1.size));have HT:=Lib.hid hT;clear srows hT hb1 hb2 SP
 go_wp2_with fail
 refine Ap (fun _ h=>h) (W6 HB.out) ?_;refine Dy (show wpQuiet _ _ _ _ (_::_::_::_::_::[]) _ from ?_)
 repeat (go_big_quiet_step (fail))
 refine wpQuiet_nil (Ez ?_);exact⟨rfl,rfl,sa,sc,_,[_,_,_,_,_,_,_,_,_,_,_,_,_,_,_,_,_,_,_,_,_,_,_,_,_,_,_,_,_,_],rfl,rfl,HT.out,HB.out⟩
theorem Aon {l:List Value} (h:l.length=30):∃a0 a1 a2 a3 a4 a5 a6 a7 a8 a9 a10 a11 a12 a13 a14 a15 a16 a17 a18 a19 a20 a21 a22 a23 a24 a25 a26 a27 a28 a29,l=[a0,a1,a2,a3,a4,a5,a6,a7,a8,a9,a10,a11,a12,a13,a14,a15,a16,a17,a18,a19,a20,a21,a22,a23,a24,a25,a26,a27,a28,a29]:=by
 match l,h with
 | [a0,a1,a2,a3,a4,a5,a6,a7,a8,a9,a10,a11,a12,a13,a14,a15,a16,a17,a18,a19,a20,a21,a22,a23,a24,a25,a26,a27,a28,a29],_=>exact⟨a0,a1,a2,a3,a4,a5,a6,a7,a8,a9,a10,a11,a12,a13,a14,a15,a16,a17,a18,a19,a20,a21,a22,a23,a24,a25,a26,a27,a28,a29,rfl⟩
def Aia (x SB LB DB B:Nat) (L:List Pt) (ts:Array Value) (w':World):Prop :=
 ∃t6 t7 v us,us.length=30/\ts=Hk x SB LB DB t6 t7 v us/\Ej C0 33 w' B 60 v L/\(L=[]->v=.slice none 0 0)
theorem Ajx (x SB LB DB:Nat) (t6 t7:Value) (us:List Value) (uk:us.length=30) (w:World) (Q:Array Value->World->Prop) (hQ:Q (Hk x SB LB DB t6 t7 (.slice none 0 0) us) w) :
  (Gd 2).wp prog (fun e a' w'=>e=.normal/\a'.defers=[]/\Q a'.tmps w') ⟨Hk x SB LB DB t6 t7 undef us,[]⟩ w:=by
 obtain⟨a0,a1,a2,a3,a4,a5,a6,a7,a8,a9,a10,a11,a12,a13,a14,a15,a16,a17,a18,a19,a20,a21,a22,a23,a24,a25,a26,a27,a28,a29,rfl⟩:=Aon uk;unfold Gd;unfold Hk at *;simp only[Tryz.f23,Option.getD_some,Acx,List.replicate,List.cons_append,List.nil_append] at *
 go_wp2_with fail
 exact hQ
def Apx (w:World) (ls:Dg) (v i:Value) (wr:World):Prop :=
 ∃k:Nat,k<=ls.length/\i=.int .i64 k/\Ej C0 33 wr w.heap.size 60 v ((ls.take k).map Hm)/\Below w.heap.size w wr/\(k=0->v=.slice none 0 0)
theorem Ajw (x SB LB DB B:Nat) (sa:Option Addr) (sc:Nat) (t7:Value) (ls:Dg) (us:List Value) (uk:us.length=30) (w:World) (hB:B<=w.heap.size) (hT:La w sa sc ls) (hk:C2 w) (ln:ls.length<=100001) (hsh:∀c∈ls,c.length<=100000) :
  (Gd 3).wp prog (fun e a' w'=>e=.normal/\a'.defers=[]/\Aia x SB LB DB B (ls.map Hm) a'.tmps w') ⟨Hk x SB LB DB (.slice sa ls.length sc) t7 (.slice none 0 0) us,[]⟩ w:=by
 have hfit:=hT.fits;have hroom:=hT.room;have HT:=Lib.hid hT;have HK:=Lib.hid hk;have HF:=Lib.hid ln;have HS:=Lib.hid hsh;have HB:=Lib.hid hB;clear hT hk ln hsh hB;obtain⟨a0,a1,a2,a3,a4,a5,a6,a7,a8,a9,a10,a11,a12,a13,a14,a15,a16,a17,a18,a19,a20,a21,a22,a23,a24,a25,a26,a27,a28,a29,rfl⟩:=Aon uk;unfold Gd;unfold Hk;simp only[Tryz.f23,Option.getD_some,Acx,List.replicate,List.cons_append,List.nil_append]
 go_wp2_with fail
 go_loopw [8,22] (fun v i wr=>Apx w ls v i wr) (fun _ i _=>ls.length - (intOf i).toNat)
 case atStart=>exact⟨0,Nat.zero_le _,rfl,Zm _ _ _,Below.refl _ _,fun _=>rfl⟩
 case round =>
  obtain⟨k,hk,rfl,HO,hbr,hnil⟩:=hrel;have HN:=Lib.hid hnil;clear hnil;by_cases hlt:k < ls.length
  ·obtain⟨b,off,rfl,hrows⟩:=(HT.out.keeps (Bm.below hbr)).rows.resolve_left (fun e=>by rw[e] at hlt;simp at hlt);obtain⟨x,c,hcell,aq⟩:=hrows k hlt;have il:(ls.take (k+1)).map Hm=(ls.take k).map Hm++[Hm (Sd ls k)]:=by
    rw[List.take_succ_eq_append_getElem hlt,List.map_append,Sc hlt];rfl
   have hfl:((ls.take k).map Hm).length<=100000:=by rw[List.length_map,List.length_take];have:=HF.out;omega
   have cu:(Sd ls k).length<=1048576:=by rw[Sc hlt];have:=HS.out _ (List.getElem_mem hlt);omega
   have HFL:=Lib.hid hfl;have HSN:=Lib.hid il;have HO1:=Lib.hid HO;have HBR:=Lib.hid hbr;have SS:=Ack x c (Sd ls k) wr aq cu (HK.out.keeps (Bm.below hbr)) fun h0=>Wc aq h0;clear il HO hbr hrows hfl aq;generalize Sd ls k=m at *;generalize (ls.take k).map Hm=FL at *
   go_wp2_with fail
   refine SS.mono ?_;rintro e w4 ⟨rfl,hb4⟩;have hkl:=Cg m;have hlen:(F4 (Sha.sum m)).length=32:=by unfold F4;rw[List.length_map];exact hkl
   have BP:=Ag0 (F4 (Sha.sum m)) hlen m.length;have hkc:F4 (Sha.sum m)=(Sha.sum m).map U8:=rfl;have hpc:C0 (Hm m)=F4 (Sha.sum m)++([.int .i64 (m.length:Int)]:List Value):=rfl;have dm:=Aj5 (Hm m);have hpl:(C0 (Hm m)).length=33:=Nn hkl;rw[hpc] at dm hpl;rw[hkc] at BP hpc dm hpl;have HPC:=Lib.hid hpc;have HON:=Lib.hid dm;have HPL:=Lib.hid hpl;have HB4:=Lib.hid hb4;have HO4:=Lib.hid (HO1.out.below hb4);have HS4:=Lib.hid hb4.size;clear hkc hlen hkl hpc dm hpl hb4 SS;generalize (Sha.sum m).map U8=C at *;obtain⟨D,hD⟩:∃D,C++([.int .i64 (m.length:Int)]:List Value)=D:=⟨_,rfl⟩;rw[hD] at BP HPC HON HPL;clear hD
   go_wp2_with (first
    |(with_reducible refine Api 60 ?_;go_must (refine Yo rfl 60 _ rfl D.toArray (by go_simp) ?_))
    |(with_reducible refine Ah4 35 ?_;go_must (refine Iu underlying35 Aj1 Afp (by decide) (by decide) rfl _ rfl rfl _ _ rfl w.heap.size _ FL HO4.out (Hm m) D HPC.out rfl rfl rfl HON.out HPL.out (by have:=HFL.out;omega) (by decide) (Nat.le_trans HBR.out.size HS4.out) ?_)))
   intro v5 w5 HO5 T5 hv5;have HBF:=Lib.hid (Y7 (HBR.out.trans (HB4.out.mono HBR.out.size)) (Nat.le_refl _) HO4.out T5);have HOF:=Lib.hid HO5;clear T5 hv5 HO5;go_wp2
   go_roundw
   case rel=>exact⟨k+1,by omega,by go_num,by rw[HSN.out];exact HOF.out,HBF.out,fun e=>by omega⟩
   case measure=>simp[intOf];omega
  ·obtain rfl:k=ls.length:=by omega
   rw[List.take_length] at HO;have HO1:=Lib.hid HO;clear HO hbr
   go_wp2_with fail
   exact⟨_,_,_,[_,_,_,_,_,_,_,_,_,_,_,_,_,_,_,_,_,_,_,_,_,_,_,_,_,_,_,_,_,_],rfl,rfl,HO1.out.mono HB.out,fun e=>HN.out (by simpa using e)⟩
theorem Ajz (h:Avu.Sh) (g:h.Good) (x SB LB DB:Nat) (row:List (BitVec 8)) (w:World) (hin:Ta h w x SB LB row) :
  Aau prog Kt (Aia x SB LB DB w.heap.size (Iz h row)) (Hk x SB LB DB undef undef undef (List.replicate 30 undef)) w:=by
 intro T d;have kp:∀(v:World) (T:Tape) (d:Nat),Bm v (re v T d):=fun v T d a u e=>e;refine Code.wp_mono ?_ (Ajy h g x SB LB DB row _ (hin.keeps (kp w T d)));rintro e a1 w1 ⟨e1,e2,sa,sc,t7,us,uk,e3,hT,hb⟩;refine⟨e1,e2,?_⟩;rw[e3];intro T1 d1;refine Ajx x SB LB DB _ _ us uk _ _ ?_;intro T2 d2;have hs:w.heap.size<=(re w1 T2 d2).heap.size:=hb.size;have hk:C2 w1:=(hin.k.keeps (kp w T d)).keeps (Bm.below hb);refine Code.wp_mono ?_ (Ajw x SB LB DB w.heap.size sa sc _ _ us uk _ hs (hT.keeps (kp w1 T2 d2)) (hk.keeps (kp w1 T2 d2)) (Nat.le_trans (Ai2 h row) (by have:=hin.short;omega)) fun c hc=>Nat.le_trans (Acs h row c hc) hin.short);rintro e a2 w2 ⟨q1,q2,q3⟩;exact⟨q1,q2,q3⟩
def Tb (L:List Pt) (v:Value) (ob:Option (Nat × Obj)):Prop :=
 (L=[]/\v=.slice none 0 0/\ob=none)\/∃(B cap:Nat) (cs:Array Value),v=.slice (some ⟨B,0,none⟩) L.length cap/\L.length<=cap/\cap<=maxLen/\(∀(j:Nat) (u:Value),(L.flatMap C0)[j]?=some u->cs[j]?=some u)/\ob=some (B,.cells cs 60 (0,0))
def R5 (h:Avu.Sh) (rows:List (List (BitVec 8))) (x:Nat) (v:Value) (ob:Option (Nat × Obj)):Prop :=
 ∃row u,rows[x]?=some row/\v=.agg #[.int .i64 (x:Int),u]/\Tb (Iz h row) u ob
theorem Akr (L:List Pt):∀u∈L.flatMap C0,∃k n,u=.int k n:=fun u hu=>by
 obtain⟨p,_,hp⟩:=List.mem_flatMap.1 hu;unfold C0 F4 at hp;rcases List.mem_append.1 hp with h|h
 ·obtain⟨y,_,rfl⟩:=List.mem_map.1 h;exact⟨_,_,rfl⟩
 ·rw[List.mem_singleton] at h;exact⟨_,_,h⟩
section
variable {gs x SB LB DB B d:Nat} {T:Tape} {F S:Nat->Prop} {ρ:Bn} {w1 W:World} {ts ts':Array Value} {L:List Pt}
theorem Aj0 {v v':Value} (hw:WR gs F ρ (re w1 W.tape W.drawn) W) (hS:∀a b,ρ a b->S b\/F b) (hv:VR ρ v v') (ho:Ej C0 33 (re w1 T d) B 60 v L) (hn:L=[]->v=.slice none 0 0) :
  ∃bl ob,Tb L v' ob/\match bl with
   | none=>ob=none
   | some g=>S g/\∃o,W.heap[g]?=some o/\ob=some (g,o):=by
 rcases ho.row.2 with⟨rfl,h0⟩|⟨g,cap,cur,rfl,_,hg,hnc,hcm,hsz,htk⟩
 ·have h0:L=[]:=List.eq_nil_of_length_eq_zero h0;cases hv with
  | snil=>exact⟨none,none,Or.inl ⟨h0,rfl,rfl⟩,rfl⟩
 ·have hne:L≠[]:=fun e=>by
   have:=hn e;injection this with this;cases this
  have hpos:0 < L.length:=List.length_pos_iff.2 hne;unfold Tb;generalize hL:L.length=nL at *;cases hv with
  | slice _ _ har =>
   rename_i ad';obtain⟨hb,i6,hs1⟩:=har;obtain⟨bk',of',sp'⟩:=ad';dsimp only at hb i6 hs1;subst i6 hs1;obtain⟨o,o',e1,e2,iz⟩:=hw.block _ _ hb;have e3:(re w1 W.tape W.drawn).heap[g]?=some (.cells cur 60 (0,0)):=hg;rw[e3] at e1;injection e1 with e1;subst e1;cases o' with
   | cells cs' t' fr' =>
    obtain⟨rfl,hvs,hF,hnF⟩:=iz;have hcs:0 < cur.size:=by
     rw[hsz];have:0 < cap:=by omega
     omega
    have hnf:¬F bk':=fun q=>by
     have:=hF q 0 hcs;omega
    obtain⟨_,rfl⟩:=hnF hnf;refine⟨some bk',_,Or.inr ⟨bk',cap,cs',rfl,hnc,hcm,fun j u hu=>?_,rfl⟩,(hS _ _ hb).resolve_right hnf,_,e2,rfl⟩;rw[<- htk] at hu;have hj:j < nL * 33:=by
     have:=(List.getElem?_eq_some_iff.1 hu).1;rw[List.length_take] at this;omega
    rw[List.getElem?_take_of_lt hj,Array.getElem?_toList] at hu;have hl:=(Array.getElem?_eq_some_iff.1 hu).1;have hl':j < cs'.size:=by rw[<- hvs.size];exact hl
    have hr:=hvs.at_ j hl hl';rw[Array.getElem?_eq_getElem hl] at hu;injection hu with hu;rw[hu] at hr;obtain⟨k,n,rfl⟩:=Akr L u (by rw[<- htk];exact List.mem_of_getElem? (i:=j) (by rw[List.getElem?_take_of_lt hj,Array.getElem?_toList,Array.getElem?_eq_getElem hl,hu]));rw[Array.getElem?_eq_getElem hl',Oh hr]
   | _=>exact iz.elim
  | slz q=>omega
theorem Y6 (h:Cx ρ ts ts') {i:Nat} {v:Value} (hv:ts[i]?=some v):∃v',ts'[i]?=some v'/\VR ρ v v':=by
 rcases h.get i with⟨e1,_⟩|⟨u,u',e1,e2,hr⟩
 ·rw[e1] at hv;cases hv
 ·rw[e1] at hv;injection hv with hv;subst hv;exact⟨u',e2,hr⟩
theorem At1 {l:List Value} (h:l.length=39):∃b0 b1 b2 b3 b4 b5 b6 b7 b8 b9 b10 b11 b12 b13 b14 b15 b16 b17 b18 b19 b20 b21 b22 b23 b24 b25 b26 b27 b28 b29 b30 b31 b32 b33 b34 b35 b36 b37 b38,l=[b0,b1,b2,b3,b4,b5,b6,b7,b8,b9,b10,b11,b12,b13,b14,b15,b16,b17,b18,b19,b20,b21,b22,b23,b24,b25,b26,b27,b28,b29,b30,b31,b32,b33,b34,b35,b36,b37,b38]:=by
 match l,h with
 | b0::b1::b2::b3::b4::b5::b6::b7::b8::b9::b10::b11::b12::b13::b14::b15::b16::b17::b18::b19::b20::b21::b22::b23::b24::b25::b26::b27::b28::b29::b30::b31::b32::b33::b34::b35::b36::b37::b38::[],_=>exact⟨b0,b1,b2,b3,b4,b5,b6,b7,b8,b9,b10,b11,b12,b13,b14,b15,b16,b17,b18,b19,b20,b21,b22,b23,b24,b25,b26,b27,b28,b29,b30,b31,b32,b33,b34,b35,b36,b37,b38,rfl⟩
theorem Afq (hw:WR gs F ρ (re w1 W.tape W.drawn) W) (hD:ρ DB DB) (h:Cx ρ ts ts') (hp:Aia x SB LB DB B L ts (re w1 T d)) (hS:∀a b,ρ a b->S b\/F b) :
  ∃b1 b2 b4 b5 b6 b7 b8 b9 b10 b11 b12 b13 b14 b15 b16 b17 b18 b19 b20 b21 b22 b23 b24 b25 b26 b27 b28 b29 b30 b31 b32 b33 b34 b35 b36 b37 b38,ts'=#[.int .i64 (x:Int),b1,b2,.pointer (some ⟨DB,0,none⟩),b4,b5,b6,b7,b8,b9,b10,b11,b12,b13,b14,b15,b16,b17,b18,b19,b20,b21,b22,b23,b24,b25,b26,b27,b28,b29,b30,b31,b32,b33,b34,b35,b36,b37,b38]/\∃bl ob,Tb L b8 ob/\match bl with
   | none=>ob=none
   | some g=>S g/\∃o,W.heap[g]?=some o/\ob=some (g,o):=by
 obtain⟨t6,t7,v,us,uk,rfl,ho,hn⟩:=hp;obtain⟨l⟩:=ts';have hl:l.length=39:=by
  have:=h.size;simp[Hk,uk] at this;omega
 obtain⟨b0,b1,b2,b3,b4,b5,b6,b7,b8,b9,b10,b11,b12,b13,b14,b15,b16,b17,b18,b19,b20,b21,b22,b23,b24,b25,b26,b27,b28,b29,b30,b31,b32,b33,b34,b35,b36,b37,b38,rfl⟩:=At1 hl;obtain⟨v0,e0,r0⟩:=Y6 h (i:=0) (v:=.int .i64 (x:Int)) (by simp[Hk]);obtain⟨v3,e3,r3⟩:=Y6 h (i:=3) (v:=.pointer (some ⟨DB,0,none⟩)) (by simp[Hk]);obtain⟨v8,e8,r8⟩:=Y6 h (i:=8) (v:=v) (by simp[Hk]);have e0:b0=v0:=by simpa using e0
 have e3:b3=v3:=by simpa using e3
 have e8:b8=v8:=by simpa using e8
 subst e0 e3 e8;obtain rfl:=Oh r0;obtain rfl:b3=.pointer (some ⟨DB,0,none⟩):=by
  cases r3 with
  | ptr q =>
   rename_i ad;obtain⟨bk,of,sp⟩:=ad;obtain⟨q1,q2,q3⟩:=q;dsimp only at q1 q2 q3;subst q2 q3;rw[hw.fn _ _ _ hD q1]
 exact⟨b1,b2,b4,b5,b6,b7,b8,b9,b10,b11,b12,b13,b14,b15,b16,b17,b18,b19,b20,b21,b22,b23,b24,b25,b26,b27,b28,b29,b30,b31,b32,b33,b34,b35,b36,b37,b38,rfl,Aj0 hw hS r8 ho hn⟩
end
def Yd:List Nat:=[24,20,39,40,41,73,74,75,76,95,96,97,98,110]++Zf
theorem Au3:∀f,Yd.contains f=true->Cj prog gK Yd f=true:=by
 have h:Yd.all (fun f=>Cj prog gK Yd f)=true:=by kernel_rfl
 intro f hf;exact List.all_eq_true.1 h f (by simpa using hf)
theorem Aq9:∀c∈Kt,Ee prog gK Yd c=true:=by
 have h:Kt.all (fun c=>Ee prog gK Yd c)=true:=by kernel_rfl
 exact List.all_eq_true.1 h
theorem Alt {ρ:Bn} {l:List Value} (h:∀v∈l,VR ρ v v):Cx ρ l.toArray l.toArray:=⟨rfl,fun i h1 _=>by
 simp only[List.getElem_toArray];exact h _ (List.getElem_mem _)⟩
def Apv (h:Avu.Sh) (x DB:Nat) (row:List (BitVec 8)) (b:Frame) (rest:Code) (k:List Item) (cs:List Frame) (S:Nat->Prop) (g:Goroutine) (W:World):Prop :=
 ∃b1 b2 b4 b5 b6 b7 b8 b9 b10 b11 b12 b13 b14 b15 b16 b17 b18 b19 b20 b21 b22 b23 b24 b25 b26 b27 b28 b29 b30 b31 b32 b33 b34 b35 b36 b37 b38:Value,g=Conc.G (b.at ⟨#[.int .i64 (x:Int),b1,b2,.pointer (some ⟨DB,0,none⟩),b4,b5,b6,b7,b8,b9,b10,b11,b12,b13,b14,b15,b16,b17,b18,b19,b20,b21,b22,b23,b24,b25,b26,b27,b28,b29,b30,b31,b32,b33,b34,b35,b36,b37,b38],[]⟩ (.code rest::k)) cs/\∃bl ob,Tb (Iz h row) b8 ob/\match bl with
  | none=>ob=none
  | some g=>S g/\∃o,W.heap[g]?=some o/\ob=some (g,o)
theorem Alo {F S:Nat->Prop} {W:World} {main:Bool} {h:Avu.Sh} {x SB LB DB lb lo n lc c:Nat} {a:Option Addr} {row:List (BitVec 8)} {b:Frame} {rest:Code} {k:List Item} {cs:List Frame} {vd:Value} (g:h.Good) (hF:∀b,F b->b < W.heap.size) (hgl:prog.globals.size<=W.heap.size) (bu:b.fn=23) (hbk:b.kind=.normal)
  (c0:W.cell? ⟨SB,0,none⟩=some (.int .i64 h.L)) (c1:W.cell? ⟨SB,1,none⟩=some (.int .i64 h.M)) (c2:W.cell? ⟨SB,2,none⟩=some (.int .i64 h.K)) (c3:W.cell? ⟨SB,3,none⟩=some (.int .i64 h.W)) (c4:W.cell? ⟨SB,4,none⟩=some (Af h.s))
  (cl:W.cell? ⟨LB,0,none⟩=some (.slice (some ⟨lb,lo,none⟩) n lc)) (hx:x < n) (cr:W.cell? ⟨lb,lo+x,none⟩=some (.slice a row.length c)) (hr:A0 W a c row) (hlen:row.length<=100000) (hk:C2 W) (cd:W.cell? ⟨DB,0,none⟩=some vd)
  (f0:F 0) (f1:F SB) (f2:F LB) (f3:F DB) (f4:F lb) (f5:∀ad,a=some ad->F ad.block/\∃cs t fr,W.heap[ad.block]?=some (.cells cs t fr)) :
  Way prog main F (Apv h x DB row b rest k cs) S (Conc.G (b.at ⟨Hk x SB LB DB undef undef undef (List.replicate 30 undef),[]⟩ (.code (Kt.foldr .seq rest)::k)) cs) W:=by
 let T:Nat->Prop:=fun b=>b=0\/b=SB\/b=LB\/b=DB\/b=lb\/∃ad,a=some ad/\b=ad.block
 have hTF:∀b,T b->F b:=by
  rintro b (rfl|rfl|rfl|rfl|rfl|⟨ad,e,rfl⟩)
  ·exact f0
  ·exact f1
  ·exact f2
  ·exact f3
  ·exact f4
  ·exact(f5 ad e).1
 have hT:∀b,T b->∃cs t fr,W.heap[b]?=some (.cells cs t fr)/\(¬F b->fr=(0,0)):=by
  intro b hb;have hq:∃cs t fr,W.heap[b]?=some (.cells cs t fr):=by
   rcases hb with rfl|rfl|rfl|rfl|rfl|⟨ad,e,rfl⟩
   ·exact He (hk 0 (by decide))
   ·exact He c0
   ·exact He cl
   ·exact He cd
   ·exact He cr
   ·exact(f5 ad e).2
  obtain⟨cs,t,fr,e⟩:=hq;exact⟨cs,t,fr,e,fun q=>absurd (hTF b hb) q⟩
 have hw:=Aad (T:=T) (gs:=prog.globals.size) hF hgl hT;have sl:∀(ad:Option Addr) (n c:Nat),(∀q,ad=some q->T q.block)->VR (Cw T) (.slice ad n c) (.slice ad n c):=fun ad n c q=>by
  cases ad with
  | none=>exact .snil _ _
  | some ad=>exact .slice _ _ ⟨⟨rfl,q ad rfl⟩,rfl,rfl⟩
 have pt:∀b,T b->VR (Cw T) (.pointer (some ⟨b,0,none⟩)) (.pointer (some ⟨b,0,none⟩)):=fun b hb=>.ptr ⟨⟨rfl,hb⟩,rfl,rfl⟩;have hin:∀(Tp:Tape) (d:Nat),Ta h (re (Eb (Cw T) F W) Tp d) x SB LB row:=fun Tp d =>
  ⟨Ck T Tp d c0,Ck T Tp d c1,Ck T Tp d c2,Ck T Tp d c3,Ck T Tp d c4,
   ⟨lb,lo,n,lc,a,c,Nq (ρ:=Cw T) (F:=F) cl (sl _ _ _ fun q e=>by cases e;exact .inr (.inr (.inr (.inr (.inl rfl))))),hx,Nq (ρ:=Cw T) (F:=F) cr (sl _ _ _ fun q e=>.inr (.inr (.inr (.inr (.inr ⟨q,e,rfl⟩))))),
    ⟨hr.fits,hr.room,hr.null,hr.bytes.imp id fun⟨b,off,e,h⟩=>⟨b,off,e,fun i hi=>Ck T Tp d (h i hi)⟩⟩⟩,hlen,fun i hi=>Ck T Tp d (hk i hi)⟩
 have hvs:Cx (Cw T) (Hk x SB LB DB undef undef undef (List.replicate 30 undef)) (Hk x SB LB DB undef undef undef (List.replicate 30 undef)):=Alt fun v hv=>by
  rcases List.mem_append.1 hv with hv|hv
  ·simp only[List.mem_cons,List.not_mem_nil,or_false] at hv;rcases hv with rfl|rfl|rfl|rfl|rfl|rfl|rfl|rfl|rfl
   ·exact .int _ _
   ·exact pt _ (.inr (.inl rfl))
   ·exact pt _ (.inr (.inr (.inl rfl)))
   ·exact pt _ (.inr (.inr (.inr (.inl rfl))))
   ·exact Eh
   ·exact .bool _
   ·exact Eh
   ·exact Eh
   ·exact Eh
  ·obtain⟨_,rfl⟩:=List.mem_replicate.1 hv;exact Eh
 have h1:=Ab2 (P:=prog) (G:=gK) (fs:=Yd) (F:=F) (main:=main) Au3 (f:=23) func23 (by kernel_rfl) (b:=b) (k:=k) (cs:=cs) (rest:=rest) (Q:=Aia x SB LB DB W.heap.size (Iz h row)) bu hbk Kt (S:=S) Aq9 hw hvs
  (fun g hgk=>by
   have e:g=0:=by simpa [gK] using hgk
   subst e;exact⟨rfl,.inl rfl⟩)
  (fun a b h=>.inr (by obtain⟨rfl,h⟩:=h;exact hTF _ h))
  ⟨W.tape,0,by
   have:=Ajz h g x SB LB DB row _ (hin W.tape 0);rw[show (re (Eb (Cw T) F W) W.tape 0).heap.size=W.heap.size from H8] at this;exact this⟩
 refine Way.bind h1 fun S2 g2 W2 hE=>.stop ?_;obtain⟨ts,ts',ρ1,w1,rfl,q1,⟨T1,d1,q2⟩,q3,q4,q5⟩:=hE;obtain⟨b1,b2,b4,b5,b6,b7,b8,b9,b10,b11,b12,b13,b14,b15,b16,b17,b18,b19,b20,b21,b22,b23,b24,b25,b26,b27,b28,b29,b30,b31,b32,b33,b34,b35,b36,b37,b38,e,bl,ob,q6,q7⟩:=Afq q3 (q5 DB DB ⟨rfl,.inr (.inr (.inr (.inl rfl)))⟩) q1 q2 q4;subst e;exact⟨b1,b2,b4,b5,b6,b7,b8,b9,b10,b11,b12,b13,b14,b15,b16,b17,b18,b19,b20,b21,b22,b23,b24,b25,b26,b27,b28,b29,b30,b31,b32,b33,b34,b35,b36,b37,b38,rfl,bl,ob,q6,q7⟩
structure Ah9 (p:Ph) (h:Avu.Sh) (Hw:World) (SB LB DB dn:Nat) (rows:List (List (BitVec 8))):Prop where
 n:p.n=rows.length
 small:p.n<=1000
 c0:Hw.cell? ⟨SB,0,none⟩=some (.int .i64 h.L)
 c1:Hw.cell? ⟨SB,1,none⟩=some (.int .i64 h.M)
 c2:Hw.cell? ⟨SB,2,none⟩=some (.int .i64 h.K)
 c3:Hw.cell? ⟨SB,3,none⟩=some (.int .i64 h.W)
 c4:Hw.cell? ⟨SB,4,none⟩=some (Af h.s)
 rws:∃lb lo lc,(rows≠[]->Hw.cell? ⟨LB,0,none⟩=some (.slice (some ⟨lb,lo,none⟩) p.n lc))/\∀x row,rows[x]?=some row->row.length<=100000/\∃ra rc,Hw.cell? ⟨lb,lo+x,none⟩=some (.slice ra row.length rc)/\A0 Hw ra rc row/\∀ad,ra=some ad->∃o v,Hw.cell? ⟨ad.block,o,none⟩=some v
 db:Hw.cell? ⟨DB,0,none⟩=some (.chan (some dn))
 k:C2 Hw
section
variable {top:Nat} {I I' I2:Ab} {p:Ph} {c:Ir} {w w' w2:World} {i j k n x:Nat} {Post:Value->World->Prop} {es:Array Event} {g g':Goroutine} {Hw:World} {SB LB DB dn:Nat}
theorem Af3 {P:Program} {ty:TypeId} (hr:g.status=.running) (ht:I.tag i≠.gone) (h:∀I2 w2,G5 i I w I2 w2->Ae ty top I2 w2->i < I2.cnt->∃I3,(∀wk,(Al P ty top Post).Do i I2 w2 I3 w2 wk #[]) /\
  (stepG P (i==0) g w2).goes fun g' w' es=>(w'=w2/\∀e∈es,False)/\LV P ty top Post i I3 w2 g'):LV P ty top Post i I w g :=
 An hr ht fun I2 w2 hrl hI hi=>by
  obtain⟨I3,aj,hgo⟩:=h I2 w2 hrl hI hi;obtain⟨g',w',es,hst,⟨e1,e2⟩,hL⟩:=Dd hgo;subst e1;obtain rfl:=Ie e2;exact .go g' _ #[] I3 hst (aj _) hL
theorem Aot (hI:Ae Gp.tWg top I w) (hc:I.col=some c) (ht:I.tag i=.give x):Kw i I (I.taken i x):=by
 refine⟨Nat.le_refl _,fun b ⟨h1,m,h2,h3⟩=>⟨h1,m,h2,?_⟩,fun _ h=>h.1,rfl,fun _ _=>Nat.le_refl _⟩;show (if I.gb i=some b then BK.priv 0 else I.bk b)=.fix m;rw[if_neg fun e=>?_]
 ·exact h3
 ·obtain⟨ob,_,hm⟩:=((hI.coll c hc).give i x ht).good;rw[e] at hm;obtain⟨_,q,_⟩:=hm;rw[h3] at q;cases q
theorem Ak7 (x:Int) (a:Option Addr) (n c:Nat):Program.built prog 62 [(0,.int .i64 x),(1,.slice a n c)]=some #[.int .i64 x,.slice a n c]:=by kernel_rfl
theorem Ajv {h:Avu.Sh} {rows:List (List (BitVec 8))} (hG:h.Good) (hS:Alf i p I Hw) (hIn:Ah9 p h Hw SB LB DB dn rows) (hc:I.col=some c) (zl:c.dn=dn) (gf:∀x v ob,R5 h rows x v ob->c.good x v ob) (m7:p.b<=i) (hi0:i≠0) (hgl:prog.globals.size<=I.hs) :
  Job p top Post i I w 23 #[.pointer (some ⟨SB,0,none⟩),.pointer (some ⟨LB,0,none⟩),.pointer (some ⟨DB,0,none⟩)]:=by
 intro x I1 w1 cc cs fn cd fg gq ji hp ht hd _ ft hI hK _;rw[func23] at fg;obtain rfl:=Option.some.inj fg;obtain rfl:(Tryz.f23.body.getD .skip)=cd:=by rw[gq];rfl
 clear fg gq;subst zl;obtain⟨row,hrow⟩:∃row,rows[x]?=some row:=⟨rows[x]'(by rw[<- hIn.n];exact ft),by simp⟩;have hne:rows≠[]:=fun e=>by rw[e] at hrow;simp at hrow
 obtain⟨lb,lo,lc,hlb,hr⟩:=hIn.rws;replace hlb:=hlb hne;obtain⟨hlen,ra,rc,ur,r7,hra⟩:=hr x row hrow;clear hr;have hc1:I1.col=some c:=ji.col.trans hc;have hg:I1.tag i≠.gone:=by rw[ht];simp
 have hs:¬(I1.tag i).tied:=by rw[ht];exact fun h=>h
 simp only[Tryz.f23,Option.getD_some]
 (try walk_nrm);refine Am (Au ?_);simp only[ix,Nat.reduceAdd];refine Ai fun v W H=>?_;go_simp;refine H _ ?_;clear H W v;try walk_nrm
 refine An rfl hg fun I2 w2 hrl hI hi=>?_;have l2:=hrl.live hg;have hp2:=l2.ph _ ⟨hp,.inl hi0⟩;have hk2:=ji.trans l2.kw;have kp:=hS.keeps hI hp2 hk2;have hs2:¬(I2.tag i).tied:=by rw[hrl.tag];exact hs
 refine .go _ w2 #[] I2 stepG_region_end (Fj hI hi _) ?_;refine Ss (Alo (F:=I2.F i) (S:=I2.S i) (h:=h) (x:=x) (SB:=SB) (LB:=LB) (DB:=DB) (row:=row) (vd:=.chan (some c.dn)) hG (fun b hb=>by rw[<- hI.hs];exact hb.1) (by rw[<- hI.hs];exact Nat.le_trans hgl hk2.hs) rfl rfl
  (kp _ _ hIn.c0) (kp _ _ hIn.c1) (kp _ _ hIn.c2) (kp _ _ hIn.c3) (kp _ _ hIn.c4) (kp _ _ hlb) ft (kp _ _ ur) (r7.keeps kp) hlen (hIn.k.keeps kp) (kp _ _ hIn.db)
  (hk2.F (hS _ _ _ (hIn.k 0 (by decide))).1) (hk2.F (hS _ _ _ hIn.c0).1) (hk2.F (hS _ _ _ hlb).1) (hk2.F (hS _ _ _ hIn.db).1) (hk2.F (hS _ _ _ ur).1) (fun ad e=>?_)) I2 rfl hI.hs (fun b hb=>hb) hs2 fun S' g' w' I' hx dg hs' hE=>?_
 ·obtain⟨o,v,hv⟩:=hra ad e;exact⟨hk2.F (hS _ _ _ hv).1,He (kp _ _ hv)⟩
 have ax:=hx.ph _ ⟨hp2,.inl hi0⟩;have hk3:=hk2.trans hx.kw;have hkk:=l2.kw.trans hx.kw;have bg:I'.tag i=.busy x:=hx.tag.trans (hrl.tag.trans ht);have hd3:I'.deaf i=0:=hx.deaf.trans (hrl.deaf.trans hd);have hc3:I'.col=some c:=hk3.col.trans hc;obtain⟨b1,b2,b4,b5,b6,b7,b8,b9,b10,b11,b12,b13,b14,b15,b16,b17,b18,b19,b20,b21,b22,b23,b24,b25,b26,b27,b28,b29,b30,b31,b32,b33,b34,b35,b36,b37,b38,rfl,bl,ob,oh,hbl⟩:=hE;clear hg hs hI hrl l2 hp2 hk2 kp hs2 hx hp ht hd hc1 hi;have hg:I'.tag i≠.gone:=by rw[bg];simp
 have hs:¬(I'.tag i).tied:=by rw[bg];exact fun h=>h
 have ag:I'.F i DB:=hk3.F (hS _ _ _ hIn.db).1
 (try walk_nrm);refine Am (Au ?_);simp only[ix,Nat.reduceAdd]
 refine Yt (ad:=⟨DB,0,none⟩) (v:=.chan (some c.dn)) hs (fun IV wV hrl au=>⟨(hS.keeps au ((hrl.live hg).ph _ ⟨ax,.inl hi0⟩) (hk3.trans (hrl.live hg).kw)) _ _ hIn.db,.inl ⟨_,rfl,rfl,.inr ⟨(hrl.live hg).kw.F ag,rfl⟩⟩⟩) fun v W hcell H=>?_;go_simp;refine H _ ?_ (by simp[go_sem,hcell]);clear H hcell W v;try walk_nrm
 (iterate 2 (refine Ai fun v W H=>?_;go_simp;refine H _ ?_;clear H W v;try walk_nrm))
 obtain⟨va,vn,vc,rfl⟩:∃a n c,b8=.slice a n c:=by
  rcases oh with⟨_,e,_⟩|⟨B,cap,cs,e,_⟩
  ·exact⟨_,_,_,e⟩
  ·exact⟨_,_,_,e⟩
 have BR:=Ak7 (x:Int) va vn vc;refine Af3 rfl hg fun I4 w4 hrl hI hi=>⟨I4.toGive i x (.agg #[.int .i64 (x:Int),.slice va vn vc]) bl,fun wk=>Ase hI ((hrl.live hg).ph _ ⟨ax,.inl hi0⟩) ((hrl.live hg).col.trans hc3) m7 hi (hrl.tag.trans bg) (hrl.deaf.trans hd3) ⟨ob,gf _ _ _ ⟨row,_,hrow,rfl,oh⟩,?_⟩ wk,?_⟩
 ·cases bl with
  | none=>exact hbl
  | some B =>
   obtain⟨kf,o,ho,iz⟩:=hbl;rw[<- dg] at kf;have l4:=hrl.live hg;refine⟨Nat.lt_of_lt_of_le kf.1 l4.hs,(l4.bk B kf.1 fun j hj e=>hj ?_).trans kf.2,o,(l4.keep B kf.1 (.inl kf.2)).trans ho,iz⟩;rw[kf.2] at e;injection e with e;exact e.symm
 have l4:=hrl.live hg;have jq:(I4.toGive i x (.agg #[.int .i64 (x:Int),.slice va vn vc]) bl).ph=some p:=l4.ph _ ⟨ax,.inl hi0⟩;have hk4:Kw i I1 (I4.toGive i x (.agg #[.int .i64 (x:Int),.slice va vn vc]) bl):=hkk.trans (l4.kw.trans ⟨Nat.le_refl _,fun _ h=>h,fun _ h=>h.1,rfl,fun _ _=>Nat.le_refl _⟩);have hc4:(I4.toGive i x (.agg #[.int .i64 (x:Int),.slice va vn vc]) bl).col=some c:=l4.col.trans hc3;have di:(I4.toGive i x (.agg #[.int .i64 (x:Int),.slice va vn vc]) bl).tag i=.give x:=upd_same _ _ _;have lu:(I4.toGive i x (.agg #[.int .i64 (x:Int),.slice va vn vc]) bl).deaf i=0:=hrl.deaf.trans hd3;have hv4:(I4.toGive i x (.agg #[.int .i64 (x:Int),.slice va vn vc]) bl).gv i=.agg #[.int .i64 (x:Int),.slice va vn vc]:=by simp[Ab.toGive]
 generalize I4.toGive i x (.agg #[.int .i64 (x:Int),.slice va vn vc]) bl=I5 at jq hk4 hc4 di lu hv4 ⊢;clear l4 hI hi hrl hg hs oh hbl dg hs' ax hk3 hkk bg hd3 hc3 ag;refine goes_oper_k rfl rfl (by k_ne) (fun W hW=>?_);go_simp;refine hW _ _ ⟨⟨rfl,Ax (by simp[go_sem])⟩,?_⟩;clear hW W;try walk_nrm
 have hg:I5.tag i≠.gone:=by rw[di];simp
 refine Im (cases:=#[scase c.dn (.agg #[.int .i64 (x:Int),.slice va vn vc]) (.tuple #[])]) (blocking:=true) (shape:=.send) rfl rfl (by k_ne) hg (fun _=>by rfl) (fun _=>by rfl) (fun I6 w6 hrl hI=>.give c x (.tuple #[]) ((hrl.live hg).col.trans hc4) hi0 (hrl.tag.trans di) rfl (by rw[hrl.gv.1,hv4])) fun I6 w6 hrl hI kk v ok I7 w7 hR y8=>?_;have qu:=hk4.trans (hrl.live hg).kw;have hc6:=qu.col.trans (ji.col.trans hc);have ul:=hrl.tag.trans di;have ol:=(hrl.live hg).ph _ ⟨jq,.inl hi0⟩;have yo:=hrl.deaf.trans lu;obtain⟨rfl,rfl,rfl,rfl,s,rfl⟩:=Aeb hR hI hc6 ul;have td:=qu.trans (Aot hI hc6 ul);have mq:(I6.taken i x).ph=some p:=ol;have jp:(I6.taken i x).tag i=.idle:=upd_same _ _ _;have lq:(I6.taken i x).deaf i=0:=yo;generalize I6.taken i x=I8,w6.setChan c.dn 0 #[] false s s false=w8 at td mq jp lq ⊢;clear hg;have hg:I8.tag i≠.gone:=by rw[jp];simp
 (try walk_nrm);refine len (Am (Au ?_));simp only[ix,Nat.reduceAdd];refine Ai fun v W H=>?_;go_simp;refine H _ ?_;clear H W v;(try walk_nrm);refine len ?_;refine Bz (fun _=>stepG_ret') ?_
 refine Ak rfl hg (fun w2=>stepG_leave (v:=.bool true) rfl rfl func23 (by kernel_rfl) (by kernel_rfl)) ?_;exact hK I8 w8 td mq jp lq
end
def Apr (I:Ab) (c:Ir) (Hw:World):Prop:=∀b o v,Hw.cell? ⟨b,o,none⟩=some v->(b < I.hs/\I.bk b=.fix 0)/\c.H b=Hw.heap[b]?
section
variable {top:Nat} {I I' I2:Ab} {p:Ph} {c:Ir} {w w' w2:World} {i j k n W0:Nat} {Post:Value->World->Prop} {es:Array Event} {g g':Goroutine} {Hw:World} {SB LB DB WB dn:Nat}
theorem Apr.keeps {ty:TypeId} (s:Apr I c Hw) (hI:Ae ty top I2 w2) (hc:I2.col=some c) (hb:∀b,b < I.hs->I.bk b=.fix 0->b < I2.hs/\I2.bk b=.fix 0):Bm Hw w2:=by
 rintro⟨b,o,sp⟩ v h;cases sp with
 | some sp =>
  exfalso;unfold World.cell? at h;cases hb:Hw.heap[b]? with
  | none=>simp[hb] at h
  | some ob=>cases ob<;>simp[hb] at h
 | none =>
  obtain⟨⟨h1,h2⟩,hH⟩:=s b o v h;obtain⟨q1,q2⟩:=hb b h1 h2;have e:=(hI.coll c hc).fix b q1 q2;unfold World.cell? at h ⊢;rw[e,hH];exact h
theorem Am8 (T:Array Value) (todo:List Item):QuitsD prog 2 0 (G { (baseD 21).at ⟨T,[]⟩ todo with mode:=.returning } [bot]):=by
 refine QuitsD.ctl (g':=G bot []) rfl (fun w=>?_) ?_
 ·simp[G,stepG,unwind,doReturn,results,Frame.at,baseD,bot,func21,Tryz.f21,seen,GStep.after,goexitEntry]
 refine QuitsD.ctl (g':={ G bot [] with status:=.finished }) rfl (fun w=>?_) ⟨rfl,rfl⟩;simp[G,stepG,unwind,bot,goexitEntry,Frame.catches];rfl
theorem Wq {h:Avu.Sh} {rows:List (List (BitVec 8))} {la:Option Addr} {lc:Nat} (hG:h.Good) (s0:Lon i I w) (hi0:i≠0) (hp:I.ph=none) (hc:I.col=some c) (hf:c.f=i) (ht:I.tag i=.pre) (hS:Apr I c Hw) (pq:∀b,b < I.hs->I.bk b=.fix 0->w.heap[b]?=c.H b)
  (hIn:∀p:Ph,p.n=n->Ah9 p h Hw SB LB DB c.dn rows) (hLB:Hw.cell? ⟨LB,0,none⟩=some (.slice la n lc)) (hWB:Hw.cell? ⟨WB,0,none⟩=some (.int .i64 W0)) (gf:∀x v ob,R5 h rows x v ob->c.good x v ob)
  (hn:n<=1000) (hcn:n=c.n) (hcW:W0<=c.W) (hW:1<=W0) (hW2:W0<=1000) (ak:I.cnt+W0<=top) (hgl:prog.globals.size<=I.hs) :
  LT top Post i I w (G ((baseD 21).at ⟨#[.pointer (some ⟨DB,0,none⟩),.pointer (some ⟨LB,0,none⟩),.pointer (some ⟨WB,0,none⟩),.pointer (some ⟨SB,0,none⟩)]++Array.replicate 6 undef,[]⟩ [.code (Tryz.f21.body.getD .skip)]) [bot]):=by
 have HCN:=Lib.hid hcn;clear hcn;have hg:I.tag i≠.gone:=s0.ng;have hs:¬(I.tag i).tied:=s0.ns;obtain⟨p0,hp0⟩:∃p:Ph,p.n=n:=⟨⟨0,0,0,n,0,0,0,0,0,fun _=>none,fun _ _=>undef,.hand,0,0,fun _=>False⟩,rfl⟩;have hDB:=(hIn p0 hp0).db;have hbk2:∀ {I2 w2:_},Gj i I w I2 w2->∀b,b < I.hs->I.bk b=.fix 0->b < I2.hs/\I2.bk b=.fix 0:=fun l b h1 h2=>⟨Nat.lt_of_lt_of_le h1 l.hs,(l.bk b h1 fun j _ e=>by rw[h2] at e;cases e).trans h2⟩;have hFX:∀b o v,Hw.cell? ⟨b,o,none⟩=some v->I.F i b:=fun b o v e=>⟨(hS b o v e).1.1,0,Nat.zero_le _,(hS b o v e).1.2⟩;simp only[Tryz.f21,Option.getD_some]
 (try walk_nrm);refine Am (Au ?_);simp only[ix,Nat.reduceAdd]
 refine Yt (ad:=⟨DB,0,none⟩) (v:=.chan (some c.dn)) hs (fun IV wV hrl au=>⟨(hS.keeps au ((hrl.live hg).col.trans hc) (hbk2 (hrl.live hg))) _ _ hDB,.inl ⟨_,rfl,rfl,.inr ⟨(hrl.live hg).kw.F (hFX _ _ _ hDB),rfl⟩⟩⟩) fun v W hcell H=>?_;go_simp;refine H _ ?_ (by simp[go_sem,hcell]);clear H hcell W v;try walk_nrm
 refine Bz (fun _=>Iw rfl rfl (by k_ne) rfl) ?_;(try walk_nrm);refine len (Au ?_);simp only[ix,Nat.reduceAdd];refine Yt (ad:=⟨LB,0,none⟩) (v:=.slice la n lc) hs (fun IV wV hrl au=>⟨(hS.keeps au ((hrl.live hg).col.trans hc) (hbk2 (hrl.live hg))) _ _ hLB,.inl ⟨_,rfl,rfl,.inr ⟨(hrl.live hg).kw.F (hFX _ _ _ hLB),rfl⟩⟩⟩) fun v W hcell H=>?_;go_simp;refine H _ ?_ (by simp[go_sem,hcell]);clear H hcell W v;try walk_nrm
 refine Ai fun v W H=>?_;go_simp;refine H _ ?_;clear H W v;try walk_nrm
 refine Yt (ad:=⟨WB,0,none⟩) (v:=.int .i64 W0) hs (fun IV wV hrl au=>⟨(hS.keeps au ((hrl.live hg).col.trans hc) (hbk2 (hrl.live hg))) _ _ hWB,.inl ⟨_,rfl,rfl,.inr ⟨(hrl.live hg).kw.F (hFX _ _ _ hWB),rfl⟩⟩⟩) fun v W hcell H=>?_;go_simp;refine H _ ?_ (by simp[go_sem,hcell]);clear H hcell W v;try walk_nrm
 refine Ai fun v W H=>?_;go_simp;refine H _ ?_;clear H W v;(try walk_nrm);refine Bz (fun _=>Aj (first:=#[]) (caps:=#[]) (vs:=#[.int .i64 n,.int .i64 W0,.func (.func 23) #[] #[.pointer (some ⟨SB,0,none⟩),.pointer (some ⟨LB,0,none⟩),.pointer (some ⟨DB,0,none⟩)]]) rfl rfl (by k_ne) rfl rfl (by simp[Act.eval]) func22 (by kernel_rfl) rfl) ?_;refine Mx (kind:=.hand) (out:=0) (oty:=0) (val:=fun _ _=>undef) (hit:=fun _=>False) s0 func23 rfl (by kernel_rfl) hn hW hW2 ak (.inr ⟨c,hc,rfl,HCN.out,hcW⟩) (by simp) (fun q=>by cases q) (fun p I' w' j q1 q2 q3 q4 q5 q6 q7 q8 _ q9 q10 q11=>?_) fun p IE wE I6 w6 I7 w7 sE L e1 e2 e3 e4 e5 e6 e7 e8 _ e9 qu ol ul yo wy fp=>?_
 ·refine Ajv hG (fun b o v hv=>?_) (hIn p q4) (q11.trans hc) rfl gf q2 q3 (Nat.le_trans hgl q10);obtain⟨⟨h1,h2⟩,h3⟩:=hS b o v hv;obtain⟨h4,h5⟩:=q9 b h1 (.inr ⟨0,Nat.zero_le _,h2⟩);exact⟨h4,by rw[h5,pq b h1 h2,h3]⟩
 ·have epast:I6.past p=I6.rest i:=by unfold Ab.past;rw[if_neg (by omega),e1]
  rw[epast] at fp;have ht6':(I6.rest i).tag i=.fin:=upd_same _ _ _;have hg6:(I6.rest i).tag i≠.gone:=by rw[ht6'];simp
  have l7:=fp.live hg6;have mq:I7.ph=none:=l7.pn rfl (.inl hi0);have jp:I7.tag i=.fin:=fp.tag.trans ht6';have lq:I7.deaf i=0:=fp.deaf.trans yo;have hc7:I7.col=some c:=by rw[l7.col];show I6.col=_;rw[qu.col];show IE.col=_;rw[L.col,hc]
  clear hg hs;have hg:I7.tag i≠.gone:=by rw[jp];simp
  rw[Frame.finish_at];(try walk_nrm);refine len ?_;refine Bz (fun _=>stepG_end) ?_;exact Af6 (q:=2) rfl mq hc7 hf hi0 jp lq (Am8 _ _)
end
section
variable {ty:TypeId} {top:Nat} {I I' I1 I2:Ab} {p:Ph} {c:Ir} {w w' w1 w2:World} {i j n:Nat} {P:Program} {Post:Value->World->Prop} {es:Array Event} {g g':Goroutine} {b:Frame} {a:Act} {k:List Item} {cs:List Frame}
structure Cl (c:Ir) (I:Ab) (w:World):Prop where
 col:I.col=some c
 tag:I.tag 0=.coll
 deaf:I.deaf 0=0
 hs:I.hs=w.heap.size
theorem Cl.ng (s:Cl c I w):I.tag 0≠.gone:=by rw[s.tag];simp
theorem Cl.ns (s:Cl c I w):¬(I.tag 0).tied:=by rw[s.tag];exact fun h=>h
structure C4 (X:Nat->Prop) (I:Ab) (w:World) (I':Ab) (w':World):Prop where
 hs:I.hs<=I'.hs
 bk:∀b,b < I.hs->(∀j,j≠0->I.bk b≠.priv j)->I'.bk b=I.bk b
 heap:∀b,b < I.hs->¬X b->(I.bk b=.priv 0\/I.bk b=.fix 0)->w'.heap[b]?=w.heap[b]?
 tape:w'.tape=w.tape
theorem Rz {X:Nat->Prop} (l:C4 X I w I' w') {b:Nat} (hb:b < I.hs) (h:I.bk b=.priv 0\/I.bk b=.fix 0):I'.bk b=I.bk b:=l.bk b hb fun j hj e=>by
 rcases h with q|q<;>(rw[q] at e;cases e);exact hj rfl
theorem C4.trans {X Y Z:Nat->Prop} (h:C4 X I w I1 w1) (h':C4 Y I1 w1 I2 w2) (hX:∀b,X b->Z b) (hY:∀b,b < I.hs->Y b->Z b):C4 Z I w I2 w2:=by
 refine⟨Nat.le_trans h.hs h'.hs,fun b hb hj=>?_,fun b hb hx q=>?_,h'.tape.trans h.tape⟩
 ·have e1:=h.bk b hb hj;exact(h'.bk b (Nat.lt_of_lt_of_le hb h.hs) fun j hj'=>by rw[e1];exact hj j hj').trans e1
 ·exact(h'.heap b (Nat.lt_of_lt_of_le hb h.hs) (fun r=>hx (hY b hb r)) (by rw[Rz h hb q];exact q)).trans (h.heap b hb (fun r=>hx (hX b r)) q)
theorem C4.weak {X Y:Nat->Prop} (h:C4 X I w I' w') (hX:∀b,b < I.hs->X b->Y b):C4 Y I w I' w':=⟨h.hs,h.bk,fun b hb hn q=>h.heap b hb (fun r=>hn (hX b hb r)) q,h.tape⟩
theorem D5.cl {X:Nat->Prop} {b:Nat} {k:BK} {o:Obj} (h:D5 0 I w b k o) (hk:k=.priv 0\/k=.fix 0) (l:C4 X I w I' w') (hx:¬X b):D5 0 I' w' b k o:=by
 have q:I.bk b=.priv 0\/I.bk b=.fix 0:=by rw[h.bk];exact hk
 exact⟨Nat.lt_of_lt_of_le h.lt l.hs,(Rz l h.lt q).trans h.bk,(l.heap b h.lt hx q).trans h.heap⟩
theorem Cl.rel (s:Cl c I w) (hI:Ae ty top I2 w2) (h:G5 0 I w I2 w2):Cl c I2 w2/\C4 (fun _=>False) I w I2 w2/\∀x,I2.done x↔I.done x:=by
 have l:=h.live s.ng;refine⟨⟨l.col.trans s.col,h.tag.trans s.tag,h.deaf.trans s.deaf,hI.hs⟩,⟨l.hs,l.bk,fun b hb _ q=>?_,l.tape⟩,l.done rfl (by rw[s.col];simp)⟩;rcases q with q|q
 ·exact l.keep b hb (.inl q)
 ·exact l.keep b hb (.inr ⟨0,Nat.zero_le _,q⟩)
theorem Agz {X:Nat->Prop} (s:Cl c I w) (hr:g.status=.running) (h:∀I2 w2,Cl c I2 w2->C4 (fun _=>False) I w I2 w2->∃g' w' es,stepG P true g w2=.go g' w' es/\Own (I2.S 0) (I2.F 0) w2 w' es/\(∀b,b < w2.heap.size->¬X b->w'.heap[b]?=w2.heap[b]?) /\
  ∀I',Cl c I' w'->C4 X I w I' w'->(∀x,I'.done x↔I.done x)->(∀b,w2.heap.size<=b->b < w'.heap.size->I'.bk b=.priv 0)->LV P ty top Post 0 I' w' g'):LV P ty top Post 0 I w g:=by
 refine An hr s.ng fun I2 w2 hrl hI hi=>?_;obtain⟨s2,l2,d2⟩:=s.rel hI hrl;obtain⟨g',w',es,hst,ho,hX,hK⟩:=h I2 w2 s2 l2;have hle:=ho.size;have l3:C4 X I2 w2 (I2.grown 0 w') w':=⟨by show I2.hs<=w'.heap.size;rw[s2.hs];exact hle,fun b hb _=>Ce hb,fun b hb hn _=>hX b (by rw[<- s2.hs];exact hb) hn,ho.tape⟩;exact .go g' w' es _ hst (Ya hI hi (by exact s2.ns) ho _) (hK _ ⟨s2.col,s2.tag,s2.deaf,rfl⟩ (l2.trans l3 (fun _ q=>q.elim) fun _ _ q=>q) d2 fun b h1 h2=>K4 (by rw[s2.hs];exact h1))
theorem Ah0 (s:Cl c I w) (hr:g.status=.running) (h:∀w2,(stepG P true g w2).goes fun g' w' es=>∃o,w'.heap=w2.heap.push o/\w'.tape=w2.tape/\w'.os=w2.os/\w'.output=w2.output/\(∀e∈es,False) /\
  ∀I' w1,Cl c I' w1->C4 (fun _=>False) I w I' w1->(∀x,I'.done x↔I.done x)->I.hs<=w2.heap.size->D5 0 I' w1 w2.heap.size (.priv 0) o->LV P ty top Post 0 I' w1 g'):LV P ty top Post 0 I w g:=by
 refine Agz (X:=fun _=>False) s hr fun I2 w2 s2 l2=>?_;obtain⟨g',w',es,hst,o,e1,e2,e3,e4,e5,hK⟩:=Dd (h w2);have hsz:w'.heap.size=w2.heap.size+1:=by rw[e1];simp
 have hold:∀b,b < w2.heap.size->w'.heap[b]?=w2.heap[b]?:=fun b hb=>by rw[e1,Array.getElem?_push,if_neg (Nat.ne_of_lt hb)]
 have hnew:w'.heap[w2.heap.size]?=some o:=by rw[e1,Array.getElem?_push,if_pos rfl]
 refine⟨g',w',es,hst,Dc e1 e2 e3 e4 e5,fun b hb _=>hold b hb,fun I' s' l' d' nw=>hK I' w' s' l' d' (by rw[<- s2.hs];exact l2.hs) ⟨by rw[s'.hs,hsz];exact Nat.lt_succ_self _,nw _ (Nat.le_refl _) (by rw[hsz];exact Nat.lt_succ_self _),hnew⟩⟩
theorem Apd {B o:Nat} {v:Value} {cl:Array Value} {t:TypeId} (s:Cl c I w) (hr:g.status=.running) (f:D5 0 I w B (.priv 0) (.cells cl t (0,0))) (h:∀w2,w2.heap[B]?=some (.cells cl t (0,0))->(stepG P true g w2).goes fun g' w' es=>w'=w2.setCell ⟨B,o,none⟩ v/\(∀e∈es,e=⟨.cell ⟨B,o,none⟩,true,false⟩) /\
  ∀I' w1,Cl c I' w1->C4 (fun b=>b=B) I w I' w1->(∀x,I'.done x↔I.done x)->D5 0 I' w1 B (.priv 0) (.cells (cl.setIfInBounds o v) t (0,0))->LV P ty top Post 0 I' w1 g'):LV P ty top Post 0 I w g:=by
 refine Agz (X:=fun b=>b=B) s hr fun I2 w2 s2 l2=>?_;have f2:=f.cl (.inl rfl) l2 id;obtain⟨g',w',es,hst,e1,e2,hK⟩:=Dd (h w2 f2.heap);subst e1;have hsz:(w2.setCell ⟨B,o,none⟩ v).heap.size=w2.heap.size:=C5 _ _ _;refine⟨g',_,es,hst,Vk w2 _ _ ⟨f2.lt,f2.bk⟩ e2,fun b hb hx=>Bh _ _ _ hx,fun I' s' l' d' nw=>hK I' _ s' l' d' ⟨by rw[s'.hs,hsz,<- s2.hs];exact f2.lt,(Rz l' f.lt (.inl f.bk)).trans f.bk,?_⟩⟩;rw[Bg,if_pos rfl,f2.heap];simp
theorem Aue {B:Nat} {cl cl':Array Value} {t:TypeId} (s:Cl c I w) (hr:g.status=.running) (f:D5 0 I w B (.priv 0) (.cells cl t (0,0))) (h:∀w2,w2.heap[B]?=some (.cells cl t (0,0))->∃g' es,stepG P true g w2=.go g' (w2.setRow B cl') es/\(∀e∈es,∃o,e=⟨.cell ⟨B,o,none⟩,true,false⟩) /\
  ∀I' w1,Cl c I' w1->C4 (fun b=>b=B) I w I' w1->(∀x,I'.done x↔I.done x)->D5 0 I' w1 B (.priv 0) (.cells cl' t (0,0))->LV P ty top Post 0 I' w1 g'):LV P ty top Post 0 I w g:=by
 refine Agz (X:=fun b=>b=B) s hr fun I2 w2 s2 l2=>?_;have f2:=f.cl (.inl rfl) l2 id;obtain⟨g',es,hst,e2,hK⟩:=h w2 f2.heap;have hsz:(w2.setRow B cl').heap.size=w2.heap.size:=by simp[World.setRow]
 refine⟨g',_,es,hst,⟨Nat.le_of_eq hsz.symm,rfl,rfl,rfl,fun b hb hn=>setRow_other _ _ _ _ fun q=>hn (by rw[q];exact⟨f2.lt,f2.bk⟩),fun e he=>?_⟩,fun b hb hx=>setRow_other _ _ _ _ hx,fun I' s' l' d' nw=>hK I' _ s' l' d' ⟨by rw[s'.hs,hsz,<- s2.hs];exact f2.lt,(Rz l' f.lt (.inl f.bk)).trans f.bk,setRow_heap _ _ _ _ _ _ f2.heap⟩⟩;obtain⟨o,rfl⟩:=e2 e he;exact .inl ⟨_,rfl,rfl,.inl (.inl ⟨f2.lt,f2.bk⟩)⟩
theorem Vr {B o:Nat} {v:Value} {kk:BK} {cl:Array Value} {t:TypeId} {m:Nat × Nat} (s:Cl c I w) (hr:g.status=.running) (f:D5 0 I w B kk (.cells cl t m)) (hk:kk=.priv 0\/kk=.fix 0) (ho:cl[o]?=some v) (h:∀w2,w2.cell? ⟨B,o,none⟩=some v->(stepG P true g w2).goes fun g' w' es=>(w'=w2/\∀e∈es,e=⟨.cell ⟨B,o,none⟩,false,false⟩)/\LV P ty top Post 0 I w g'):LV P ty top Post 0 I w g:=by
 refine E3 hr s.ns fun I2 w2 hrl hI=>?_;obtain⟨s2,l2,_⟩:=s.rel hI hrl;have f2:=f.cl hk l2 id;have hc:w2.cell? ⟨B,o,none⟩=some v:=by simp[World.cell?,f2.heap,ho]
 obtain⟨g',w',es,hst,⟨e1,e2⟩,e3⟩:=Dd (h w2 hc);rw[show stepG P (0==0) g w2=_ from hst];refine⟨⟨e1,fun e he=>?_⟩,e3⟩;rw[e2 e he];refine .inl ⟨_,rfl,rfl,?_⟩;rcases hk with rfl|rfl
 ·exact .inl ⟨f2.lt,f2.bk⟩
 ·exact .inr ⟨⟨f2.lt,0,Nat.zero_le _,f2.bk⟩,rfl⟩
open Classical in
noncomputable def left (d:Nat->Prop):Nat->Nat
 | 0=>0
 | n+1=>left d n+if d n then 0 else 1
theorem Lz {d d':Nat->Prop}:∀ {n:Nat},(∀z,z < n->(d' z↔d z))->left d' n=left d n
 | 0,_=>rfl
 | n+1,h=>by
  have e:=h n (Nat.lt_succ_self _);unfold left;rw[Lz fun z hz=>h z (Nat.lt_succ_of_lt hz)];by_cases q:d n
  ·rw[if_pos q,if_pos (e.2 q)]
  ·rw[if_neg q,if_neg fun r=>q (e.1 r)]
theorem Ahv {d d':Nat->Prop} {x:Nat} (hd:∀z,d' z↔d z\/z=x) (hn:¬d x):∀ {n:Nat},x < n->left d' n < left d n
 | 0,h=>by omega
 | n+1,h=>by
  unfold left;by_cases e:x=n
  ·subst e;rw[Lz fun z hz=>(hd z).trans ⟨fun q=>q.resolve_right (by omega),.inl⟩,if_neg hn,if_pos ((hd x).2 (.inr rfl))];omega
  ·have h1:=Ahv hd hn (n:=n) (by omega);have h2:d' n↔d n:=(hd n).trans ⟨fun q=>q.resolve_right (fun r=>e r.symm),.inl⟩;by_cases q:d n
   ·rw[if_pos q,if_pos (h2.2 q)];omega
   ·rw[if_neg q,if_neg fun r=>q (h2.1 r)];omega
end
end Go.Proofs.YtbicafgmfgdckaaGreatDoor
