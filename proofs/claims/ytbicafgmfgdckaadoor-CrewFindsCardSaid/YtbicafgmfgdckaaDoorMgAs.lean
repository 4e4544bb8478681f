/- lockSlow, in the crew: from the row on; compare and swap. -/
import Derived.Test.YtbicafgmfgdckaaDoorMgAr
namespace Go.Proofs.YtbicafgmfgdckaaDoor
open Go Go.RowKit Go.Conc Go.Conc.Lib Go.ConcR.Gen
open Go.ConcR (KK wgBlock WgAt stA smA rd wr mk DC0)
open Go.ConcN (sumTo upd upd_same upd_ne RelBy PermW WgLive)
section
variable {top:Nat} {γ γ' γ2:Gho} {p:Ph} {w w' w2:World} {i j k n m y:Nat} {f:Nat->ML} {a b:ML} {Post:Value->World->Prop} {es:Array Event} {g g':Goroutine} {c:Frame} {cs:List Frame}
set_option maxRecDepth 100000 in
set_option maxHeartbeats 4000000 in
theorem lk_sem (hm:m < 2) (h2:∀k,k < 2->k≠m->f k=.off\/f k=.fresh) (h:In p i y 1 (upd f m .que) γ) (sv lifo:Bool) (wst:Int) (Jb Je Jf Jg Jh Jj Jk Jl Jm Jn Jo Jp Jq Jr Js Jt Ju Jv Jw Jx Jy Jz J0 J1 J2 J3 J4 J5 J6 J7 J8 J9 Qa Qb Qc Qd Qe Qf Qg Qh Qi Qj Qk Ql Qm Qn Qo Qp Qq Qr Qs Qt Qu Qv Qw Qx Qy Qz Q0 Q1 Q2 Q3 Q4 Q5 Q6 Q7 Q8 Q9 Ua Ub Uc Ud Ue Uf Ug Uh Ui Uj Uk Ul Um Un Uo Up Uq Ur Us Ut Uu Uv Uw Ux Uy Uz U0 U1 U2 U3 U4 U5 U6 U7 U8 U9 Xa Xb Xc Xd Xe Xf Xg Xh Xi Xj Xk Xl Xm Xn Xo Xp Xq Xr Xs Xt Xu Xv Xw Xx Xy Xz X0 X1 X2 X3 X4:Value)
  (KD:∀γ' w',In p i y 0 (upd f m (.own 1)) γ'->Aft i p γ γ'->LV Tryd.prog wgLink.tWg top Post i γ' w' (G (c.finish (.tuple #[])) cs))
  (KH:∀γ' w' sv',In p i y 1 (upd f m .tok) γ'->Aft i p γ γ'->MuI p.b p.W (γ'.sk.ml m) (γ'.sk.mw m)->p.W<=16->∀(wst':Int) (Jb Jh Ji Jj Jk Jl Jm Jn Jo Jp Jq Jr Js Jt Ju Jv Jw Jx Jy Jz J0 J1 J2 J3 J4 J5 J6 J7 J8 J9 Qa Qb Qc Qd Qe Qf Qg Qh Qi Qj Qk Ql Qm Qn Qo Qp Qq Qr Qs Qt Qu Qv Qw Qx Qy Qz Q0 Q1 Q2 Q3 Q4 Q5 Q6 Q7 Q8 Q9 Ua Ub Uc Ud Ue Uf Ug Uh Ui Uj Uk Ul Um Un Uo Up Uq Ur Us Ut Uu Uv Uw Ux Uy Uz U0 U1 U2 U3 U4 U5 U6 U7 U8 U9 Xa Xb Xc Xd Xe Xf Xg Xh Xi Xj Xk Xl Xm Xn Xo Xp Xq Xr Xs Xt Xu Xv Xw Xx Xy Xz X0 X1 X2 X3 X4:Value),LV Tryd.prog wgLink.tWg top Post i γ' w' (G ((base 83).at ⟨#[.pointer (some (p.muA m)),Jb,.int .i64 wst',.bool sv',.bool true,.int .i64 (0:Nat),.int .i32 (((γ'.sk.mw m).code):Nat),Jh,Ji,Jj,Jk,Jl,Jm,Jn,Jo,Jp,Jq,Jr,Js,Jt,Ju,Jv,Jw,Jx,Jy,Jz,J0,J1,J2,J3,J4,J5,J6,J7,J8,J9,Qa,Qb,Qc,Qd,Qe,Qf,Qg,Qh,Qi,Qj,Qk,Ql,Qm,Qn,Qo,Qp,Qq,Qr,Qs,Qt,Qu,Qv,Qw,Qx,Qy,Qz,Q0,Q1,Q2,Q3,Q4,Q5,Q6,Q7,Q8,Q9,Ua,Ub,Uc,Ud,Ue,Uf,Ug,Uh,Ui,Uj,Uk,Ul,Um,Un,Uo,Up,Uq,Ur,Us,Ut,Uu,Uv,Uw,Ux,Uy,Uz,U0,U1,U2,U3,U4,U5,U6,U7,U8,U9,Xa,Xb,Xc,Xd,Xe,Xf,Xg,Xh,Xi,Xj,Xk,Xl,Xm,Xn,Xo,Xp,Xq,Xr,Xs,Xt,Xu,Xv,Xw,Xx,Xy,Xz,X0,X1,X2,X3,X4],[]⟩ [.code lkL,.inLoop lkL,.inBlock 0,.code lkR]) (c::cs))) :
  LV Tryd.prog wgLink.tWg top Post i γ w (G ((base 83).at ⟨#[.pointer (some (p.muA m)),Jb,.int .i64 wst,.bool sv,Je,Jf,Jg,Jh,.bool lifo,Jj,Jk,Jl,Jm,Jn,Jo,Jp,Jq,Jr,Js,Jt,Ju,Jv,Jw,Jx,Jy,Jz,J0,J1,J2,J3,J4,J5,J6,J7,J8,J9,Qa,Qb,Qc,Qd,Qe,Qf,Qg,Qh,Qi,Qj,Qk,Ql,Qm,Qn,Qo,Qp,Qq,Qr,Qs,Qt,Qu,Qv,Qw,Qx,Qy,Qz,Q0,Q1,Q2,Q3,Q4,Q5,Q6,Q7,Q8,Q9,Ua,Ub,Uc,Ud,Ue,Uf,Ug,Uh,Ui,Uj,Uk,Ul,Um,Un,Uo,Up,Uq,Ur,Us,Ut,Uu,Uv,Uw,Ux,Uy,Uz,U0,U1,U2,U3,U4,U5,U6,U7,U8,U9,Xa,Xb,Xc,Xd,Xe,Xf,Xg,Xh,Xi,Xj,Xk,Xl,Xm,Xn,Xo,Xp,Xq,Xr,Xs,Xt,Xu,Xv,Xw,Xx,Xy,Xz,X0,X1,X2,X3,X4],[]⟩ [.code lk27,.inBlock 1,.inLoop lkL,.inBlock 0,.code lkR]) (c::cs)):=by
 have hg:=h.ng
 simp only[lk27,lk22,lk11,lkL,lkB,findLoop,cTl,cHd,cThen,cIn,Tryd.f83,Option.getD_some]
 (try walk_nrm);refine lsq hg ?_;refine lrg hg ?_;simp only[ix,Nat.reduceAdd];(iterate 4 (refine lop hg rfl rfl (by k_ne) fun v W H=>?_;go_simp;refine H _ _ rfl (by simp[go_sem]) ?_;clear H W v;try walk_nrm))
 refine lv_sema hm h rfl rfl (upd_same _ _ _) ⟨fit_of hm h2 (fun _=>by simp) fun _=>by simp,fit_of hm h2 (fun _=>by simp) fun _=>by simp⟩ (fun w hc=>stepG_semacquire_wait rfl rfl rfl Tryd.func94 mu_acq_n mu_acq_b mu_acq_x mu_acq_f (by simp[Act.eval]) hc) (fun w n hn hc hz=>stepG_semacquire rfl rfl (by k_ne) rfl Tryd.func94 mu_acq_n mu_acq_b mu_acq_x mu_acq_f (by simp[Act.eval]) hc hn hz) fun γ1 w1 b hb h1 A1=>?_
 rw[upd_upd] at h1;clear hg;have hg:=h1.ng;(try walk_nrm);refine len hg ?_;refine lsq hg ?_;refine lrg hg ?_;simp only[ix,Nat.reduceAdd];(iterate 2 (refine lop hg rfl rfl (by k_ne) fun v W H=>?_;go_simp;refine H _ _ rfl (by simp[go_sem]) ?_;clear H W v;try walk_nrm))
 cases sv with
 | true =>
  refine lun hg rfl rfl ?_;(try walk_nrm);refine lun hg rfl rfl ?_;(try walk_nrm);refine lun hg rfl rfl ?_;(try walk_nrm);refine lun hg rfl rfl ?_;(try walk_nrm);(iterate 2 (refine lop hg rfl rfl (by k_ne) fun v W H=>?_;go_simp;refine H _ _ rfl (by simp[go_sem]) ?_;clear H W v;try walk_nrm));clear h;refine len hg ?_;refine lsq hg ?_;refine lrg hg ?_;simp only[ix,Nat.reduceAdd];(iterate 3 (refine lop hg rfl rfl (by k_ne) fun v W H=>?_;go_simp;refine H _ _ rfl (by simp[go_sem]) ?_;clear H W v;try walk_nrm))
  refine lv_load hm h1 rfl (fun w c hc=>stepG_loadQ rfl rfl (by k_ne) rfl (by simp[Act.eval]) mu_q_lockSlow hc) fun γ3 w3 h3 A3 M3 W3=>?_
  clear hg;have hg:=h3.ng
  replace A3:=A1.trans A3
  (try walk_nrm);refine lop hg rfl rfl (by k_ne) fun v W H=>?_;go_simp;refine H _ _ rfl (by simp[go_sem]) ?_;clear H W v;(try walk_nrm);refine len hg ?_;refine lsq hg ?_;refine lsq hg ?_;refine lrg hg ?_;simp only[ix,Nat.reduceAdd];refine lop hg rfl rfl (by k_ne) fun v W H=>?_;go_simp;refine H _ _ rfl (by simp[go_sem]) ?_;clear H W v;try walk_nrm
  have b4:bits .and .i32 ((γ3.sk.mw m).code:Nat) 4=(4 * (γ3.sk.mw m).S.toNat:Nat):=by
   have hf:=M3.few
   revert hf
   generalize γ3.sk.mw m=u
   intro hf
   obtain⟨xL,xK,xS,xw,xq⟩:=u
   have hf':xw<=2 * p.W:=hf
   exact mb_and4 _ _ _ _ _ (by omega)
  rcases hb with rfl|rfl
  ·have hS:=(M3.handed (h3.own_ hm)).1
   rw[hS] at b4
   simp only[Bool.toNat_true,Nat.mul_one] at b4
   generalize hco:(γ3.sk.mw m).code=co at *
   (iterate 2 (refine lop hg rfl rfl (by k_ne) fun v W H=>?_;go_simp;refine H _ _ rfl (by simp[go_sem]) ?_;clear H W v;try walk_nrm));refine len hg ?_;refine lct hg rfl ?_
   subst hco
   exact lk_hand hm h2 h3 M3 W3 _ wst _ _ _ _ _ _ _ _ _ _ _ _ _ _ _ _ _ _ _ _ _ _ _ _ _ _ _ _ _ _ _ _ _ _ _ _ _ _ _ _ _ _ _ _ _ _ _ _ _ _ _ _ _ _ _ _ _ _ _ _ _ _ _ _ _ _ _ _ _ _ _ _ _ _ _ _ _ _ _ _ _ _ _ _ _ _ _ _ _ _ _ _ _ _ _ _ _ _ _ _ _ _ _ _ _ _ _ _ _ _ _ _ _ _ _ _ _ _ _ _ _ _ _ _ _ _ _ _ _ _ _ _ _ _ _ fun γ9 w9 h9 A9=>KD γ9 w9 h9 (A3.trans A9)
  ·have hS:=(M3.tkn (i:=i) (.inr (h3.own_ hm))).2
   rw[hS] at b4
   simp only[Bool.toNat_false,Nat.mul_zero] at b4
   replace KH:=KH γ3 w3 true h3 A3 M3 W3
   generalize hco:(γ3.sk.mw m).code=co at *
   (iterate 2 (refine lop hg rfl rfl (by k_ne) fun v W H=>?_;go_simp;refine H _ _ rfl (by simp[go_sem]) ?_;clear H W v;try walk_nrm));refine len hg ?_;refine lcf hg rfl ?_;refine lsk hg ?_;refine lsq hg ?_;refine lrg hg ?_;simp only[ix,Nat.reduceAdd];refine lop hg rfl rfl (by k_ne) fun v W H=>?_;go_simp;refine H _ _ rfl (by simp[go_sem]) ?_;clear H W v;(try walk_nrm);refine len hg ?_;refine lrg hg ?_;simp only[ix,Nat.reduceAdd];refine lop hg rfl rfl (by k_ne) fun v W H=>?_;go_simp;refine H _ _ rfl (by simp[go_sem]) ?_;clear H W v;(try walk_nrm);refine len hg ?_
   refine lives_ctl rfl hg (fun _=>stepG_inBlock) ?_
   refine lives_ctl rfl hg (fun _=>stepG_inLoop) ?_
   exact KH _ _ _ _ _ _ _ _ _ _ _ _ _ _ _ _ _ _ _ _ _ _ _ _ _ _ _ _ _ _ _ _ _ _ _ _ _ _ _ _ _ _ _ _ _ _ _ _ _ _ _ _ _ _ _ _ _ _ _ _ _ _ _ _ _ _ _ _ _ _ _ _ _ _ _ _ _ _ _ _ _ _ _ _ _ _ _ _ _ _ _ _ _ _ _ _ _ _ _ _ _ _ _ _ _ _ _ _ _ _ _ _ _ _ _ _ _ _ _ _ _ _ _ _ _ _ _ _ _ _ _ _ _ _
 | false =>
  refine lv_nano h1 rfl rfl (by k_ne) rfl fun γ2 w2 tv h2' A2 _=>?_
  clear hg h;have hg:=h2'.ng;(try walk_nrm);(iterate 3 (refine lop hg rfl rfl (by k_ne) fun v W H=>?_;go_simp;refine H _ _ rfl (by simp[go_sem]) ?_;clear H W v;try walk_nrm))
  generalize decide (1000000 < IntKind.i64.wrap (tv - wst))=sv2
  (iterate 2 (refine lop hg rfl rfl (by k_ne) fun v W H=>?_;go_simp;refine H _ _ rfl (by simp[go_sem]) ?_;clear H W v;try walk_nrm));refine len hg ?_;refine lsq hg ?_;refine lrg hg ?_;simp only[ix,Nat.reduceAdd];(iterate 3 (refine lop hg rfl rfl (by k_ne) fun v W H=>?_;go_simp;refine H _ _ rfl (by simp[go_sem]) ?_;clear H W v;try walk_nrm))
  refine lv_load hm h2' rfl (fun w c hc=>stepG_loadQ rfl rfl (by k_ne) rfl (by simp[Act.eval]) mu_q_lockSlow hc) fun γ3 w3 h3 A3 M3 W3=>?_
  clear hg;have hg:=h3.ng
  replace A3:=(A1.trans A2).trans A3
  (try walk_nrm);refine lop hg rfl rfl (by k_ne) fun v W H=>?_;go_simp;refine H _ _ rfl (by simp[go_sem]) ?_;clear H W v;(try walk_nrm);refine len hg ?_;refine lsq hg ?_;refine lsq hg ?_;refine lrg hg ?_;simp only[ix,Nat.reduceAdd];refine lop hg rfl rfl (by k_ne) fun v W H=>?_;go_simp;refine H _ _ rfl (by simp[go_sem]) ?_;clear H W v;try walk_nrm
  have b4:bits .and .i32 ((γ3.sk.mw m).code:Nat) 4=(4 * (γ3.sk.mw m).S.toNat:Nat):=by
   have hf:=M3.few
   revert hf
   generalize γ3.sk.mw m=u
   intro hf
   obtain⟨xL,xK,xS,xw,xq⟩:=u
   have hf':xw<=2 * p.W:=hf
   exact mb_and4 _ _ _ _ _ (by omega)
  rcases hb with rfl|rfl
  ·have hS:=(M3.handed (h3.own_ hm)).1
   rw[hS] at b4
   simp only[Bool.toNat_true,Nat.mul_one] at b4
   generalize hco:(γ3.sk.mw m).code=co at *
   (iterate 2 (refine lop hg rfl rfl (by k_ne) fun v W H=>?_;go_simp;refine H _ _ rfl (by simp[go_sem]) ?_;clear H W v;try walk_nrm));refine len hg ?_;refine lct hg rfl ?_
   subst hco
   exact lk_hand hm h2 h3 M3 W3 _ wst _ _ _ _ _ _ _ _ _ _ _ _ _ _ _ _ _ _ _ _ _ _ _ _ _ _ _ _ _ _ _ _ _ _ _ _ _ _ _ _ _ _ _ _ _ _ _ _ _ _ _ _ _ _ _ _ _ _ _ _ _ _ _ _ _ _ _ _ _ _ _ _ _ _ _ _ _ _ _ _ _ _ _ _ _ _ _ _ _ _ _ _ _ _ _ _ _ _ _ _ _ _ _ _ _ _ _ _ _ _ _ _ _ _ _ _ _ _ _ _ _ _ _ _ _ _ _ _ _ _ _ _ _ _ _ fun γ9 w9 h9 A9=>KD γ9 w9 h9 (A3.trans A9)
  ·have hS:=(M3.tkn (i:=i) (.inr (h3.own_ hm))).2
   rw[hS] at b4
   simp only[Bool.toNat_false,Nat.mul_zero] at b4
   replace KH:=KH γ3 w3 sv2 h3 A3 M3 W3
   generalize hco:(γ3.sk.mw m).code=co at *
   (iterate 2 (refine lop hg rfl rfl (by k_ne) fun v W H=>?_;go_simp;refine H _ _ rfl (by simp[go_sem]) ?_;clear H W v;try walk_nrm));refine len hg ?_;refine lcf hg rfl ?_;refine lsk hg ?_;refine lsq hg ?_;refine lrg hg ?_;simp only[ix,Nat.reduceAdd];refine lop hg rfl rfl (by k_ne) fun v W H=>?_;go_simp;refine H _ _ rfl (by simp[go_sem]) ?_;clear H W v;(try walk_nrm);refine len hg ?_;refine lrg hg ?_;simp only[ix,Nat.reduceAdd];refine lop hg rfl rfl (by k_ne) fun v W H=>?_;go_simp;refine H _ _ rfl (by simp[go_sem]) ?_;clear H W v;(try walk_nrm);refine len hg ?_
   refine lives_ctl rfl hg (fun _=>stepG_inBlock) ?_
   refine lives_ctl rfl hg (fun _=>stepG_inLoop) ?_
   exact KH _ _ _ _ _ _ _ _ _ _ _ _ _ _ _ _ _ _ _ _ _ _ _ _ _ _ _ _ _ _ _ _ _ _ _ _ _ _ _ _ _ _ _ _ _ _ _ _ _ _ _ _ _ _ _ _ _ _ _ _ _ _ _ _ _ _ _ _ _ _ _ _ _ _ _ _ _ _ _ _ _ _ _ _ _ _ _ _ _ _ _ _ _ _ _ _ _ _ _ _ _ _ _ _ _ _ _ _ _ _ _ _ _ _ _ _ _ _ _ _ _ _ _ _ _ _ _ _ _ _ _ _ _ _
set_option maxRecDepth 100000 in
set_option maxHeartbeats 4000000 in
theorem lk_casL {co cn:Nat} (h5:bits .and .i32 (co:Nat) 5=0) (hfit:Fit m (upd f m a) a (.own 0)) (hs:∀x:MW,x.code=co->∃x',MStep a x (.own 0) x'/\x'.code=cn/\x'.q=x.q) (hm:m < 2) (h2:∀k,k < 2->k≠m->f k=.off\/f k=.fresh) (h:In p i y 1 (upd f m a) γ) (hne:co≠cn) (hn:γ.sk.V p m<=n/\((γ.sk.mw m).code=co\/γ.sk.V p m < n)) (sv aw:Bool) (wst:Int) (it:Nat) (Jb Ji Jj Jk Jl Jm Jn Jo Jp Jq Jr Js Jt Ju Jv Jw Jx Jy Jz J0 J1 J2 J3 J4 J5 J6 J7 J8 J9 Qa Qb Qc Qd Qe Qf Qg Qh Qi Qj Qk Ql Qm Qn Qo Qp Qq Qr Qs Qt Qu Qv Qw Qx Qy Qz Q0 Q1 Q2 Q3 Q4 Q5 Q6 Q7 Q8 Q9 Ua Ub Uc Ud Ue Uf Ug Uh Ui Uj Uk Ul Um Un Uo Up Uq Ur Us Ut Uu Uv Uw Ux Uy Uz U0 U1 U2 U3 U4 U5 U6 U7 U8 U9 Xa Xb Xc Xd Xe Xf Xg Xh Xi Xj Xk Xl Xm Xn Xo Xp Xq Xr Xs Xt Xu Xv Xw Xx Xy Xz X0 X1 X2 X3 X4:Value)
  (KD:∀γ' w',In p i y 0 (upd f m (.own 1)) γ'->Aft i p γ γ'->LV Tryd.prog wgLink.tWg top Post i γ' w' (G (c.finish (.tuple #[])) cs))
  (KM:∀γ' w',In p i y 1 (upd f m a) γ'->Aft i p γ γ'->γ'.sk.V p m < n->MuI p.b p.W (γ'.sk.ml m) (γ'.sk.mw m)->p.W<=16->∀Jb Jh Ji Jj Jk Jl Jm Jn Jo Jp Jq Jr Js Jt Ju Jv Jw Jx Jy Jz J0 J1 J2 J3 J4 J5 J6 J7 J8 J9 Qa Qb Qc Qd Qe Qf Qg Qh Qi Qj Qk Ql Qm Qn Qo Qp Qq Qr Qs Qt Qu Qv Qw Qx Qy Qz Q0 Q1 Q2 Q3 Q4 Q5 Q6 Q7 Q8 Q9 Ua Ub Uc Ud Ue Uf Ug Uh Ui Uj Uk Ul Um Un Uo Up Uq Ur Us Ut Uu Uv Uw Ux Uy Uz U0 U1 U2 U3 U4 U5 U6 U7 U8 U9 Xa Xb Xc Xd Xe Xf Xg Xh Xi Xj Xk Xl Xm Xn Xo Xp Xq Xr Xs Xt Xu Xv Xw Xx Xy Xz X0 X1 X2 X3 X4:Value,LV Tryd.prog wgLink.tWg top Post i γ' w' (G ((base 83).at ⟨#[.pointer (some (p.muA m)),Jb,.int .i64 wst,.bool sv,.bool aw,.int .i64 (it:Nat),.int .i32 (((γ'.sk.mw m).code):Nat),Jh,Ji,Jj,Jk,Jl,Jm,Jn,Jo,Jp,Jq,Jr,Js,Jt,Ju,Jv,Jw,Jx,Jy,Jz,J0,J1,J2,J3,J4,J5,J6,J7,J8,J9,Qa,Qb,Qc,Qd,Qe,Qf,Qg,Qh,Qi,Qj,Qk,Ql,Qm,Qn,Qo,Qp,Qq,Qr,Qs,Qt,Qu,Qv,Qw,Qx,Qy,Qz,Q0,Q1,Q2,Q3,Q4,Q5,Q6,Q7,Q8,Q9,Ua,Ub,Uc,Ud,Ue,Uf,Ug,Uh,Ui,Uj,Uk,Ul,Um,Un,Uo,Up,Uq,Ur,Us,Ut,Uu,Uv,Uw,Ux,Uy,Uz,U0,U1,U2,U3,U4,U5,U6,U7,U8,U9,Xa,Xb,Xc,Xd,Xe,Xf,Xg,Xh,Xi,Xj,Xk,Xl,Xm,Xn,Xo,Xp,Xq,Xr,Xs,Xt,Xu,Xv,Xw,Xx,Xy,Xz,X0,X1,X2,X3,X4],[]⟩ [.code lkL,.inLoop lkL,.inBlock 0,.code lkR]) (c::cs))) :
  LV Tryd.prog wgLink.tWg top Post i γ w (G ((base 83).at ⟨#[.pointer (some (p.muA m)),Jb,.int .i64 wst,.bool sv,.bool aw,.int .i64 (it:Nat),.int .i32 (co:Nat),.int .i32 (cn:Nat),Ji,Jj,Jk,Jl,Jm,Jn,Jo,Jp,Jq,Jr,Js,Jt,Ju,Jv,Jw,Jx,Jy,Jz,J0,J1,J2,J3,J4,J5,J6,J7,J8,J9,Qa,Qb,Qc,Qd,Qe,Qf,Qg,Qh,Qi,Qj,Qk,Ql,Qm,Qn,Qo,Qp,Qq,Qr,Qs,Qt,Qu,Qv,Qw,Qx,Qy,Qz,Q0,Q1,Q2,Q3,Q4,Q5,Q6,Q7,Q8,Q9,Ua,Ub,Uc,Ud,Ue,Uf,Ug,Uh,Ui,Uj,Uk,Ul,Um,Un,Uo,Up,Uq,Ur,Us,Ut,Uu,Uv,Uw,Ux,Uy,Uz,U0,U1,U2,U3,U4,U5,U6,U7,U8,U9,Xa,Xb,Xc,Xd,Xe,Xf,Xg,Xh,Xi,Xj,Xk,Xl,Xm,Xn,Xo,Xp,Xq,Xr,Xs,Xt,Xu,Xv,Xw,Xx,Xy,Xz,X0,X1,X2,X3,X4],[]⟩ [.code lk22,.inBlock 1,.inLoop lkL,.inBlock 0,.code lkR]) (c::cs)):=by
 have hg:=h.ng
 simp only[lkR]
 simp only[lk27,lk22,lk11,lkL,lkB,findLoop,cTl,cHd,cThen,cIn,Tryd.f83,Option.getD_some]
 (try walk_nrm);refine lsq hg ?_;refine lrg hg ?_;simp only[ix,Nat.reduceAdd];(iterate 5 (refine lop hg rfl rfl (by k_ne) fun v W H=>?_;go_simp;refine H _ _ rfl (by simp[go_sem]) ?_;clear H W v;try walk_nrm))
 refine lv_casop hm h (upd_same _ _ _) hfit hne hs hn rfl rfl (by k_ne) rfl rfl rfl rfl (fun γ1 w1 h1 A1 Jb=>?_) fun γ1 w1 h1 A1 Jb=>?_
 ·rw[upd_upd] at h1
  clear hg;have hg:=h1.ng;(try walk_nrm);refine len hg ?_;refine lct hg rfl ?_;refine lsq hg ?_;refine lsq hg ?_;refine lrg hg ?_;simp only[ix,Nat.reduceAdd];(iterate 3 (refine lop hg rfl rfl (by k_ne) fun v W H=>?_;go_simp;refine H _ _ rfl (by simp[go_sem]) ?_;clear H W v;try walk_nrm));refine len hg ?_;refine lct hg rfl ?_
  refine lives_ctl rfl hg (fun _=>stepG_exit rfl) ?_
  exact lk_done hm h1 h2 _ _ _ _ _ _ _ _ _ _ _ _ _ _ _ _ _ _ _ _ _ _ _ _ _ _ _ _ _ _ _ _ _ _ _ _ _ _ _ _ _ _ _ _ _ _ _ _ _ _ _ _ _ _ _ _ _ _ _ _ _ _ _ _ _ _ _ _ _ _ _ _ _ _ _ _ _ _ _ _ _ _ _ _ _ _ _ _ _ _ _ _ _ _ _ _ _ _ _ _ _ _ _ _ _ _ _ _ _ _ _ _ _ _ _ _ _ _ _ _ _ _ _ _ _ _ _ _ _ _ _ _ _ _ _ _ _ _ fun γ9 w9 h9 A9=>KD γ9 w9 h9 (A1.trans A9)
 ·simp only[lkR,lkL,lkB,findLoop,Tryd.f83,Option.getD_some] at KM
  clear hg;have hg:=h1.ng;(try walk_nrm);refine len hg ?_;refine lcf hg rfl ?_;refine lrg hg ?_;simp only[ix,Nat.reduceAdd];(iterate 3 (refine lop hg rfl rfl (by k_ne) fun v W H=>?_;go_simp;refine H _ _ rfl (by simp[go_sem]) ?_;clear H W v;try walk_nrm))
  refine lv_load hm h1 rfl (fun w c hc=>stepG_loadQ rfl rfl (by k_ne) rfl (by simp[Act.eval]) mu_q_lockSlow hc) fun γ3 w3 h3 A3 M3 W3=>?_
  clear hg;have hg:=h3.ng
  replace KM:=KM γ3 w3 h3 (A1.trans A3) (Nat.lt_of_le_of_lt (A3.v m hm) Jb) M3 W3
  (try walk_nrm);refine lop hg rfl rfl (by k_ne) fun v W H=>?_;go_simp;refine H _ _ rfl (by simp[go_sem]) ?_;clear H W v;(try walk_nrm);refine len hg ?_
  refine lives_ctl rfl hg (fun _=>stepG_inBlock) ?_
  refine lives_ctl rfl hg (fun _=>stepG_inLoop) ?_
  exact KM _ _ _ _ _ _ _ _ _ _ _ _ _ _ _ _ _ _ _ _ _ _ _ _ _ _ _ _ _ _ _ _ _ _ _ _ _ _ _ _ _ _ _ _ _ _ _ _ _ _ _ _ _ _ _ _ _ _ _ _ _ _ _ _ _ _ _ _ _ _ _ _ _ _ _ _ _ _ _ _ _ _ _ _ _ _ _ _ _ _ _ _ _ _ _ _ _ _ _ _ _ _ _ _ _ _ _ _ _ _ _ _ _ _ _ _ _ _ _ _ _ _ _ _ _ _ _ _ _ _ _ _ _
set_option maxRecDepth 100000 in
set_option maxHeartbeats 4000000 in
theorem lk_casQ {co cn:Nat} {c5:Int} (h5:bits .and .i32 (co:Nat) 5=c5) (n5:(c5==0)=false) (n5b:¬c5=0) (hfit:Fit m (upd f m a) a .que) (hs:∀x:MW,x.code=co->∃x',MStep a x .que x'/\x'.code=cn/\x'.q=x.q) (hm:m < 2) (h2:∀k,k < 2->k≠m->f k=.off\/f k=.fresh) (h:In p i y 1 (upd f m a) γ) (hne:co≠cn) (hn:γ.sk.V p m<=n/\((γ.sk.mw m).code=co\/γ.sk.V p m < n)) (sv aw:Bool) (wst:Int) (it:Nat) (Jb Ji Jj Jk Jl Jm Jn Jo Jp Jq Jr Js Jt Ju Jv Jw Jx Jy Jz J0 J1 J2 J3 J4 J5 J6 J7 J8 J9 Qa Qb Qc Qd Qe Qf Qg Qh Qi Qj Qk Ql Qm Qn Qo Qp Qq Qr Qs Qt Qu Qv Qw Qx Qy Qz Q0 Q1 Q2 Q3 Q4 Q5 Q6 Q7 Q8 Q9 Ua Ub Uc Ud Ue Uf Ug Uh Ui Uj Uk Ul Um Un Uo Up Uq Ur Us Ut Uu Uv Uw Ux Uy Uz U0 U1 U2 U3 U4 U5 U6 U7 U8 U9 Xa Xb Xc Xd Xe Xf Xg Xh Xi Xj Xk Xl Xm Xn Xo Xp Xq Xr Xs Xt Xu Xv Xw Xx Xy Xz X0 X1 X2 X3 X4:Value)
  (KD:∀γ' w',In p i y 0 (upd f m (.own 1)) γ'->Aft i p γ γ'->LV Tryd.prog wgLink.tWg top Post i γ' w' (G (c.finish (.tuple #[])) cs))
  (KH:∀γ' w' sv',In p i y 1 (upd f m .tok) γ'->Aft i p γ γ'->MuI p.b p.W (γ'.sk.ml m) (γ'.sk.mw m)->p.W<=16->γ'.sk.V p m < n->∀(wst':Int) (Jb Jh Ji Jj Jk Jl Jm Jn Jo Jp Jq Jr Js Jt Ju Jv Jw Jx Jy Jz J0 J1 J2 J3 J4 J5 J6 J7 J8 J9 Qa Qb Qc Qd Qe Qf Qg Qh Qi Qj Qk Ql Qm Qn Qo Qp Qq Qr Qs Qt Qu Qv Qw Qx Qy Qz Q0 Q1 Q2 Q3 Q4 Q5 Q6 Q7 Q8 Q9 Ua Ub Uc Ud Ue Uf Ug Uh Ui Uj Uk Ul Um Un Uo Up Uq Ur Us Ut Uu Uv Uw Ux Uy Uz U0 U1 U2 U3 U4 U5 U6 U7 U8 U9 Xa Xb Xc Xd Xe Xf Xg Xh Xi Xj Xk Xl Xm Xn Xo Xp Xq Xr Xs Xt Xu Xv Xw Xx Xy Xz X0 X1 X2 X3 X4:Value),LV Tryd.prog wgLink.tWg top Post i γ' w' (G ((base 83).at ⟨#[.pointer (some (p.muA m)),Jb,.int .i64 wst',.bool sv',.bool true,.int .i64 (0:Nat),.int .i32 (((γ'.sk.mw m).code):Nat),Jh,Ji,Jj,Jk,Jl,Jm,Jn,Jo,Jp,Jq,Jr,Js,Jt,Ju,Jv,Jw,Jx,Jy,Jz,J0,J1,J2,J3,J4,J5,J6,J7,J8,J9,Qa,Qb,Qc,Qd,Qe,Qf,Qg,Qh,Qi,Qj,Qk,Ql,Qm,Qn,Qo,Qp,Qq,Qr,Qs,Qt,Qu,Qv,Qw,Qx,Qy,Qz,Q0,Q1,Q2,Q3,Q4,Q5,Q6,Q7,Q8,Q9,Ua,Ub,Uc,Ud,Ue,Uf,Ug,Uh,Ui,Uj,Uk,Ul,Um,Un,Uo,Up,Uq,Ur,Us,Ut,Uu,Uv,Uw,Ux,Uy,Uz,U0,U1,U2,U3,U4,U5,U6,U7,U8,U9,Xa,Xb,Xc,Xd,Xe,Xf,Xg,Xh,Xi,Xj,Xk,Xl,Xm,Xn,Xo,Xp,Xq,Xr,Xs,Xt,Xu,Xv,Xw,Xx,Xy,Xz,X0,X1,X2,X3,X4],[]⟩ [.code lkL,.inLoop lkL,.inBlock 0,.code lkR]) (c::cs)))
  (KM:∀γ' w',In p i y 1 (upd f m a) γ'->Aft i p γ γ'->γ'.sk.V p m < n->MuI p.b p.W (γ'.sk.ml m) (γ'.sk.mw m)->p.W<=16->∀Jb Jh Ji Jj Jk Jl Jm Jn Jo Jp Jq Jr Js Jt Ju Jv Jw Jx Jy Jz J0 J1 J2 J3 J4 J5 J6 J7 J8 J9 Qa Qb Qc Qd Qe Qf Qg Qh Qi Qj Qk Ql Qm Qn Qo Qp Qq Qr Qs Qt Qu Qv Qw Qx Qy Qz Q0 Q1 Q2 Q3 Q4 Q5 Q6 Q7 Q8 Q9 Ua Ub Uc Ud Ue Uf Ug Uh Ui Uj Uk Ul Um Un Uo Up Uq Ur Us Ut Uu Uv Uw Ux Uy Uz U0 U1 U2 U3 U4 U5 U6 U7 U8 U9 Xa Xb Xc Xd Xe Xf Xg Xh Xi Xj Xk Xl Xm Xn Xo Xp Xq Xr Xs Xt Xu Xv Xw Xx Xy Xz X0 X1 X2 X3 X4:Value,LV Tryd.prog wgLink.tWg top Post i γ' w' (G ((base 83).at ⟨#[.pointer (some (p.muA m)),Jb,.int .i64 wst,.bool sv,.bool aw,.int .i64 (it:Nat),.int .i32 (((γ'.sk.mw m).code):Nat),Jh,Ji,Jj,Jk,Jl,Jm,Jn,Jo,Jp,Jq,Jr,Js,Jt,Ju,Jv,Jw,Jx,Jy,Jz,J0,J1,J2,J3,J4,J5,J6,J7,J8,J9,Qa,Qb,Qc,Qd,Qe,Qf,Qg,Qh,Qi,Qj,Qk,Ql,Qm,Qn,Qo,Qp,Qq,Qr,Qs,Qt,Qu,Qv,Qw,Qx,Qy,Qz,Q0,Q1,Q2,Q3,Q4,Q5,Q6,Q7,Q8,Q9,Ua,Ub,Uc,Ud,Ue,Uf,Ug,Uh,Ui,Uj,Uk,Ul,Um,Un,Uo,Up,Uq,Ur,Us,Ut,Uu,Uv,Uw,Ux,Uy,Uz,U0,U1,U2,U3,U4,U5,U6,U7,U8,U9,Xa,Xb,Xc,Xd,Xe,Xf,Xg,Xh,Xi,Xj,Xk,Xl,Xm,Xn,Xo,Xp,Xq,Xr,Xs,Xt,Xu,Xv,Xw,Xx,Xy,Xz,X0,X1,X2,X3,X4],[]⟩ [.code lkL,.inLoop lkL,.inBlock 0,.code lkR]) (c::cs))) :
  LV Tryd.prog wgLink.tWg top Post i γ w (G ((base 83).at ⟨#[.pointer (some (p.muA m)),Jb,.int .i64 wst,.bool sv,.bool aw,.int .i64 (it:Nat),.int .i32 (co:Nat),.int .i32 (cn:Nat),Ji,Jj,Jk,Jl,Jm,Jn,Jo,Jp,Jq,Jr,Js,Jt,Ju,Jv,Jw,Jx,Jy,Jz,J0,J1,J2,J3,J4,J5,J6,J7,J8,J9,Qa,Qb,Qc,Qd,Qe,Qf,Qg,Qh,Qi,Qj,Qk,Ql,Qm,Qn,Qo,Qp,Qq,Qr,Qs,Qt,Qu,Qv,Qw,Qx,Qy,Qz,Q0,Q1,Q2,Q3,Q4,Q5,Q6,Q7,Q8,Q9,Ua,Ub,Uc,Ud,Ue,Uf,Ug,Uh,Ui,Uj,Uk,Ul,Um,Un,Uo,Up,Uq,Ur,Us,Ut,Uu,Uv,Uw,Ux,Uy,Uz,U0,U1,U2,U3,U4,U5,U6,U7,U8,U9,Xa,Xb,Xc,Xd,Xe,Xf,Xg,Xh,Xi,Xj,Xk,Xl,Xm,Xn,Xo,Xp,Xq,Xr,Xs,Xt,Xu,Xv,Xw,Xx,Xy,Xz,X0,X1,X2,X3,X4],[]⟩ [.code lk22,.inBlock 1,.inLoop lkL,.inBlock 0,.code lkR]) (c::cs)):=by
 have hg:=h.ng
 simp only[lkR]
 simp only[lk27,lk22,lk11,lkL,lkB,findLoop,cTl,cHd,cThen,cIn,Tryd.f83,Option.getD_some]
 (try walk_nrm);refine lsq hg ?_;refine lrg hg ?_;simp only[ix,Nat.reduceAdd];(iterate 5 (refine lop hg rfl rfl (by k_ne) fun v W H=>?_;go_simp;refine H _ _ rfl (by simp[go_sem]) ?_;clear H W v;try walk_nrm))
 refine lv_casop hm h (upd_same _ _ _) hfit hne hs hn rfl rfl (by k_ne) rfl rfl rfl rfl (fun γ1 w1 h1 A1 Jb=>?_) fun γ1 w1 h1 A1 Jb=>?_
 ·rw[upd_upd] at h1
  clear hg;have hg:=h1.ng;(try walk_nrm);refine len hg ?_;refine lct hg rfl ?_;refine lsq hg ?_;refine lsq hg ?_;refine lrg hg ?_;simp only[ix,Nat.reduceAdd];(iterate 3 (refine lop hg rfl rfl (by k_ne) fun v W H=>?_;go_simp;refine H _ _ rfl (by simp[go_sem]) ?_;clear H W v;try walk_nrm));refine len hg ?_;refine lcf hg rfl ?_;refine lsk hg ?_;refine lsq hg ?_;refine lrg hg ?_;simp only[ix,Nat.reduceAdd];(iterate 3 (refine lop hg rfl rfl (by k_ne) fun v W H=>?_;go_simp;refine H _ _ rfl (by simp[go_sem]) ?_;clear H W v;try walk_nrm));refine len hg ?_;refine lsq hg ?_;refine lsq hg ?_;refine lrg hg ?_;simp only[ix,Nat.reduceAdd];refine lop hg rfl rfl (by k_ne) fun v W H=>?_;go_simp;refine H _ _ rfl (by simp[go_sem]) ?_;clear H W v;try walk_nrm
  by_cases hw0:wst=0
  ·have e0:(wst==0)=true:=by rw[hw0];rfl
   clear hw0;refine lop hg rfl rfl (by k_ne) fun v W H=>?_;go_simp;refine H _ _ rfl (by simp[go_sem]) ?_;clear H W v;(try walk_nrm);refine len hg ?_;refine lct hg rfl ?_;refine lrg hg ?_;simp only[ix,Nat.reduceAdd]
   refine lv_nano h1 rfl rfl (by k_ne) rfl fun γ2 w2 tv h2' A2 _=>?_
   clear hg;have hg:=h2'.ng;(try walk_nrm);refine lop hg rfl rfl (by k_ne) fun v W H=>?_;go_simp;refine H _ _ rfl (by simp[go_sem]) ?_;clear H W v;(try walk_nrm);refine len hg ?_
   exact lk_sem hm h2 h2' _ _ _ _ _ _ _ _ _ _ _ _ _ _ _ _ _ _ _ _ _ _ _ _ _ _ _ _ _ _ _ _ _ _ _ _ _ _ _ _ _ _ _ _ _ _ _ _ _ _ _ _ _ _ _ _ _ _ _ _ _ _ _ _ _ _ _ _ _ _ _ _ _ _ _ _ _ _ _ _ _ _ _ _ _ _ _ _ _ _ _ _ _ _ _ _ _ _ _ _ _ _ _ _ _ _ _ _ _ _ _ _ _ _ _ _ _ _ _ _ _ _ _ _ _ _ _ _ _ _ _ _ _ _ _ _ _ _ (fun γ9 w9 h9 A9=>KD γ9 w9 h9 ((A1.trans A2).trans A9)) fun γ9 w9 sv9 h9 A9 M9 W9=>KH γ9 w9 sv9 h9 ((A1.trans A2).trans A9) M9 W9 (Nat.lt_of_le_of_lt ((A2.trans A9).v m hm) Jb)
  ·have e0:(wst==0)=false:=by simpa using hw0
   clear hw0;refine lop hg rfl rfl (by k_ne) fun v W H=>?_;go_simp;refine H _ _ rfl (by simp[go_sem]) ?_;clear H W v;(try walk_nrm);refine len hg ?_;refine lcf hg rfl ?_;refine lsk hg ?_
   exact lk_sem hm h2 h1 _ _ _ _ _ _ _ _ _ _ _ _ _ _ _ _ _ _ _ _ _ _ _ _ _ _ _ _ _ _ _ _ _ _ _ _ _ _ _ _ _ _ _ _ _ _ _ _ _ _ _ _ _ _ _ _ _ _ _ _ _ _ _ _ _ _ _ _ _ _ _ _ _ _ _ _ _ _ _ _ _ _ _ _ _ _ _ _ _ _ _ _ _ _ _ _ _ _ _ _ _ _ _ _ _ _ _ _ _ _ _ _ _ _ _ _ _ _ _ _ _ _ _ _ _ _ _ _ _ _ _ _ _ _ _ _ _ _ (fun γ9 w9 h9 A9=>KD γ9 w9 h9 (A1.trans A9)) fun γ9 w9 sv9 h9 A9 M9 W9=>KH γ9 w9 sv9 h9 (A1.trans A9) M9 W9 (Nat.lt_of_le_of_lt (A9.v m hm) Jb)
 ·simp only[lkR,lkL,lkB,findLoop,Tryd.f83,Option.getD_some] at KM
  clear hg;have hg:=h1.ng;(try walk_nrm);refine len hg ?_;refine lcf hg rfl ?_;refine lrg hg ?_;simp only[ix,Nat.reduceAdd];(iterate 3 (refine lop hg rfl rfl (by k_ne) fun v W H=>?_;go_simp;refine H _ _ rfl (by simp[go_sem]) ?_;clear H W v;try walk_nrm))
  refine lv_load hm h1 rfl (fun w c hc=>stepG_loadQ rfl rfl (by k_ne) rfl (by simp[Act.eval]) mu_q_lockSlow hc) fun γ3 w3 h3 A3 M3 W3=>?_
  clear hg;have hg:=h3.ng
  replace KM:=KM γ3 w3 h3 (A1.trans A3) (Nat.lt_of_le_of_lt (A3.v m hm) Jb) M3 W3
  (try walk_nrm);refine lop hg rfl rfl (by k_ne) fun v W H=>?_;go_simp;refine H _ _ rfl (by simp[go_sem]) ?_;clear H W v;(try walk_nrm);refine len hg ?_
  refine lives_ctl rfl hg (fun _=>stepG_inBlock) ?_
  refine lives_ctl rfl hg (fun _=>stepG_inLoop) ?_
  exact KM _ _ _ _ _ _ _ _ _ _ _ _ _ _ _ _ _ _ _ _ _ _ _ _ _ _ _ _ _ _ _ _ _ _ _ _ _ _ _ _ _ _ _ _ _ _ _ _ _ _ _ _ _ _ _ _ _ _ _ _ _ _ _ _ _ _ _ _ _ _ _ _ _ _ _ _ _ _ _ _ _ _ _ _ _ _ _ _ _ _ _ _ _ _ _ _ _ _ _ _ _ _ _ _ _ _ _ _ _ _ _ _ _ _ _ _ _ _ _ _ _ _ _ _ _ _ _ _ _ _ _ _ _
end
end Go.Proofs.YtbicafgmfgdckaaDoor
