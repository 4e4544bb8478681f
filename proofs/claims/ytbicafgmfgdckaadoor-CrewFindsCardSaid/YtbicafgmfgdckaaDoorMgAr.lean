/- lockSlow, in the crew: the head of its loop, and where it spins. A lock's word, its bits. Plain. lockSlow, in the crew: where it may spin. lockSlow, in the crew: it waits, it is woken; it takes the word. -/
import Derived.Test.YtbicafgmfgdckaaDoorMgAq
import Derived.Test.YtbicafgmfgdckaaDoorMgAg
import Derived.Conc.WgArith
namespace Go.Proofs.YtbicafgmfgdckaaDoor
open Go Go.RowKit Go.Conc Go.Conc.Lib Go.ConcR.Gen
open Go.ConcR (KK wgBlock WgAt stA smA rd wr mk DC0)
open Go.ConcN (sumTo upd upd_same upd_ne RelBy PermW WgLive)
section
variable {top:Nat} {γ γ' γ2:Gho} {p:Ph} {w w' w2:World} {i j k n m y:Nat} {f:Nat->ML} {a:ML} {Post:Value->World->Prop} {es:Array Event} {g g':Goroutine} {c:Frame} {cs:List Frame}
theorem wrap64 {it:Nat} (h:it < 4):IntKind.i64.wrap ((it:Int)+1)=((it+1:Nat):Int):=by rw[IntKind.wrap_i64];omega
set_option maxRecDepth 100000 in
set_option maxHeartbeats 4000000 in
theorem lk_headNo (hg:γ.tag i≠.gone) (co:Nat) {c5:Int} (h5:bits .and .i32 (co:Nat) 5=c5) (n5:(c5==1)=false) (n5b:¬c5=1) (sv aw:Bool) (wst:Int) (it:Nat) (Jb Jh Ji Jj Jk Jl Jm Jn Jo Jp Jq Jr Js Jt Ju Jv Jw Jx Jy Jz J0 J1 J2 J3 J4 J5 J6 J7 J8 J9 Qa Qb Qc Qd Qe Qf Qg Qh Qi Qj Qk Ql Qm Qn Qo Qp Qq Qr Qs Qt Qu Qv Qw Qx Qy Qz Q0 Q1 Q2 Q3 Q4 Q5 Q6 Q7 Q8 Q9 Ua Ub Uc Ud Ue Uf Ug Uh Ui Uj Uk Ul Um Un Uo Up Uq Ur Us Ut Uu Uv Uw Ux Uy Uz U0 U1 U2 U3 U4 U5 U6 U7 U8 U9 Xa Xb Xc Xd Xe Xf Xg Xh Xi Xj Xk Xl Xm Xn Xo Xp Xq Xr Xs Xt Xu Xv Xw Xx Xy Xz X0 X1 X2 X3 X4:Value)
  (K:∀Jb Jh Ji Jj Jk Jl Jm Jn Jo Jp Jq Jr Js Jt Ju Jv Jw Jx Jy Jz J0 J1 J2 J3 J4 J5 J6 J7 J8 J9 Qa Qb Qc Qd Qe Qf Qg Qh Qi Qj Qk Ql Qm Qn Qo Qp Qq Qr Qs Qt Qu Qv Qw Qx Qy Qz Q0 Q1 Q2 Q3 Q4 Q5 Q6 Q7 Q8 Q9 Ua Ub Uc Ud Ue Uf Ug Uh Ui Uj Uk Ul Um Un Uo Up Uq Ur Us Ut Uu Uv Uw Ux Uy Uz U0 U1 U2 U3 U4 U5 U6 U7 U8 U9 Xa Xb Xc Xd Xe Xf Xg Xh Xi Xj Xk Xl Xm Xn Xo Xp Xq Xr Xs Xt Xu Xv Xw Xx Xy Xz X0 X1 X2 X3 X4:Value,LV Tryd.prog wgLink.tWg top Post i γ w (G ((base 83).at ⟨#[.pointer (some (p.muA m)),Jb,.int .i64 wst,.bool sv,.bool aw,.int .i64 (it:Nat),.int .i32 (co:Nat),Jh,Ji,Jj,Jk,Jl,Jm,Jn,Jo,Jp,Jq,Jr,Js,Jt,Ju,Jv,Jw,Jx,Jy,Jz,J0,J1,J2,J3,J4,J5,J6,J7,J8,J9,Qa,Qb,Qc,Qd,Qe,Qf,Qg,Qh,Qi,Qj,Qk,Ql,Qm,Qn,Qo,Qp,Qq,Qr,Qs,Qt,Qu,Qv,Qw,Qx,Qy,Qz,Q0,Q1,Q2,Q3,Q4,Q5,Q6,Q7,Q8,Q9,Ua,Ub,Uc,Ud,Ue,Uf,Ug,Uh,Ui,Uj,Uk,Ul,Um,Un,Uo,Up,Uq,Ur,Us,Ut,Uu,Uv,Uw,Ux,Uy,Uz,U0,U1,U2,U3,U4,U5,U6,U7,U8,U9,Xa,Xb,Xc,Xd,Xe,Xf,Xg,Xh,Xi,Xj,Xk,Xl,Xm,Xn,Xo,Xp,Xq,Xr,Xs,Xt,Xu,Xv,Xw,Xx,Xy,Xz,X0,X1,X2,X3,X4],[]⟩ [.code lk11,.inBlock 1,.inLoop lkL,.inBlock 0,.code lkR]) (c::cs))) :
  LV Tryd.prog wgLink.tWg top Post i γ w (G ((base 83).at ⟨#[.pointer (some (p.muA m)),Jb,.int .i64 wst,.bool sv,.bool aw,.int .i64 (it:Nat),.int .i32 (co:Nat),Jh,Ji,Jj,Jk,Jl,Jm,Jn,Jo,Jp,Jq,Jr,Js,Jt,Ju,Jv,Jw,Jx,Jy,Jz,J0,J1,J2,J3,J4,J5,J6,J7,J8,J9,Qa,Qb,Qc,Qd,Qe,Qf,Qg,Qh,Qi,Qj,Qk,Ql,Qm,Qn,Qo,Qp,Qq,Qr,Qs,Qt,Qu,Qv,Qw,Qx,Qy,Qz,Q0,Q1,Q2,Q3,Q4,Q5,Q6,Q7,Q8,Q9,Ua,Ub,Uc,Ud,Ue,Uf,Ug,Uh,Ui,Uj,Uk,Ul,Um,Un,Uo,Up,Uq,Ur,Us,Ut,Uu,Uv,Uw,Ux,Uy,Uz,U0,U1,U2,U3,U4,U5,U6,U7,U8,U9,Xa,Xb,Xc,Xd,Xe,Xf,Xg,Xh,Xi,Xj,Xk,Xl,Xm,Xn,Xo,Xp,Xq,Xr,Xs,Xt,Xu,Xv,Xw,Xx,Xy,Xz,X0,X1,X2,X3,X4],[]⟩ [.code lkL,.inLoop lkL,.inBlock 0,.code lkR]) (c::cs)):=by
 simp only[lk8,lk6,lk11,lkL,lkB,findLoop,cTl,cHd,cThen,cIn,Tryd.f83,Option.getD_some]
 try walk_nrm
 refine lives_ctl rfl hg (fun _=>stepG_block) ?_
 refine lsq hg ?_;refine lsq hg ?_;refine lrg hg ?_;simp only[ix,Nat.reduceAdd];(iterate 4 (refine lop hg rfl rfl (by k_ne) fun v W H=>?_;go_simp;refine H _ _ rfl (by simp[go_sem]) ?_;clear H W v;try walk_nrm));refine lun hg rfl rfl ?_;(try walk_nrm);refine lun hg rfl rfl ?_;(try walk_nrm);refine lop hg rfl rfl (by k_ne) fun v W H=>?_;go_simp;refine H _ _ rfl (by simp[go_sem]) ?_;clear H W v;(try walk_nrm);refine len hg ?_;refine lcf hg rfl ?_;refine lsk hg ?_
 exact K _ _ _ _ _ _ _ _ _ _ _ _ _ _ _ _ _ _ _ _ _ _ _ _ _ _ _ _ _ _ _ _ _ _ _ _ _ _ _ _ _ _ _ _ _ _ _ _ _ _ _ _ _ _ _ _ _ _ _ _ _ _ _ _ _ _ _ _ _ _ _ _ _ _ _ _ _ _ _ _ _ _ _ _ _ _ _ _ _ _ _ _ _ _ _ _ _ _ _ _ _ _ _ _ _ _ _ _ _ _ _ _ _ _ _ _ _ _ _ _ _ _ _ _ _ _ _ _ _ _ _ _ _
set_option maxRecDepth 100000 in
set_option maxHeartbeats 4000000 in
theorem lk_headAsk (h:In p i y 1 f γ) (co:Nat) (h5:bits .and .i32 (co:Nat) 5=1) (sv aw:Bool) (wst:Int) (it:Nat) (Jb Jh Ji Jj Jk Jl Jm Jn Jo Jp Jq Jr Js Jt Ju Jv Jw Jx Jy Jz J0 J1 J2 J3 J4 J5 J6 J7 J8 J9 Qa Qb Qc Qd Qe Qf Qg Qh Qi Qj Qk Ql Qm Qn Qo Qp Qq Qr Qs Qt Qu Qv Qw Qx Qy Qz Q0 Q1 Q2 Q3 Q4 Q5 Q6 Q7 Q8 Q9 Ua Ub Uc Ud Ue Uf Ug Uh Ui Uj Uk Ul Um Un Uo Up Uq Ur Us Ut Uu Uv Uw Ux Uy Uz U0 U1 U2 U3 U4 U5 U6 U7 U8 U9 Xa Xb Xc Xd Xe Xf Xg Xh Xi Xj Xk Xl Xm Xn Xo Xp Xq Xr Xs Xt Xu Xv Xw Xx Xy Xz X0 X1 X2 X3 X4:Value)
  (K:∀γ' w',In p i y 1 f γ'->Aft i p γ γ'->SkRel i p γ w γ' w'->(∀Jb Jh Ji Jj Jk Jl Jm Jn Jo Jp Jq Jr Js Jt Ju Jv Jw Jx Jy Jz J0 J1 J2 J3 J4 J5 J6 J7 J8 J9 Qa Qb Qc Qd Qe Qf Qg Qh Qi Qj Qk Ql Qm Qn Qo Qp Qq Qr Qs Qt Qu Qv Qw Qx Qy Qz Q0 Q1 Q2 Q3 Q4 Q5 Q6 Q7 Q8 Q9 Ua Ub Uc Ud Ue Uf Ug Uh Ui Uj Uk Ul Um Un Uo Up Uq Ur Us Ut Uu Uv Uw Ux Uy Uz U0 U1 U2 U3 U4 U5 U6 U7 U8 U9 Xa Xb Xc Xd Xe Xf Xg Xh Xi Xj Xk Xl Xm Xn Xo Xp Xq Xr Xs Xt Xu Xv Xw Xx Xy Xz X0 X1 X2 X3 X4:Value,LV Tryd.prog wgLink.tWg top Post i γ' w' (G ((base 83).at ⟨#[.pointer (some (p.muA m)),Jb,.int .i64 wst,.bool sv,.bool aw,.int .i64 (it:Nat),.int .i32 (co:Nat),Jh,Ji,Jj,Jk,Jl,Jm,Jn,Jo,Jp,Jq,Jr,Js,Jt,Ju,Jv,Jw,Jx,Jy,Jz,J0,J1,J2,J3,J4,J5,J6,J7,J8,J9,Qa,Qb,Qc,Qd,Qe,Qf,Qg,Qh,Qi,Qj,Qk,Ql,Qm,Qn,Qo,Qp,Qq,Qr,Qs,Qt,Qu,Qv,Qw,Qx,Qy,Qz,Q0,Q1,Q2,Q3,Q4,Q5,Q6,Q7,Q8,Q9,Ua,Ub,Uc,Ud,Ue,Uf,Ug,Uh,Ui,Uj,Uk,Ul,Um,Un,Uo,Up,Uq,Ur,Us,Ut,Uu,Uv,Uw,Ux,Uy,Uz,U0,U1,U2,U3,U4,U5,U6,U7,U8,U9,Xa,Xb,Xc,Xd,Xe,Xf,Xg,Xh,Xi,Xj,Xk,Xl,Xm,Xn,Xo,Xp,Xq,Xr,Xs,Xt,Xu,Xv,Xw,Xx,Xy,Xz,X0,X1,X2,X3,X4],[]⟩ [.code lk11,.inBlock 1,.inLoop lkL,.inBlock 0,.code lkR]) (c::cs)))/\(it < 4->∀Jb Jh Ji Jj Jk Jl Jm Jn Jo Jp Jq Jr Js Jt Ju Jv Jw Jx Jy Jz J0 J1 J2 J3 J4 J5 J6 J7 J8 J9 Qa Qb Qc Qd Qe Qf Qg Qh Qi Qj Qk Ql Qm Qn Qo Qp Qq Qr Qs Qt Qu Qv Qw Qx Qy Qz Q0 Q1 Q2 Q3 Q4 Q5 Q6 Q7 Q8 Q9 Ua Ub Uc Ud Ue Uf Ug Uh Ui Uj Uk Ul Um Un Uo Up Uq Ur Us Ut Uu Uv Uw Ux Uy Uz U0 U1 U2 U3 U4 U5 U6 U7 U8 U9 Xa Xb Xc Xd Xe Xf Xg Xh Xi Xj Xk Xl Xm Xn Xo Xp Xq Xr Xs Xt Xu Xv Xw Xx Xy Xz X0 X1 X2 X3 X4:Value,LV Tryd.prog wgLink.tWg top Post i γ' w' (G ((base 83).at ⟨#[.pointer (some (p.muA m)),Jb,.int .i64 wst,.bool sv,.bool aw,.int .i64 (it:Nat),.int .i32 (co:Nat),Jh,Ji,Jj,Jk,Jl,Jm,Jn,Jo,Jp,Jq,Jr,Js,Jt,Ju,Jv,Jw,Jx,Jy,Jz,J0,J1,J2,J3,J4,J5,J6,J7,J8,J9,Qa,Qb,Qc,Qd,Qe,Qf,Qg,Qh,Qi,Qj,Qk,Ql,Qm,Qn,Qo,Qp,Qq,Qr,Qs,Qt,Qu,Qv,Qw,Qx,Qy,Qz,Q0,Q1,Q2,Q3,Q4,Q5,Q6,Q7,Q8,Q9,Ua,Ub,Uc,Ud,Ue,Uf,Ug,Uh,Ui,Uj,Uk,Ul,Um,Un,Uo,Up,Uq,Ur,Us,Ut,Uu,Uv,Uw,Ux,Uy,Uz,U0,U1,U2,U3,U4,U5,U6,U7,U8,U9,Xa,Xb,Xc,Xd,Xe,Xf,Xg,Xh,Xi,Xj,Xk,Xl,Xm,Xn,Xo,Xp,Xq,Xr,Xs,Xt,Xu,Xv,Xw,Xx,Xy,Xz,X0,X1,X2,X3,X4],[]⟩ [.code lk6,.code lk11,.inBlock 1,.inLoop lkL,.inBlock 0,.code lkR]) (c::cs)))) :
  LV Tryd.prog wgLink.tWg top Post i γ w (G ((base 83).at ⟨#[.pointer (some (p.muA m)),Jb,.int .i64 wst,.bool sv,.bool aw,.int .i64 (it:Nat),.int .i32 (co:Nat),Jh,Ji,Jj,Jk,Jl,Jm,Jn,Jo,Jp,Jq,Jr,Js,Jt,Ju,Jv,Jw,Jx,Jy,Jz,J0,J1,J2,J3,J4,J5,J6,J7,J8,J9,Qa,Qb,Qc,Qd,Qe,Qf,Qg,Qh,Qi,Qj,Qk,Ql,Qm,Qn,Qo,Qp,Qq,Qr,Qs,Qt,Qu,Qv,Qw,Qx,Qy,Qz,Q0,Q1,Q2,Q3,Q4,Q5,Q6,Q7,Q8,Q9,Ua,Ub,Uc,Ud,Ue,Uf,Ug,Uh,Ui,Uj,Uk,Ul,Um,Un,Uo,Up,Uq,Ur,Us,Ut,Uu,Uv,Uw,Ux,Uy,Uz,U0,U1,U2,U3,U4,U5,U6,U7,U8,U9,Xa,Xb,Xc,Xd,Xe,Xf,Xg,Xh,Xi,Xj,Xk,Xl,Xm,Xn,Xo,Xp,Xq,Xr,Xs,Xt,Xu,Xv,Xw,Xx,Xy,Xz,X0,X1,X2,X3,X4],[]⟩ [.code lkL,.inLoop lkL,.inBlock 0,.code lkR]) (c::cs)):=by
 have hg:=h.ng
 simp only[lk8,lk6,lk11,lkL,lkB,findLoop,cTl,cHd,cThen,cIn,Tryd.f83,Option.getD_some]
 try walk_nrm
 refine lives_ctl rfl hg (fun _=>stepG_block) ?_
 refine lsq hg ?_;refine lsq hg ?_;refine lrg hg ?_;simp only[ix,Nat.reduceAdd];(iterate 5 (refine lop hg rfl rfl (by k_ne) fun v W H=>?_;go_simp;refine H _ _ rfl (by simp[go_sem]) ?_;clear H W v;try walk_nrm))
 refine lv_spin (it:=it) h rfl rfl (by k_ne) rfl (by simp[Act.eval]) fun γ1 w1 b hb h1 A1 R1=>?_
 obtain⟨K0,K1⟩:=K γ1 w1 h1 A1 R1
 clear hg;have hg:=h1.ng;clear K;try walk_nrm
 cases b with
 | false =>
  refine lop hg rfl rfl (by k_ne) fun v W H=>?_;go_simp;refine H _ _ rfl (by simp[go_sem]) ?_;clear H W v;(try walk_nrm);refine len hg ?_;refine lcf hg rfl ?_;refine lsk hg ?_
  exact K0 _ _ _ _ _ _ _ _ _ _ _ _ _ _ _ _ _ _ _ _ _ _ _ _ _ _ _ _ _ _ _ _ _ _ _ _ _ _ _ _ _ _ _ _ _ _ _ _ _ _ _ _ _ _ _ _ _ _ _ _ _ _ _ _ _ _ _ _ _ _ _ _ _ _ _ _ _ _ _ _ _ _ _ _ _ _ _ _ _ _ _ _ _ _ _ _ _ _ _ _ _ _ _ _ _ _ _ _ _ _ _ _ _ _ _ _ _ _ _ _ _ _ _ _ _ _ _ _ _ _ _ _ _
 | true =>
  replace K1:=K1 (hb rfl)
  refine lop hg rfl rfl (by k_ne) fun v W H=>?_;go_simp;refine H _ _ rfl (by simp[go_sem]) ?_;clear H W v;(try walk_nrm);refine len hg ?_;refine lct hg rfl ?_
  exact K1 _ _ _ _ _ _ _ _ _ _ _ _ _ _ _ _ _ _ _ _ _ _ _ _ _ _ _ _ _ _ _ _ _ _ _ _ _ _ _ _ _ _ _ _ _ _ _ _ _ _ _ _ _ _ _ _ _ _ _ _ _ _ _ _ _ _ _ _ _ _ _ _ _ _ _ _ _ _ _ _ _ _ _ _ _ _ _ _ _ _ _ _ _ _ _ _ _ _ _ _ _ _ _ _ _ _ _ _ _ _ _ _ _ _ _ _ _ _ _ _ _ _ _ _ _ _ _ _ _ _ _ _ _
set_option maxRecDepth 100000 in
set_option maxHeartbeats 4000000 in
theorem lk_tail8 (hm:m < 2) (h:In p i y 1 f γ) (co:Nat) (sv aw:Bool) (wst:Int) (it:Nat) (h4:it < 4) (Jb Jh Ji Jj Jk Jl Jm Jn Jo Jp Jq Jr Js Jt Ju Jv Jw Jx Jy Jz J0 J1 J2 J3 J4 J5 J6 J7 J8 J9 Qa Qb Qc Qd Qe Qf Qg Qh Qi Qj Qk Ql Qm Qn Qo Qp Qq Qr Qs Qt Qu Qv Qw Qx Qy Qz Q0 Q1 Q2 Q3 Q4 Q5 Q6 Q7 Q8 Q9 Ua Ub Uc Ud Ue Uf Ug Uh Ui Uj Uk Ul Um Un Uo Up Uq Ur Us Ut Uu Uv Uw Ux Uy Uz U0 U1 U2 U3 U4 U5 U6 U7 U8 U9 Xa Xb Xc Xd Xe Xf Xg Xh Xi Xj Xk Xl Xm Xn Xo Xp Xq Xr Xs Xt Xu Xv Xw Xx Xy Xz X0 X1 X2 X3 X4:Value)
  (K:∀γ' w',In p i y 1 f γ'->Aft i p γ γ'->MuI p.b p.W (γ'.sk.ml m) (γ'.sk.mw m)->p.W<=16->∀Jb Jh Ji Jj Jk Jl Jm Jn Jo Jp Jq Jr Js Jt Ju Jv Jw Jx Jy Jz J0 J1 J2 J3 J4 J5 J6 J7 J8 J9 Qa Qb Qc Qd Qe Qf Qg Qh Qi Qj Qk Ql Qm Qn Qo Qp Qq Qr Qs Qt Qu Qv Qw Qx Qy Qz Q0 Q1 Q2 Q3 Q4 Q5 Q6 Q7 Q8 Q9 Ua Ub Uc Ud Ue Uf Ug Uh Ui Uj Uk Ul Um Un Uo Up Uq Ur Us Ut Uu Uv Uw Ux Uy Uz U0 U1 U2 U3 U4 U5 U6 U7 U8 U9 Xa Xb Xc Xd Xe Xf Xg Xh Xi Xj Xk Xl Xm Xn Xo Xp Xq Xr Xs Xt Xu Xv Xw Xx Xy Xz X0 X1 X2 X3 X4:Value,LV Tryd.prog wgLink.tWg top Post i γ' w' (G ((base 83).at ⟨#[.pointer (some (p.muA m)),Jb,.int .i64 wst,.bool sv,.bool aw,.int .i64 (it+1:Nat),.int .i32 (((γ'.sk.mw m).code):Nat),Jh,Ji,Jj,Jk,Jl,Jm,Jn,Jo,Jp,Jq,Jr,Js,Jt,Ju,Jv,Jw,Jx,Jy,Jz,J0,J1,J2,J3,J4,J5,J6,J7,J8,J9,Qa,Qb,Qc,Qd,Qe,Qf,Qg,Qh,Qi,Qj,Qk,Ql,Qm,Qn,Qo,Qp,Qq,Qr,Qs,Qt,Qu,Qv,Qw,Qx,Qy,Qz,Q0,Q1,Q2,Q3,Q4,Q5,Q6,Q7,Q8,Q9,Ua,Ub,Uc,Ud,Ue,Uf,Ug,Uh,Ui,Uj,Uk,Ul,Um,Un,Uo,Up,Uq,Ur,Us,Ut,Uu,Uv,Uw,Ux,Uy,Uz,U0,U1,U2,U3,U4,U5,U6,U7,U8,U9,Xa,Xb,Xc,Xd,Xe,Xf,Xg,Xh,Xi,Xj,Xk,Xl,Xm,Xn,Xo,Xp,Xq,Xr,Xs,Xt,Xu,Xv,Xw,Xx,Xy,Xz,X0,X1,X2,X3,X4],[]⟩ [.code lkL,.inLoop lkL,.inBlock 0,.code lkR]) (c::cs))) :
  LV Tryd.prog wgLink.tWg top Post i γ w (G ((base 83).at ⟨#[.pointer (some (p.muA m)),Jb,.int .i64 wst,.bool sv,.bool aw,.int .i64 (it:Nat),.int .i32 (co:Nat),Jh,Ji,Jj,Jk,Jl,Jm,Jn,Jo,Jp,Jq,Jr,Js,Jt,Ju,Jv,Jw,Jx,Jy,Jz,J0,J1,J2,J3,J4,J5,J6,J7,J8,J9,Qa,Qb,Qc,Qd,Qe,Qf,Qg,Qh,Qi,Qj,Qk,Ql,Qm,Qn,Qo,Qp,Qq,Qr,Qs,Qt,Qu,Qv,Qw,Qx,Qy,Qz,Q0,Q1,Q2,Q3,Q4,Q5,Q6,Q7,Q8,Q9,Ua,Ub,Uc,Ud,Ue,Uf,Ug,Uh,Ui,Uj,Uk,Ul,Um,Un,Uo,Up,Uq,Ur,Us,Ut,Uu,Uv,Uw,Ux,Uy,Uz,U0,U1,U2,U3,U4,U5,U6,U7,U8,U9,Xa,Xb,Xc,Xd,Xe,Xf,Xg,Xh,Xi,Xj,Xk,Xl,Xm,Xn,Xo,Xp,Xq,Xr,Xs,Xt,Xu,Xv,Xw,Xx,Xy,Xz,X0,X1,X2,X3,X4],[]⟩ [.code lk8,.code lk11,.inBlock 1,.inLoop lkL,.inBlock 0,.code lkR]) (c::cs)):=by
 have hg:=h.ng
 simp only[lk8,lk6,lk11,lkL,lkB,findLoop,cTl,cHd,cThen,cIn,Tryd.f83,Option.getD_some]
 (try walk_nrm);refine lsq hg ?_;refine lrg hg ?_;simp only[ix,Nat.reduceAdd]
 refine lives_ctl rfl hg (fun _=>stepG_entry_pure (.tuple #[]) rfl rfl (by k_ne) rfl Tryd.func91 mu_dos_n mu_dos_b mu_dos_x mu_dos_f) ?_
 (try walk_nrm);refine len hg ?_;refine lsq hg ?_;refine lrg hg ?_;simp only[ix,Nat.reduceAdd];(iterate 3 (refine lop hg rfl rfl (by k_ne) fun v W H=>?_;go_simp;refine H _ _ rfl (by simp[go_sem]) ?_;clear H W v;try walk_nrm));refine len hg ?_;refine lsq hg ?_;refine lrg hg ?_;simp only[ix,Nat.reduceAdd];(iterate 3 (refine lop hg rfl rfl (by k_ne) fun v W H=>?_;go_simp;refine H _ _ rfl (by simp[go_sem]) ?_;clear H W v;try walk_nrm))
 refine lv_load hm h rfl (fun w c hc=>stepG_loadQ rfl rfl (by k_ne) rfl (by simp[Act.eval]) mu_q_lockSlow hc) fun γ1 w1 h1 A1 M1 W1=>?_
 clear hg;have hg:=h1.ng
 replace K:=K γ1 w1 h1 A1 M1 W1
 (try walk_nrm);refine lop hg rfl rfl (by k_ne) fun v W H=>?_;go_simp;refine H _ _ rfl (by simp[go_sem]) ?_;clear H W v;(try walk_nrm);refine len hg ?_
 refine lives_ctl rfl hg (fun _=>stepG_exit rfl) ?_
 refine lives_ctl rfl hg (fun _=>stepG_inLoop) ?_
 rw[wrap64 h4]
 exact K _ _ _ _ _ _ _ _ _ _ _ _ _ _ _ _ _ _ _ _ _ _ _ _ _ _ _ _ _ _ _ _ _ _ _ _ _ _ _ _ _ _ _ _ _ _ _ _ _ _ _ _ _ _ _ _ _ _ _ _ _ _ _ _ _ _ _ _ _ _ _ _ _ _ _ _ _ _ _ _ _ _ _ _ _ _ _ _ _ _ _ _ _ _ _ _ _ _ _ _ _ _ _ _ _ _ _ _ _ _ _ _ _ _ _ _ _ _ _ _ _ _ _ _ _ _ _ _ _ _ _ _ _
end
end Go.Proofs.YtbicafgmfgdckaaDoor
namespace Go.Proofs.YtbicafgmfgdckaaDoor
open Go Go.RowKit
theorem tab_and1:∀L K S:Bool,∀w:Fin 64,bits .and .i32 ((MW.code ⟨L,K,S,w,0⟩:Nat):Int) 1=(L.toNat:Nat):=by decide +kernel
theorem tab_and2:∀L K S:Bool,∀w:Fin 64,bits .and .i32 ((MW.code ⟨L,K,S,w,0⟩:Nat):Int) 2=(2 * K.toNat:Nat):=by decide +kernel
theorem tab_and3:∀L K S:Bool,∀w:Fin 64,bits .and .i32 ((MW.code ⟨L,K,S,w,0⟩:Nat):Int) 3=(L.toNat+2 * K.toNat:Nat):=by decide +kernel
theorem tab_and4:∀L K S:Bool,∀w:Fin 64,bits .and .i32 ((MW.code ⟨L,K,S,w,0⟩:Nat):Int) 4=(4 * S.toNat:Nat):=by decide +kernel
theorem tab_and5:∀L K S:Bool,∀w:Fin 64,bits .and .i32 ((MW.code ⟨L,K,S,w,0⟩:Nat):Int) 5=(L.toNat+4 * S.toNat:Nat):=by decide +kernel
theorem tab_and7:∀L K S:Bool,∀w:Fin 64,bits .and .i32 ((MW.code ⟨L,K,S,w,0⟩:Nat):Int) 7=(L.toNat+2 * K.toNat+4 * S.toNat:Nat):=by decide +kernel
theorem tab_or1:∀L K S:Bool,∀w:Fin 64,bits .or .i32 ((MW.code ⟨L,K,S,w,0⟩:Nat):Int) 1=(MW.code ⟨true,K,S,w,0⟩:Nat):=by decide +kernel
theorem tab_or2:∀L K S:Bool,∀w:Fin 64,bits .or .i32 ((MW.code ⟨L,K,S,w,0⟩:Nat):Int) 2=(MW.code ⟨L,true,S,w,0⟩:Nat):=by decide +kernel
theorem tab_or4:∀L K S:Bool,∀w:Fin 64,bits .or .i32 ((MW.code ⟨L,K,S,w,0⟩:Nat):Int) 4=(MW.code ⟨L,K,true,w,0⟩:Nat):=by decide +kernel
theorem tab_an2:∀L K S:Bool,∀w:Fin 64,bits .andNot .i32 ((MW.code ⟨L,K,S,w,0⟩:Nat):Int) 2=(MW.code ⟨L,false,S,w,0⟩:Nat):=by decide +kernel
section
variable (L K S:Bool) (w q:Nat)
theorem mb_and1 (hw:w < 64):bits .and .i32 ((MW.code ⟨L,K,S,w,q⟩:Nat):Int) 1=(L.toNat:Nat):=tab_and1 L K S ⟨w,hw⟩
theorem mb_and2 (hw:w < 64):bits .and .i32 ((MW.code ⟨L,K,S,w,q⟩:Nat):Int) 2=(2 * K.toNat:Nat):=tab_and2 L K S ⟨w,hw⟩
theorem mb_and3 (hw:w < 64):bits .and .i32 ((MW.code ⟨L,K,S,w,q⟩:Nat):Int) 3=(L.toNat+2 * K.toNat:Nat):=tab_and3 L K S ⟨w,hw⟩
theorem mb_and4 (hw:w < 64):bits .and .i32 ((MW.code ⟨L,K,S,w,q⟩:Nat):Int) 4=(4 * S.toNat:Nat):=tab_and4 L K S ⟨w,hw⟩
theorem mb_and5 (hw:w < 64):bits .and .i32 ((MW.code ⟨L,K,S,w,q⟩:Nat):Int) 5=(L.toNat+4 * S.toNat:Nat):=tab_and5 L K S ⟨w,hw⟩
theorem mb_and7 (hw:w < 64):bits .and .i32 ((MW.code ⟨L,K,S,w,q⟩:Nat):Int) 7=(L.toNat+2 * K.toNat+4 * S.toNat:Nat):=tab_and7 L K S ⟨w,hw⟩
theorem mb_or1 (hw:w < 64):bits .or .i32 ((MW.code ⟨L,K,S,w,q⟩:Nat):Int) 1=(MW.code ⟨true,K,S,w,q⟩:Nat):=tab_or1 L K S ⟨w,hw⟩
theorem mb_or2 (hw:w < 64):bits .or .i32 ((MW.code ⟨L,K,S,w,q⟩:Nat):Int) 2=(MW.code ⟨L,true,S,w,q⟩:Nat):=tab_or2 L K S ⟨w,hw⟩
theorem mb_or4 (hw:w < 64):bits .or .i32 ((MW.code ⟨L,K,S,w,q⟩:Nat):Int) 4=(MW.code ⟨L,K,true,w,q⟩:Nat):=tab_or4 L K S ⟨w,hw⟩
theorem mb_an2 (hw:w < 64):bits .andNot .i32 ((MW.code ⟨L,K,S,w,q⟩:Nat):Int) 2=(MW.code ⟨L,false,S,w,q⟩:Nat):=tab_an2 L K S ⟨w,hw⟩
theorem mb_small (hw:w < 64):MW.code ⟨L,K,S,w,q⟩ < 520:=by simp only[MW.code];cases L<;>cases K<;>cases S<;>simp<;>omega
theorem mb_div (hw:w < 64):((MW.code ⟨L,K,S,w,q⟩:Nat):Int) / 8=(w:Nat):=by simp only[MW.code];cases L<;>cases K<;>cases S<;>simp<;>omega
theorem mb_add8 (hw:w < 64):IntKind.i32.wrap (((MW.code ⟨L,K,S,w,q⟩:Nat):Int)+8)=(MW.code ⟨L,K,S,w+1,q⟩:Nat):=by
 have:=mb_small L K S w q hw
 have e:MW.code ⟨L,K,S,w+1,q⟩=MW.code ⟨L,K,S,w,q⟩+8:=by simp only[MW.code];omega
 rw[e,IntKind.wrap_i32];omega
theorem mb_sub8 (hw:w < 64) (h1:0 < w):IntKind.i32.wrap (((MW.code ⟨L,K,S,w,q⟩:Nat):Int) - 8)=(MW.code ⟨L,K,S,w - 1,q⟩:Nat):=by
 have:=mb_small L K S w q hw
 have e:MW.code ⟨L,K,S,w,q⟩=MW.code ⟨L,K,S,w - 1,q⟩+8:=by simp only[MW.code];omega
 rw[e] at this ⊢
 rw[IntKind.wrap_i32];omega
theorem mb_unlock (hw:w < 64):IntKind.i32.wrap (((MW.code ⟨true,K,S,w,q⟩:Nat):Int)+-1)=(MW.code ⟨false,K,S,w,q⟩:Nat):=by
 have:=mb_small true K S w q hw
 have e:MW.code ⟨true,K,S,w,q⟩=MW.code ⟨false,K,S,w,q⟩+1:=by simp only[MW.code];simp;omega
 rw[e] at this ⊢
 rw[IntKind.wrap_i32];omega
theorem mb_take (hw:w < 64) (h1:0 < w):IntKind.i32.wrap (((MW.code ⟨false,K,true,w,q⟩:Nat):Int)+-7)=(MW.code ⟨true,K,true,w - 1,q⟩:Nat):=by
 have:=mb_small false K true w q hw
 have e:MW.code ⟨false,K,true,w,q⟩=MW.code ⟨true,K,true,w - 1,q⟩+7:=by simp only[MW.code];simp;omega
 rw[e] at this ⊢
 rw[IntKind.wrap_i32];omega
theorem mb_takeEnd (hw:w < 64) (h1:0 < w):IntKind.i32.wrap (((MW.code ⟨false,K,true,w,q⟩:Nat):Int)+-11)=(MW.code ⟨true,K,false,w - 1,q⟩:Nat):=by
 have:=mb_small false K true w q hw
 have e:MW.code ⟨false,K,true,w,q⟩=MW.code ⟨true,K,false,w - 1,q⟩+11:=by simp only[MW.code];simp;omega
 rw[e] at this ⊢
 rw[IntKind.wrap_i32];omega
end
end Go.Proofs.YtbicafgmfgdckaaDoor
namespace Go.Proofs.YtbicafgmfgdckaaDoor
open Go Go.RowKit Go.Conc Go.Conc.Lib Go.ConcR.Gen
open Go.ConcR (KK wgBlock WgAt stA smA rd wr mk DC0)
open Go.ConcN (sumTo upd upd_same upd_ne RelBy PermW WgLive)
section
variable {top:Nat} {γ γ' γ2:Gho} {p:Ph} {w w' w2:World} {i j k n m y:Nat} {f:Nat->ML} {a b:ML} {Post:Value->World->Prop} {es:Array Event} {g g':Goroutine} {c:Frame} {cs:List Frame}
theorem upd_upd (f:Nat->ML) (m:Nat) (a b:ML):upd (upd f m a) m b=upd f m b:=by funext z;by_cases q:z=m<;>simp[upd,q]
theorem fit_of (hm:m < 2) (h2:∀k,k < 2->k≠m->f k=.off\/f k=.fresh) (h0:m=0->a≠.own 1/\b≠.own 1) (h1:m=1->a≠.own 2):Fit m (upd f m a) a b:=⟨h0,h1,fun k hk hk2=>by rw[upd_ne _ _ hk2];exact h2 k hk hk2⟩
def Awk (aw:Bool) (a:ML):Prop:=(aw=false/\a=.fresh)\/(aw=true/\(a=.spun\/a=.tok))
set_option maxRecDepth 100000 in
set_option maxHeartbeats 4000000 in
theorem lk_spin (hm:m < 2) (h2:∀k,k < 2->k≠m->f k=.off\/f k=.fresh) (h:In p i y 1 (upd f m a) γ) (Kb:Bool) (xw xq:Nat) (hw:xw<=32) (sv aw:Bool) (ha:Awk aw a) (hn:γ.sk.V p m<=n/\((γ.sk.mw m).code=MW.code ⟨true,Kb,false,xw,xq⟩\/γ.sk.V p m < n)) (wst:Int) (it:Nat) (h4:it < 4) (Jb Jh Ji Jj Jk Jl Jm Jn Jo Jp Jq Jr Js Jt Ju Jv Jw Jx Jy Jz J0 J1 J2 J3 J4 J5 J6 J7 J8 J9 Qa Qb Qc Qd Qe Qf Qg Qh Qi Qj Qk Ql Qm Qn Qo Qp Qq Qr Qs Qt Qu Qv Qw Qx Qy Qz Q0 Q1 Q2 Q3 Q4 Q5 Q6 Q7 Q8 Q9 Ua Ub Uc Ud Ue Uf Ug Uh Ui Uj Uk Ul Um Un Uo Up Uq Ur Us Ut Uu Uv Uw Ux Uy Uz U0 U1 U2 U3 U4 U5 U6 U7 U8 U9 Xa Xb Xc Xd Xe Xf Xg Xh Xi Xj Xk Xl Xm Xn Xo Xp Xq Xr Xs Xt Xu Xv Xw Xx Xy Xz X0 X1 X2 X3 X4:Value)
  (K:∀γ' w' aw' a',In p i y 1 (upd f m a') γ'->Aft i p γ γ'->Awk aw' a'->(aw=true->aw'=true)->MuI p.b p.W (γ'.sk.ml m) (γ'.sk.mw m)->p.W<=16->∀Jb Jh Ji Jj Jk Jl Jm Jn Jo Jp Jq Jr Js Jt Ju Jv Jw Jx Jy Jz J0 J1 J2 J3 J4 J5 J6 J7 J8 J9 Qa Qb Qc Qd Qe Qf Qg Qh Qi Qj Qk Ql Qm Qn Qo Qp Qq Qr Qs Qt Qu Qv Qw Qx Qy Qz Q0 Q1 Q2 Q3 Q4 Q5 Q6 Q7 Q8 Q9 Ua Ub Uc Ud Ue Uf Ug Uh Ui Uj Uk Ul Um Un Uo Up Uq Ur Us Ut Uu Uv Uw Ux Uy Uz U0 U1 U2 U3 U4 U5 U6 U7 U8 U9 Xa Xb Xc Xd Xe Xf Xg Xh Xi Xj Xk Xl Xm Xn Xo Xp Xq Xr Xs Xt Xu Xv Xw Xx Xy Xz X0 X1 X2 X3 X4:Value,LV Tryd.prog wgLink.tWg top Post i γ' w' (G ((base 83).at ⟨#[.pointer (some (p.muA m)),Jb,.int .i64 wst,.bool sv,.bool aw',.int .i64 (it+1:Nat),.int .i32 (((γ'.sk.mw m).code):Nat),Jh,Ji,Jj,Jk,Jl,Jm,Jn,Jo,Jp,Jq,Jr,Js,Jt,Ju,Jv,Jw,Jx,Jy,Jz,J0,J1,J2,J3,J4,J5,J6,J7,J8,J9,Qa,Qb,Qc,Qd,Qe,Qf,Qg,Qh,Qi,Qj,Qk,Ql,Qm,Qn,Qo,Qp,Qq,Qr,Qs,Qt,Qu,Qv,Qw,Qx,Qy,Qz,Q0,Q1,Q2,Q3,Q4,Q5,Q6,Q7,Q8,Q9,Ua,Ub,Uc,Ud,Ue,Uf,Ug,Uh,Ui,Uj,Uk,Ul,Um,Un,Uo,Up,Uq,Ur,Us,Ut,Uu,Uv,Uw,Ux,Uy,Uz,U0,U1,U2,U3,U4,U5,U6,U7,U8,U9,Xa,Xb,Xc,Xd,Xe,Xf,Xg,Xh,Xi,Xj,Xk,Xl,Xm,Xn,Xo,Xp,Xq,Xr,Xs,Xt,Xu,Xv,Xw,Xx,Xy,Xz,X0,X1,X2,X3,X4],[]⟩ [.code lkL,.inLoop lkL,.inBlock 0,.code lkR]) (c::cs))) :
  LV Tryd.prog wgLink.tWg top Post i γ w (G ((base 83).at ⟨#[.pointer (some (p.muA m)),Jb,.int .i64 wst,.bool sv,.bool aw,.int .i64 (it:Nat),.int .i32 ((MW.code ⟨true,Kb,false,xw,xq⟩):Nat),Jh,Ji,Jj,Jk,Jl,Jm,Jn,Jo,Jp,Jq,Jr,Js,Jt,Ju,Jv,Jw,Jx,Jy,Jz,J0,J1,J2,J3,J4,J5,J6,J7,J8,J9,Qa,Qb,Qc,Qd,Qe,Qf,Qg,Qh,Qi,Qj,Qk,Ql,Qm,Qn,Qo,Qp,Qq,Qr,Qs,Qt,Qu,Qv,Qw,Qx,Qy,Qz,Q0,Q1,Q2,Q3,Q4,Q5,Q6,Q7,Q8,Q9,Ua,Ub,Uc,Ud,Ue,Uf,Ug,Uh,Ui,Uj,Uk,Ul,Um,Un,Uo,Up,Uq,Ur,Us,Ut,Uu,Uv,Uw,Ux,Uy,Uz,U0,U1,U2,U3,U4,U5,U6,U7,U8,U9,Xa,Xb,Xc,Xd,Xe,Xf,Xg,Xh,Xi,Xj,Xk,Xl,Xm,Xn,Xo,Xp,Xq,Xr,Xs,Xt,Xu,Xv,Xw,Xx,Xy,Xz,X0,X1,X2,X3,X4],[]⟩ [.code lk6,.code lk11,.inBlock 1,.inLoop lkL,.inBlock 0,.code lkR]) (c::cs)):=by
 have hg:=h.ng
 simp only[lk8,lk6,lk11,lkL,lkB,findLoop,cTl,cHd,cThen,cIn,Tryd.f83,Option.getD_some]
 try walk_nrm
 rcases ha with⟨rfl,rfl⟩|⟨rfl,ha⟩
 rotate_left
 ·-- awake
  refine lsq hg ?_;refine lsq hg ?_;refine lrg hg ?_;simp only[ix,Nat.reduceAdd];(iterate 3 (refine lop hg rfl rfl (by k_ne) fun v W H=>?_;go_simp;refine H _ _ rfl (by simp[go_sem]) ?_;clear H W v;try walk_nrm));refine lun hg rfl rfl ?_;(try walk_nrm);refine lun hg rfl rfl ?_;(try walk_nrm);refine lun hg rfl rfl ?_;(try walk_nrm);(iterate 2 (refine lop hg rfl rfl (by k_ne) fun v W H=>?_;go_simp;refine H _ _ rfl (by simp[go_sem]) ?_;clear H W v;try walk_nrm));refine lun hg rfl rfl ?_;(try walk_nrm);refine lun hg rfl rfl ?_;(try walk_nrm);refine lun hg rfl rfl ?_;(try walk_nrm);(iterate 2 (refine lop hg rfl rfl (by k_ne) fun v W H=>?_;go_simp;refine H _ _ rfl (by simp[go_sem]) ?_;clear H W v;try walk_nrm));refine lun hg rfl rfl ?_;(try walk_nrm);refine lun hg rfl rfl ?_;(try walk_nrm);refine lun hg rfl rfl ?_;(try walk_nrm);refine lun hg rfl rfl ?_;(try walk_nrm);refine lun hg rfl rfl ?_;(try walk_nrm);refine lun hg rfl rfl ?_;(try walk_nrm);refine lun hg rfl rfl ?_;(try walk_nrm);refine lop hg rfl rfl (by k_ne) fun v W H=>?_;go_simp;refine H _ _ rfl (by simp[go_sem]) ?_;clear H W v;(try walk_nrm);refine len hg ?_;refine lcf hg rfl ?_;refine lsk hg ?_
  exact lk_tail8 hm h _ sv true wst it h4 _ _ _ _ _ _ _ _ _ _ _ _ _ _ _ _ _ _ _ _ _ _ _ _ _ _ _ _ _ _ _ _ _ _ _ _ _ _ _ _ _ _ _ _ _ _ _ _ _ _ _ _ _ _ _ _ _ _ _ _ _ _ _ _ _ _ _ _ _ _ _ _ _ _ _ _ _ _ _ _ _ _ _ _ _ _ _ _ _ _ _ _ _ _ _ _ _ _ _ _ _ _ _ _ _ _ _ _ _ _ _ _ _ _ _ _ _ _ _ _ _ _ _ _ _ _ _ _ _ _ _ _ _ fun γ8 w8 h8 A8 M8 W8=>K γ8 w8 true _ h8 ((Aft.refl i p γ).trans A8) (.inr ⟨rfl,ha⟩) (by simp) M8 W8
 have b2:=mb_and2 true Kb false xw xq (by omega)
 have d8:=mb_div true Kb false xw xq (by omega)
 have o2:=mb_or2 true Kb false xw xq (by omega)
 cases Kb with
 | true =>
  simp only[Bool.toNat_true] at b2
  generalize hco:MW.code ⟨true,true,false,xw,xq⟩=co at *
  clear d8 o2 hco;refine lsq hg ?_;refine lsq hg ?_;refine lrg hg ?_;simp only[ix,Nat.reduceAdd];(iterate 8 (refine lop hg rfl rfl (by k_ne) fun v W H=>?_;go_simp;refine H _ _ rfl (by simp[go_sem]) ?_;clear H W v;try walk_nrm));refine lun hg rfl rfl ?_;(try walk_nrm);refine lun hg rfl rfl ?_;(try walk_nrm);refine lun hg rfl rfl ?_;(try walk_nrm);(iterate 2 (refine lop hg rfl rfl (by k_ne) fun v W H=>?_;go_simp;refine H _ _ rfl (by simp[go_sem]) ?_;clear H W v;try walk_nrm));refine lun hg rfl rfl ?_;(try walk_nrm);refine lun hg rfl rfl ?_;(try walk_nrm);refine lun hg rfl rfl ?_;(try walk_nrm);refine lun hg rfl rfl ?_;(try walk_nrm);refine lun hg rfl rfl ?_;(try walk_nrm);refine lun hg rfl rfl ?_;(try walk_nrm);refine lun hg rfl rfl ?_;(try walk_nrm);refine lop hg rfl rfl (by k_ne) fun v W H=>?_;go_simp;refine H _ _ rfl (by simp[go_sem]) ?_;clear H W v;(try walk_nrm);refine len hg ?_;refine lcf hg rfl ?_;refine lsk hg ?_
  exact lk_tail8 hm h _ sv false wst it h4 _ _ _ _ _ _ _ _ _ _ _ _ _ _ _ _ _ _ _ _ _ _ _ _ _ _ _ _ _ _ _ _ _ _ _ _ _ _ _ _ _ _ _ _ _ _ _ _ _ _ _ _ _ _ _ _ _ _ _ _ _ _ _ _ _ _ _ _ _ _ _ _ _ _ _ _ _ _ _ _ _ _ _ _ _ _ _ _ _ _ _ _ _ _ _ _ _ _ _ _ _ _ _ _ _ _ _ _ _ _ _ _ _ _ _ _ _ _ _ _ _ _ _ _ _ _ _ _ _ _ _ _ _ fun γ8 w8 h8 A8 M8 W8=>K γ8 w8 false _ h8 ((Aft.refl i p γ).trans A8) (.inl ⟨rfl,rfl⟩) (by simp) M8 W8
 | false =>
  simp only[Bool.toNat_false] at b2
  rcases Nat.eq_zero_or_pos xw with rfl|hp0
  ·generalize hco:MW.code ⟨true,false,false,0,xq⟩=co at *
   clear o2 hco;refine lsq hg ?_;refine lsq hg ?_;refine lrg hg ?_;simp only[ix,Nat.reduceAdd];(iterate 13 (refine lop hg rfl rfl (by k_ne) fun v W H=>?_;go_simp;refine H _ _ rfl (by simp[go_sem]) ?_;clear H W v;try walk_nrm));refine lun hg rfl rfl ?_;(try walk_nrm);refine lun hg rfl rfl ?_;(try walk_nrm);refine lun hg rfl rfl ?_;(try walk_nrm);refine lun hg rfl rfl ?_;(try walk_nrm);refine lun hg rfl rfl ?_;(try walk_nrm);refine lun hg rfl rfl ?_;(try walk_nrm);refine lun hg rfl rfl ?_;(try walk_nrm);refine lop hg rfl rfl (by k_ne) fun v W H=>?_;go_simp;refine H _ _ rfl (by simp[go_sem]) ?_;clear H W v;(try walk_nrm);refine len hg ?_;refine lcf hg rfl ?_;refine lsk hg ?_
   exact lk_tail8 hm h _ sv false wst it h4 _ _ _ _ _ _ _ _ _ _ _ _ _ _ _ _ _ _ _ _ _ _ _ _ _ _ _ _ _ _ _ _ _ _ _ _ _ _ _ _ _ _ _ _ _ _ _ _ _ _ _ _ _ _ _ _ _ _ _ _ _ _ _ _ _ _ _ _ _ _ _ _ _ _ _ _ _ _ _ _ _ _ _ _ _ _ _ _ _ _ _ _ _ _ _ _ _ _ _ _ _ _ _ _ _ _ _ _ _ _ _ _ _ _ _ _ _ _ _ _ _ _ _ _ _ _ _ _ _ _ _ _ _ fun γ8 w8 h8 A8 M8 W8=>K γ8 w8 false _ h8 ((Aft.refl i p γ).trans A8) (.inl ⟨rfl,rfl⟩) (by simp) M8 W8
  ·obtain⟨z,hz⟩:∃z:Int,((xw:Nat):Int)=z:=⟨_,rfl⟩
   have z1:(z==0)=false:=by rw[<- hz];simp;omega
   have z2:¬z=0:=by omega
   have z3:(z != 0)=true:=by rw[<- hz];simp;omega
   rw[hz] at d8
   have hs:∀x:MW,x.code=MW.code ⟨true,false,false,xw,xq⟩->∃x',MStep .fresh x .spun x'/\x'.code=MW.code ⟨true,true,false,xw,xq⟩/\x'.q=x.q:=fun x hx=>by
    obtain⟨e1,e2,e3,e4⟩:=MW.code_inj hx
    dsimp only at e1 e2 e3 e4
    refine⟨_,MStep.spin e1 e2 e3 (by omega),?_,rfl⟩
    simp only[MW.code,e1,e3,e4]
   have hne:MW.code ⟨true,false,false,xw,xq⟩≠MW.code ⟨true,true,false,xw,xq⟩:=fun q=>by have:=MW.code_inj q;simp at this
   generalize hco:MW.code ⟨true,false,false,xw,xq⟩=co at *
   generalize hcn:MW.code ⟨true,true,false,xw,xq⟩=cn at *
   clear hco hcn hz;refine lsq hg ?_;refine lsq hg ?_;refine lrg hg ?_;simp only[ix,Nat.reduceAdd];(iterate 19 (refine lop hg rfl rfl (by k_ne) fun v W H=>?_;go_simp;refine H _ _ rfl (by simp[go_sem]) ?_;clear H W v;try walk_nrm))
   refine lv_cas hm h rfl (upd_same _ _ _) (fit_of (b:=.spun) hm h2 (fun _=>by simp) fun _=>by simp) hne hs (fun w hc hz=>stepG_cas_hit rfl rfl (by k_ne) rfl Tryd.func82 mu_cas_n mu_cas_b mu_cas_x .i32 mu_cas_f rfl rfl rfl hc hz) (fun w c hne hc hz=>stepG_cas_miss rfl rfl (by k_ne) rfl Tryd.func82 mu_cas_n mu_cas_b mu_cas_x .i32 mu_cas_f rfl rfl rfl hc hz (by omega)) hn (fun γ1 w1 h1 A1 _=>?_) fun γ1 w1 h1 A1 _=>?_
   ·rw[upd_upd] at h1
    clear hg;have hg:=h1.ng;(try walk_nrm);refine lop hg rfl rfl (by k_ne) fun v W H=>?_;go_simp;refine H _ _ rfl (by simp[go_sem]) ?_;clear H W v;(try walk_nrm);refine len hg ?_;refine lct hg rfl ?_;refine lrg hg ?_;simp only[ix,Nat.reduceAdd];refine lop hg rfl rfl (by k_ne) fun v W H=>?_;go_simp;refine H _ _ rfl (by simp[go_sem]) ?_;clear H W v;(try walk_nrm);refine len hg ?_
    exact lk_tail8 hm h1 _ sv true wst it h4 _ _ _ _ _ _ _ _ _ _ _ _ _ _ _ _ _ _ _ _ _ _ _ _ _ _ _ _ _ _ _ _ _ _ _ _ _ _ _ _ _ _ _ _ _ _ _ _ _ _ _ _ _ _ _ _ _ _ _ _ _ _ _ _ _ _ _ _ _ _ _ _ _ _ _ _ _ _ _ _ _ _ _ _ _ _ _ _ _ _ _ _ _ _ _ _ _ _ _ _ _ _ _ _ _ _ _ _ _ _ _ _ _ _ _ _ _ _ _ _ _ _ _ _ _ _ _ _ _ _ _ _ _ fun γ8 w8 h8 A8 M8 W8=>K γ8 w8 true _ h8 (A1.trans A8) (.inr ⟨rfl,.inl rfl⟩) (by simp) M8 W8
   ·clear hg
    have hg:=h1.ng;(try walk_nrm);refine lop hg rfl rfl (by k_ne) fun v W H=>?_;go_simp;refine H _ _ rfl (by simp[go_sem]) ?_;clear H W v;(try walk_nrm);refine len hg ?_;refine lcf hg rfl ?_;refine lsk hg ?_
    exact lk_tail8 hm h1 _ sv false wst it h4 _ _ _ _ _ _ _ _ _ _ _ _ _ _ _ _ _ _ _ _ _ _ _ _ _ _ _ _ _ _ _ _ _ _ _ _ _ _ _ _ _ _ _ _ _ _ _ _ _ _ _ _ _ _ _ _ _ _ _ _ _ _ _ _ _ _ _ _ _ _ _ _ _ _ _ _ _ _ _ _ _ _ _ _ _ _ _ _ _ _ _ _ _ _ _ _ _ _ _ _ _ _ _ _ _ _ _ _ _ _ _ _ _ _ _ _ _ _ _ _ _ _ _ _ _ _ _ _ _ _ _ _ _ fun γ8 w8 h8 A8 M8 W8=>K γ8 w8 false _ h8 (A1.trans A8) (.inl ⟨rfl,rfl⟩) (by simp) M8 W8
end
end Go.Proofs.YtbicafgmfgdckaaDoor
namespace Go.Proofs.YtbicafgmfgdckaaDoor
open Go Go.RowKit Go.Conc Go.Conc.Lib Go.ConcR.Gen
open Go.ConcR (KK wgBlock WgAt stA smA rd wr mk DC0)
open Go.ConcN (sumTo upd upd_same upd_ne RelBy PermW WgLive)
section
variable {top:Nat} {γ γ' γ2:Gho} {p:Ph} {w w' w2:World} {i j k n m y:Nat} {f:Nat->ML} {a b:ML} {Post:Value->World->Prop} {es:Array Event} {g g':Goroutine} {c:Frame} {cs:List Frame}
noncomputable def lk29:Code:=cTl (cTl lk27)
noncomputable def lk30:Code:=cTl lk29
noncomputable def lkHand:Code:=cThen (cTl (cHd lk30))
set_option maxRecDepth 100000 in
set_option maxHeartbeats 4000000 in
theorem lk_hand (hm:m < 2) (h2:∀k,k < 2->k≠m->f k=.off\/f k=.fresh) (h:In p i y 1 (upd f m .hand) γ) (M:MuI p.b p.W (γ.sk.ml m) (γ.sk.mw m)) (hW:p.W<=16) (sv:Bool) (wst:Int) (Jb Je Jf Jh Ji Jj Jk Jl Jm Jn Jo Jp Jq Jr Js Jt Ju Jv Jw Jx Jy Jz J0 J1 J2 J3 J4 J5 J6 J7 J8 J9 Qa Qb Qc Qd Qe Qf Qg Qh Qi Qj Qk Ql Qm Qn Qo Qp Qq Qr Qs Qt Qu Qv Qw Qx Qy Qz Q0 Q1 Q2 Q3 Q4 Q5 Q6 Q7 Q8 Q9 Ua Ub Uc Ud Ue Uf Ug Uh Ui Uj Uk Ul Um Un Uo Up Uq Ur Us Ut Uu Uv Uw Ux Uy Uz U0 U1 U2 U3 U4 U5 U6 U7 U8 U9 Xa Xb Xc Xd Xe Xf Xg Xh Xi Xj Xk Xl Xm Xn Xo Xp Xq Xr Xs Xt Xu Xv Xw Xx Xy Xz X0 X1 X2 X3 X4:Value)
  (KD:∀γ' w',In p i y 0 (upd f m (.own 1)) γ'->Aft i p γ γ'->LV Tryd.prog wgLink.tWg top Post i γ' w' (G (c.finish (.tuple #[])) cs)) :
  LV Tryd.prog wgLink.tWg top Post i γ w (G ((base 83).at ⟨#[.pointer (some (p.muA m)),Jb,.int .i64 wst,.bool sv,Je,Jf,.int .i32 ((γ.sk.mw m).code:Nat),Jh,Ji,Jj,Jk,Jl,Jm,Jn,Jo,Jp,Jq,Jr,Js,Jt,Ju,Jv,Jw,Jx,Jy,Jz,J0,J1,J2,J3,J4,J5,J6,J7,J8,J9,Qa,Qb,Qc,Qd,Qe,Qf,Qg,Qh,Qi,Qj,Qk,Ql,Qm,Qn,Qo,Qp,Qq,Qr,Qs,Qt,Qu,Qv,Qw,Qx,Qy,Qz,Q0,Q1,Q2,Q3,Q4,Q5,Q6,Q7,Q8,Q9,Ua,Ub,Uc,Ud,Ue,Uf,Ug,Uh,Ui,Uj,Uk,Ul,Um,Un,Uo,Up,Uq,Ur,Us,Ut,Uu,Uv,Uw,Ux,Uy,Uz,U0,U1,U2,U3,U4,U5,U6,U7,U8,U9,Xa,Xb,Xc,Xd,Xe,Xf,Xg,Xh,Xi,Xj,Xk,Xl,Xm,Xn,Xo,Xp,Xq,Xr,Xs,Xt,Xu,Xv,Xw,Xx,Xy,Xz,X0,X1,X2,X3,X4],[]⟩ [.code lkHand,.code (cTl lk30),.inBlock 1,.inLoop lkL,.inBlock 0,.code lkR]) (c::cs)):=by
 have hg:=h.ng
 obtain⟨q1,q2,q3,q4⟩:=M.handed (h.own_ hm)
 have hfw:=M.few
 generalize hx:γ.sk.mw m=x at *
 obtain⟨xL,xK,xS,xw,xq⟩:=x
 dsimp only at q1 q2 q3 q4 hfw
 subst q1 q2 q3
 have b3:=mb_and3 false false true xw xq (by omega)
 simp only[Bool.toNat_false,Nat.mul_zero,Nat.add_zero] at b3
 have d8:=mb_div false false true xw xq (by omega)
 obtain⟨z,hz⟩:∃z:Int,((xw:Nat):Int)=z:=⟨_,rfl⟩
 have z1:(z==0)=false:=by rw[<- hz];simp;omega
 have z2:¬z=0:=by omega
 rw[hz] at d8
 have key:∀(dl:Int) (keep:Bool),(keep=true->2<=xw)->(dl=if keep then -7 else -11)->∀(γ2:Gho) (w2:World),In p i y 1 (upd f m .hand) γ2->GInv wgLink.tWg top γ2 w2->SkRel i p γ w γ2 w2->∃x',MStep .hand (γ2.sk.mw m) (.own 0) x'/\(x'.code:Int)=IntKind.i32.wrap (((γ2.sk.mw m).code:Nat)+dl)/\x'.q=(γ2.sk.mw m).q/\True:=by
  intro dl keep hk hdl γ2 w2 h2' hI hR
  have M2:=h2'.mi hI hm
  obtain⟨r1,r2,r3,r4⟩:=M2.handed (h2'.own_ hm)
  have hf2:=M2.few
  have hle:=hR.hand m hm (h.own_ hm)
  rw[hx] at hle
  refine⟨{ γ2.sk.mw m with L:=true,w:=(γ2.sk.mw m).w - 1,S:=keep },MStep.take keep fun q=>?_,?_,rfl,trivial⟩
  ·have:=hk q
   have hle':xw<=(γ2.sk.mw m).w:=hle
   omega
  ·obtain⟨uL,uK,uS,uw,uq⟩:∃u,γ2.sk.mw m=u:=⟨_,rfl⟩
   generalize γ2.sk.mw m=u at *
   obtain⟨uL,uK,uS,uw,uq⟩:=u
   dsimp only at r1 r2 r3 r4 hf2 ⊢
   subst r1 r2 r3 hdl
   cases keep with
   | true=>exact(mb_take false uw uq (by omega) (by omega)).symm
   | false=>exact(mb_takeEnd false uw uq (by omega) (by omega)).symm
 have fin:Fit m (upd f m .hand) .hand (.own 0):=fit_of hm h2 (fun _=>by simp) fun _=>by simp
 generalize hco:MW.code ⟨false,false,true,xw,xq⟩=co at *
 simp only[lkR]
 simp only[lkHand,lk30,lk29,lk27,lk22,lk11,lkL,lkB,findLoop,cTl,cHd,cThen,cIn,Tryd.f83,Option.getD_some]
 try walk_nrm
 cases sv with
 | false =>
  refine lsq hg ?_;refine lsq hg ?_;refine lrg hg ?_;simp only[ix,Nat.reduceAdd];(iterate 8 (refine lop hg rfl rfl (by k_ne) fun v W H=>?_;go_simp;refine H _ _ rfl (by simp[go_sem]) ?_;clear H W v;try walk_nrm));refine len hg ?_;refine lcf hg rfl ?_;refine lsk hg ?_;refine lsq hg ?_;refine lrg hg ?_;simp only[ix,Nat.reduceAdd];refine lop hg rfl rfl (by k_ne) fun v W H=>?_;go_simp;refine H _ _ rfl (by simp[go_sem]) ?_;clear H W v;(try walk_nrm);refine len hg ?_;refine lsq hg ?_;refine lsq hg ?_;refine lrg hg ?_;simp only[ix,Nat.reduceAdd];(iterate 3 (refine lop hg rfl rfl (by k_ne) fun v W H=>?_;go_simp;refine H _ _ rfl (by simp[go_sem]) ?_;clear H W v;try walk_nrm));refine lun hg rfl rfl ?_;(try walk_nrm);refine lun hg rfl rfl ?_;(try walk_nrm);refine lun hg rfl rfl ?_;(try walk_nrm);refine lop hg rfl rfl (by k_ne) fun v W H=>?_;go_simp;refine H _ _ rfl (by simp[go_sem]) ?_;clear H W v;(try walk_nrm);refine len hg ?_;refine lct hg rfl ?_;refine lrg hg ?_;simp only[ix,Nat.reduceAdd];(iterate 3 (refine lop hg rfl rfl (by k_ne) fun v W H=>?_;go_simp;refine H _ _ rfl (by simp[go_sem]) ?_;clear H W v;try walk_nrm));refine len hg ?_;refine lsq hg ?_;refine lrg hg ?_;simp only[ix,Nat.reduceAdd];(iterate 4 (refine lop hg rfl rfl (by k_ne) fun v W H=>?_;go_simp;refine H _ _ rfl (by simp[go_sem]) ?_;clear H W v;try walk_nrm))
  refine lv_addop (dl:=-11) (bx:=fun _=>.own 0) (Q:=fun _ _=>True) hm h (upd_same _ _ _) (fun _=>fin) (key _ false (fun q=>by cases q) rfl) rfl rfl (by k_ne) rfl rfl rfl fun γ1 w1 x1 x1' h1 A1 _ _=>?_
  rw[upd_upd] at h1;clear hg;have hg:=h1.ng;(try walk_nrm);refine len hg ?_
  refine lives_ctl rfl hg (fun _=>stepG_exit rfl) ?_
  exact lk_done hm h1 h2 _ _ _ _ _ _ _ _ _ _ _ _ _ _ _ _ _ _ _ _ _ _ _ _ _ _ _ _ _ _ _ _ _ _ _ _ _ _ _ _ _ _ _ _ _ _ _ _ _ _ _ _ _ _ _ _ _ _ _ _ _ _ _ _ _ _ _ _ _ _ _ _ _ _ _ _ _ _ _ _ _ _ _ _ _ _ _ _ _ _ _ _ _ _ _ _ _ _ _ _ _ _ _ _ _ _ _ _ _ _ _ _ _ _ _ _ _ _ _ _ _ _ _ _ _ _ _ _ _ _ _ _ _ _ _ _ _ _ fun γ9 w9 h9 A9=>KD γ9 w9 h9 (A1.trans A9)
 | true =>
  by_cases h1:z=1
  ·have e1:(z==1)=true:=by rw[h1];rfl
   clear z1 z2
   have z1:(z==0)=false:=by rw[h1];rfl
   clear h1;refine lsq hg ?_;refine lsq hg ?_;refine lrg hg ?_;simp only[ix,Nat.reduceAdd];(iterate 8 (refine lop hg rfl rfl (by k_ne) fun v W H=>?_;go_simp;refine H _ _ rfl (by simp[go_sem]) ?_;clear H W v;try walk_nrm));refine len hg ?_;refine lcf hg rfl ?_;refine lsk hg ?_;refine lsq hg ?_;refine lrg hg ?_;simp only[ix,Nat.reduceAdd];refine lop hg rfl rfl (by k_ne) fun v W H=>?_;go_simp;refine H _ _ rfl (by simp[go_sem]) ?_;clear H W v;(try walk_nrm);refine len hg ?_;refine lsq hg ?_;refine lsq hg ?_;refine lrg hg ?_;simp only[ix,Nat.reduceAdd];(iterate 7 (refine lop hg rfl rfl (by k_ne) fun v W H=>?_;go_simp;refine H _ _ rfl (by simp[go_sem]) ?_;clear H W v;try walk_nrm));refine len hg ?_;refine lct hg rfl ?_;refine lrg hg ?_;simp only[ix,Nat.reduceAdd];(iterate 3 (refine lop hg rfl rfl (by k_ne) fun v W H=>?_;go_simp;refine H _ _ rfl (by simp[go_sem]) ?_;clear H W v;try walk_nrm));refine len hg ?_;refine lsq hg ?_;refine lrg hg ?_;simp only[ix,Nat.reduceAdd];(iterate 4 (refine lop hg rfl rfl (by k_ne) fun v W H=>?_;go_simp;refine H _ _ rfl (by simp[go_sem]) ?_;clear H W v;try walk_nrm))
   refine lv_addop (dl:=-11) (bx:=fun _=>.own 0) (Q:=fun _ _=>True) hm h (upd_same _ _ _) (fun _=>fin) (key _ false (fun q=>by cases q) rfl) rfl rfl (by k_ne) rfl rfl rfl fun γ1 w1 x1 x1' h1 A1 _ _=>?_
   rw[upd_upd] at h1;clear hg;have hg:=h1.ng;(try walk_nrm);refine len hg ?_
   refine lives_ctl rfl hg (fun _=>stepG_exit rfl) ?_
   exact lk_done hm h1 h2 _ _ _ _ _ _ _ _ _ _ _ _ _ _ _ _ _ _ _ _ _ _ _ _ _ _ _ _ _ _ _ _ _ _ _ _ _ _ _ _ _ _ _ _ _ _ _ _ _ _ _ _ _ _ _ _ _ _ _ _ _ _ _ _ _ _ _ _ _ _ _ _ _ _ _ _ _ _ _ _ _ _ _ _ _ _ _ _ _ _ _ _ _ _ _ _ _ _ _ _ _ _ _ _ _ _ _ _ _ _ _ _ _ _ _ _ _ _ _ _ _ _ _ _ _ _ _ _ _ _ _ _ _ _ _ _ _ _ fun γ9 w9 h9 A9=>KD γ9 w9 h9 (A1.trans A9)
  ·have e1:(z==1)=false:=by simpa using h1
   have h1':2<=xw:=by omega
   clear h1;refine lsq hg ?_;refine lsq hg ?_;refine lrg hg ?_;simp only[ix,Nat.reduceAdd];(iterate 8 (refine lop hg rfl rfl (by k_ne) fun v W H=>?_;go_simp;refine H _ _ rfl (by simp[go_sem]) ?_;clear H W v;try walk_nrm));refine len hg ?_;refine lcf hg rfl ?_;refine lsk hg ?_;refine lsq hg ?_;refine lrg hg ?_;simp only[ix,Nat.reduceAdd];refine lop hg rfl rfl (by k_ne) fun v W H=>?_;go_simp;refine H _ _ rfl (by simp[go_sem]) ?_;clear H W v;(try walk_nrm);refine len hg ?_;refine lsq hg ?_;refine lsq hg ?_;refine lrg hg ?_;simp only[ix,Nat.reduceAdd];(iterate 7 (refine lop hg rfl rfl (by k_ne) fun v W H=>?_;go_simp;refine H _ _ rfl (by simp[go_sem]) ?_;clear H W v;try walk_nrm));refine len hg ?_;refine lcf hg rfl ?_;refine lsk hg ?_;refine lsq hg ?_;refine lrg hg ?_;simp only[ix,Nat.reduceAdd];(iterate 4 (refine lop hg rfl rfl (by k_ne) fun v W H=>?_;go_simp;refine H _ _ rfl (by simp[go_sem]) ?_;clear H W v;try walk_nrm))
   refine lv_addop (dl:=-7) (bx:=fun _=>.own 0) (Q:=fun _ _=>True) hm h (upd_same _ _ _) (fun _=>fin) (key _ true (fun _=>h1') rfl) rfl rfl (by k_ne) rfl rfl rfl fun γ1 w1 x1 x1' h1 A1 _ _=>?_
   rw[upd_upd] at h1;clear hg;have hg:=h1.ng;(try walk_nrm);refine len hg ?_
   refine lives_ctl rfl hg (fun _=>stepG_exit rfl) ?_
   exact lk_done hm h1 h2 _ _ _ _ _ _ _ _ _ _ _ _ _ _ _ _ _ _ _ _ _ _ _ _ _ _ _ _ _ _ _ _ _ _ _ _ _ _ _ _ _ _ _ _ _ _ _ _ _ _ _ _ _ _ _ _ _ _ _ _ _ _ _ _ _ _ _ _ _ _ _ _ _ _ _ _ _ _ _ _ _ _ _ _ _ _ _ _ _ _ _ _ _ _ _ _ _ _ _ _ _ _ _ _ _ _ _ _ _ _ _ _ _ _ _ _ _ _ _ _ _ _ _ _ _ _ _ _ _ _ _ _ _ _ _ _ _ _ fun γ9 w9 h9 A9=>KD γ9 w9 h9 (A1.trans A9)
end
end Go.Proofs.YtbicafgmfgdckaaDoor
