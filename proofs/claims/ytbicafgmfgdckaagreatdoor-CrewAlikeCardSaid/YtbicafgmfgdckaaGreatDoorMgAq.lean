/- A piece. -/
import Derived.Test.YtbicafgmfgdckaaGreatDoorMgAp
import Derived.Walk
set_option maxRecDepth 100000
set_option maxHeartbeats 16000000
set_option linter.all false
namespace Go.Proofs.YtbicafgmfgdckaaGreatDoor
open Go.Proofs.Tryz
open Go Go.RowKit Go.Conc Go.Conc.Lib Go.ConcR.Gen
open Go.ConcR (KK wgBlock WgAt stA smA rd wr mk DC0)
open Go.ConcN (sumTo upd upd_same upd_ne RelBy PermW WgLive)
def Bq:Code->Option Code
 | .loop c=>some c
 | .seq x y=>match Bq x with|some c=>some c|none=>Bq y
 | .block _ c=>Bq c
 | _=>none
def Kd:Code->Option Code
 | .seq (.block _ _) r=>some r
 | .seq _ y=>Kd y
 | _=>none
def L4:Code->Code
 | .seq _ y=>y
 | c=>c
def cHd:Code->Code
 | .seq x _=>x
 | c=>c
def cIn:Code->Code
 | .block _ c=>c
 | c=>c
def Hf:Code->Code
 | .cond _ c _=>c
 | c=>c
noncomputable def Wm:Code:=Tryz.f105.body.getD .skip
noncomputable def C8:Code:=(Bq Wm).getD .skip
noncomputable def F3:Code:=(Kd Wm).getD .skip
noncomputable def Eo:Code:=L4 (cIn C8)
noncomputable def lk6:Code:=Hf (L4 (cHd (cIn C8)))
noncomputable def lk8:Code:=L4 lk6
noncomputable def Ov:Code:=L4 (L4 (L4 (L4 (L4 Eo))))
noncomputable def Af1:Code:=L4 (L4 (L4 (Hf (L4 Ov))))
section
variable {ty:TypeId} {top:Nat} {I I' I2:Ab} {p:Ph} {w w' w2:World} {i j n m y d:Nat} {f:Nat->ML} {Post:Value->World->Prop} {b:Frame} {a:Act} {kk:List Item} {cs:List Frame} {ops:Array Oper} {l:Nat} {rest:List Nat} {o:Oper} {xs:Array Operand} {ats:Array TypeId}
theorem Ari {it:Nat} (h:In p i y d f I) (ho:ops[l]?=some o) (hw:Region.wanted o (yielded ops a.tmps)=true) (hk:b.kind≠.early) (hop:o.op=.call { callee:=.value (.func 113),args:=xs,argTypes:=ats }) (hx:xs.map a.eval=#[.int .i64 (it:Nat)])
  (K:∀I' w' (v:Bool),(v=true->it < 4)->In p i y d f I'->Dp i p I I'->Ec i p I w I' w'->LV prog ty top Post i I' w' (G (b.at (a.put o.dst (.bool v)) (.inRegion ops rest::kk)) cs)):LV prog ty top Post i I w (G (b.at a (.inRegion ops (l::rest)::kk)) cs):=by
 refine Ahp (Q:=fun g'=>∃v:Bool,(v=true->it < 4)/\g'=G (b.at (a.put o.dst (.bool v)) (.inRegion ops rest::kk)) cs) h rfl (fun w=>?_) fun I1 w1 g1 ⟨v,hv,e⟩ h1 A1 R1=>by subst e;exact K I1 w1 v hv h1 A1 R1
 by_cases h4:((it:Nat):Int) < 4
 ·exact⟨_,_,stepG_canSpin_ask ho hw hk hop func113 Zr Zt Zq Zs hx h4,rfl,rfl,.of rfl rfl,w.spins,fun _=>by omega,rfl⟩
 ·exact⟨_,_,stepG_canSpin_no ho hw hk hop func113 Zr Zt Zq Zs hx (by omega),rfl,rfl,.refl _,false,fun q=>(by cases q),rfl⟩
theorem Rm {dl:Int} {bx:MW->ML} {Q:MW->MW->Prop} {xa ya:Operand} {aa:ML} (hm:m < 2) (h:In p i y d f I) (ha:f m=aa) (hf:∀x,Fit m f aa (bx x)) (hs:∀(I2:Ab) (w2:World),In p i y d f I2->Ae ty top I2 w2->Ec i p I w I2 w2->∃x',B1 aa (I2.sk.mw m) (bx (I2.sk.mw m)) x'/\(x'.code:Int)=IntKind.i32.wrap (((I2.sk.mw m).code:Nat)+dl)/\x'.q=(I2.sk.mw m).q/\Q (I2.sk.mw m) x')
  (ho:ops[l]?=some o) (hw:Region.wanted o (yielded ops a.tmps)=true) (hk:b.kind≠.early) (hop:o.op=.call { callee:=.value (.func 106),args:=#[xa,ya],argTypes:=ats }) (hx:a.eval xa=.pointer (some (p.muA m))) (hy:a.eval ya=.int .i32 dl)
  (K:∀I' w' (x x':MW),In p i y d (upd f m (bx x)) I'->Dp i p I I'->Q x x'->x.w<=32->LV prog ty top Post i I' w' (G (b.at (a.put o.dst (.int .i32 (x'.code:Nat))) (.inRegion ops rest::kk)) cs)):LV prog ty top Post i I w (G (b.at a (.inRegion ops (l::rest)::kk)) cs) :=
 Atz (Q:=Q) (gv:=fun v=>G (b.at (a.put o.dst (.int .i32 v)) (.inRegion ops rest::kk)) cs) hm h rfl ha hf hs (fun w c hc hz=>stepG_add_atomic ho hw hk hop func106 An3 An5 An2 .i32 An4 hx hy hc hz) K
theorem Rk {co cn n:Nat} {aa bb:ML} {xa ya za:Operand} (hm:m < 2) (h:In p i y d f I) (ha:f m=aa) (hf:Fit m f aa bb) (hne:co≠cn) (hs:∀x:MW,x.code=co->∃x',B1 aa x bb x'/\x'.code=cn/\x'.q=x.q) (hn:I.sk.V p m<=n/\((I.sk.mw m).code=co\/I.sk.V p m < n))
  (ho:ops[l]?=some o) (hw:Region.wanted o (yielded ops a.tmps)=true) (hk:b.kind≠.early) (hop:o.op=.call { callee:=.value (.func 104),args:=#[xa,ya,za],argTypes:=ats }) (hx:a.eval xa=.pointer (some (p.muA m))) (hy:a.eval ya=.int .i32 (co:Nat)) (hz:a.eval za=.int .i32 (cn:Nat))
  (KT:∀I' w',In p i y d (upd f m bb) I'->Dp i p I I'->I'.sk.V p m < n->LV prog ty top Post i I' w' (G (b.at (a.put o.dst (.bool true)) (.inRegion ops rest::kk)) cs))
  (KF:∀I' w',In p i y d f I'->Dp i p I I'->I'.sk.V p m < n->LV prog ty top Post i I' w' (G (b.at (a.put o.dst (.bool false)) (.inRegion ops rest::kk)) cs)):LV prog ty top Post i I w (G (b.at a (.inRegion ops (l::rest)::kk)) cs) :=
 Aob hm h rfl ha hf hne hs (fun w hc hz'=>stepG_cas_hit ho hw hk hop func104 P9 Rb P8 .i32 Ra hx hy hz hc hz') (fun w c hne hc hz'=>stepG_cas_miss ho hw hk hop func104 P9 Rb P8 .i32 Ra hx hy hz hc hz' (by omega)) hn KT KF
theorem Ahq (h:In p i y d f I) (ho:ops[l]?=some o) (hw:Region.wanted o (yielded ops a.tmps)=true) (hk:b.kind≠.early) (hop:o.op=.call { callee:=.value (.func 116),args:=xs,argTypes:=ats })
  (K:∀I' w' (v:Int),In p i y d f I'->Dp i p I I'->Ec i p I w I' w'->LV prog ty top Post i I' w' (G (b.at (a.put o.dst (.int .i64 v)) (.inRegion ops rest::kk)) cs)):LV prog ty top Post i I w (G (b.at a (.inRegion ops (l::rest)::kk)) cs) :=
 Ahp (Q:=fun g'=>∃v:Int,g'=G (b.at (a.put o.dst (.int .i64 v)) (.inRegion ops rest::kk)) cs) h rfl (fun w=>⟨_,_,stepG_nanotime ho hw hk hop func116 Aj8 Aka Aj6 Aj9 Aj7,rfl,rfl,⟨⟨w.tick,rfl⟩,rfl⟩,_,rfl⟩) fun I1 w1 g1 ⟨v,e⟩ h1 A1 R1=>by subst e;exact K I1 w1 v h1 A1 R1
end
section
variable {top:Nat} {I I' I2:Ab} {p:Ph} {w w' w2:World} {i j k n m y:Nat} {f:Nat->ML} {Post:Value->World->Prop} {es:Array Event} {g g':Goroutine} {c:Frame} {cs:List Frame}
def Lk (top:Nat) (Post:Value->World->Prop) (i:Nat) (I:Ab) (w:World) (p:Ph) (m:Nat) (c:Frame) (cs:List Frame) (Jc Jd Je Jf Jg Jh Ji:Value) (k:List Item):Prop :=
 ∀Jb Jj Jk Jl Jm Jn Jo Jp Jq Jr Js Jt Ju Jv Jw Jx Jy Jz J0 J1 J2 J3 J4 J5 J6 J7 J8 J9 Qa Qb Qc Qd Qe Qf Qg Qh Qi Qj Qk Ql Qm Qn Qo Qp Qq Qr Qs Qt Qu Qv Qw Qx Qy Qz Q0 Q1 Q2 Q3 Q4 Q5 Q6 Q7 Q8 Q9 Ua Ub Uc Ud Ue Uf Ug Uh Ui Uj Uk Ul Um Un Uo Up Uq Ur Us Ut Uu Uv Uw Ux Uy Uz U0 U1 U2 U3 U4 U5 U6 U7 U8 U9 Xa Xb Xc Xd Xe Xf Xg Xh Xi Xj Xk Xl Xm Xn Xo Xp Xq Xr Xs Xt Xu Xv Xw Xx Xy Xz X0 X1 X2 X3 X4:Value,LT top Post i I w (G ((base 105).at ⟨#[.pointer (some (p.muA m)),Jb,Jc,Jd,Je,Jf,Jg,Jh,Ji,Jj,Jk,Jl,Jm,Jn,Jo,Jp,Jq,Jr,Js,Jt,Ju,Jv,Jw,Jx,Jy,Jz,J0,J1,J2,J3,J4,J5,J6,J7,J8,J9,Qa,Qb,Qc,Qd,Qe,Qf,Qg,Qh,Qi,Qj,Qk,Ql,Qm,Qn,Qo,Qp,Qq,Qr,Qs,Qt,Qu,Qv,Qw,Qx,Qy,Qz,Q0,Q1,Q2,Q3,Q4,Q5,Q6,Q7,Q8,Q9,Ua,Ub,Uc,Ud,Ue,Uf,Ug,Uh,Ui,Uj,Uk,Ul,Um,Un,Uo,Up,Uq,Ur,Us,Ut,Uu,Uv,Uw,Ux,Uy,Uz,U0,U1,U2,U3,U4,U5,U6,U7,U8,U9,Xa,Xb,Xc,Xd,Xe,Xf,Xg,Xh,Xi,Xj,Xk,Xl,Xm,Xn,Xo,Xp,Xq,Xr,Xs,Xt,Xu,Xv,Xw,Xx,Xy,Xz,X0,X1,X2,X3,X4],[]⟩ k) (c::cs))
theorem Lk.go {top:Nat} {Post:Value->World->Prop} {i:Nat} {I:Ab} {w:World} {p:Ph} {m:Nat} {c:Frame} {cs:List Frame} {Jb Jc Jd Je Jf Jg Jh Ji Jj Jk Jl Jm Jn Jo Jp Jq Jr Js Jt Ju Jv Jw Jx Jy Jz J0 J1 J2 J3 J4 J5 J6 J7 J8 J9 Qa Qb Qc Qd Qe Qf Qg Qh Qi Qj Qk Ql Qm Qn Qo Qp Qq Qr Qs Qt Qu Qv Qw Qx Qy Qz Q0 Q1 Q2 Q3 Q4 Q5 Q6 Q7 Q8 Q9 Ua Ub Uc Ud Ue Uf Ug Uh Ui Uj Uk Ul Um Un Uo Up Uq Ur Us Ut Uu Uv Uw Ux Uy Uz U0 U1 U2 U3 U4 U5 U6 U7 U8 U9 Xa Xb Xc Xd Xe Xf Xg Xh Xi Xj Xk Xl Xm Xn Xo Xp Xq Xr Xs Xt Xu Xv Xw Xx Xy Xz X0 X1 X2 X3 X4:Value} {k:List Item} (h:Lk top Post i I w p m c cs Jc Jd Je Jf Jg Jh Ji k):LT top Post i I w (G ((base 105).at ⟨#[.pointer (some (p.muA m)),Jb,Jc,Jd,Je,Jf,Jg,Jh,Ji,Jj,Jk,Jl,Jm,Jn,Jo,Jp,Jq,Jr,Js,Jt,Ju,Jv,Jw,Jx,Jy,Jz,J0,J1,J2,J3,J4,J5,J6,J7,J8,J9,Qa,Qb,Qc,Qd,Qe,Qf,Qg,Qh,Qi,Qj,Qk,Ql,Qm,Qn,Qo,Qp,Qq,Qr,Qs,Qt,Qu,Qv,Qw,Qx,Qy,Qz,Q0,Q1,Q2,Q3,Q4,Q5,Q6,Q7,Q8,Q9,Ua,Ub,Uc,Ud,Ue,Uf,Ug,Uh,Ui,Uj,Uk,Ul,Um,Un,Uo,Up,Uq,Ur,Us,Ut,Uu,Uv,Uw,Ux,Uy,Uz,U0,U1,U2,U3,U4,U5,U6,U7,U8,U9,Xa,Xb,Xc,Xd,Xe,Xf,Xg,Xh,Xi,Xj,Xk,Xl,Xm,Xn,Xo,Xp,Xq,Xr,Xs,Xt,Xu,Xv,Xw,Xx,Xy,Xz,X0,X1,X2,X3,X4],[]⟩ k) (c::cs)):=h _ _ _ _ _ _ _ _ _ _ _ _ _ _ _ _ _ _ _ _ _ _ _ _ _ _ _ _ _ _ _ _ _ _ _ _ _ _ _ _ _ _ _ _ _ _ _ _ _ _ _ _ _ _ _ _ _ _ _ _ _ _ _ _ _ _ _ _ _ _ _ _ _ _ _ _ _ _ _ _ _ _ _ _ _ _ _ _ _ _ _ _ _ _ _ _ _ _ _ _ _ _ _ _ _ _ _ _ _ _ _ _ _ _ _ _ _ _ _ _ _ _ _ _ _ _ _ _ _ _ _
theorem Vo (hm:m < 2) (h:In p i y 1 (upd f m (.own 0)) I) (h2:∀k,k < 2->k≠m->f k=.off\/f k=.fresh) (Jc Jd Je Jf Jg Jh Ji:Value)
  (hK:∀I' w',In p i y 0 (upd f m (.own 1)) I'->Dp i p I I'->LT top Post i I' w' (G (c.finish (.tuple #[])) cs)) :
  Lk top Post i I w p m c cs Jc Jd Je Jf Jg Jh Ji [.code F3]:=by
 unfold Lk;intros;have hg:=h.ng;simp only[Af1,Ov,Eo,F3,C8,Wm,Bq,Kd,L4,cIn,Hf,Tryz.f105,Option.getD_some]
 (try walk_nrm);refine Hd (Am (Au ?_));simp only[ix,Nat.reduceAdd]
 refine Np h rfl (.inr ⟨rfl,rfl⟩) (fun w=>stepG_mark0 .enable (by simp) rfl rfl (by k_ne) rfl func55 P5 P7 P4 P6) fun I1 w1 h1 A1=>?_;clear hg;have hg:=h1.ng;(try walk_nrm);refine len (Au ?_);simp only[ix,Nat.reduceAdd];refine Ai fun v W H=>?_;go_simp;refine H _ ?_;clear H W v;try walk_nrm
 refine Aa7 hm h1 rfl (fun w v hc=>Ol rfl rfl (by k_ne) rfl (by kernel_rfl) (by kernel_rfl) (by simp[Act.eval]) hc) ?_
 try walk_nrm
 refine Aoc hm h1 rfl h2 (fun w=>stepG_markAt .acquire (by simp) rfl rfl (by k_ne) rfl func68 Adv Adx Adu Adw (by simp[Act.eval])) fun I2 w2 h2' A2=>?_;clear hg;have hg:=h2'.ng;(try walk_nrm);refine len ?_;refine Bz (fun _=>stepG_end) ?_;exact Ak rfl hg (fun w2=>stepG_leave (v:=.tuple #[]) rfl rfl func105 (by kernel_rfl) (by kernel_rfl)) (hK _ _ h2' (A1.trans A2))
theorem Ars (hg:I.tag i≠.gone) (co cn:Nat) (h4:bits .and .i32 (co:Nat) 4=0) (h5:bits .and .i32 (co:Nat) 5=0) (o1:bits .or .i32 (co:Nat) 1=(cn:Nat)) (wst it:Int) (Jh Ji:Value)
  (K:∀Ji:Value,Lk top Post i I w p m c cs (.int .i64 wst) (.bool false) (.bool false) (.int .i64 it) (.int .i32 (co:Nat)) (.int .i32 (cn:Nat)) Ji [.code Ov,.inBlock 1,.inLoop C8,.inBlock 0,.code F3]) :
  Lk top Post i I w p m c cs (.int .i64 wst) (.bool false) (.bool false) (.int .i64 it) (.int .i32 (co:Nat)) Jh Ji [.code Eo,.inBlock 1,.inLoop C8,.inBlock 0,.code F3]:=by
 unfold Lk;intros;simp only[Eo,C8,Wm,Bq,L4,cIn,Tryz.f105,Option.getD_some]
 (try walk_nrm);refine Am (Au ?_);simp only[ix,Nat.reduceAdd];(iterate 2 (refine Ai fun v W H=>?_;go_simp;refine H _ ?_;clear H W v;try walk_nrm));refine len (Am ?_);refine Am (Au ?_);simp only[ix,Nat.reduceAdd];(iterate 3 (refine Ai fun v W H=>?_;go_simp;refine H _ ?_;clear H W v;try walk_nrm));refine len (Hd (Au ?_));simp only[ix,Nat.reduceAdd];(iterate 3 (refine Ai fun v W H=>?_;go_simp;refine H _ ?_;clear H W v;try walk_nrm));refine len (Am ?_);refine Am (Au ?_);simp only[ix,Nat.reduceAdd];(iterate 3 (refine Ai fun v W H=>?_;go_simp;refine H _ ?_;clear H W v;try walk_nrm));refine len (Gl ?_);refine Gz (Am ?_);refine Am (Au ?_);simp only[ix,Nat.reduceAdd];(iterate 2 (refine Ai fun v W H=>?_;go_simp;refine H _ ?_;clear H W v;try walk_nrm));refine Fg ?_;(try walk_nrm);refine Fg ?_;(try walk_nrm);refine Fg ?_;(try walk_nrm);refine Ai fun v W H=>?_;go_simp;refine H _ ?_;clear H W v;(try walk_nrm);refine len (Gl ?_);refine Gz (Am ?_);refine Am (Au ?_);simp only[ix,Nat.reduceAdd];refine Ai fun v W H=>?_;go_simp;refine H _ ?_;clear H W v;(try walk_nrm);refine len (Gl (Gz ?_))
 exact Lk.go (K _)
theorem Aoh (hg:I.tag i≠.gone) (co cn:Nat) {n1:Int} (h4:bits .and .i32 (co:Nat) 4=0) (h5:bits .and .i32 (co:Nat) 5=0) (o1:bits .or .i32 (co:Nat) 1=n1) (h1:bits .and .i32 (co:Nat) 1=0) (h2:bits .and .i32 n1 2=2) (h3:bits .andNot .i32 n1 2=(cn:Nat)) (wst it:Int) (Jh Ji:Value)
  (K:∀Ji:Value,Lk top Post i I w p m c cs (.int .i64 wst) (.bool false) (.bool true) (.int .i64 it) (.int .i32 (co:Nat)) (.int .i32 (cn:Nat)) Ji [.code Ov,.inBlock 1,.inLoop C8,.inBlock 0,.code F3]) :
  Lk top Post i I w p m c cs (.int .i64 wst) (.bool false) (.bool true) (.int .i64 it) (.int .i32 (co:Nat)) Jh Ji [.code Eo,.inBlock 1,.inLoop C8,.inBlock 0,.code F3]:=by
 unfold Lk;intros;simp only[Eo,C8,Wm,Bq,L4,cIn,Tryz.f105,Option.getD_some]
 (try walk_nrm);refine Am (Au ?_);simp only[ix,Nat.reduceAdd];(iterate 2 (refine Ai fun v W H=>?_;go_simp;refine H _ ?_;clear H W v;try walk_nrm));refine len (Am ?_);refine Am (Au ?_);simp only[ix,Nat.reduceAdd];(iterate 3 (refine Ai fun v W H=>?_;go_simp;refine H _ ?_;clear H W v;try walk_nrm));refine len (Hd (Au ?_));simp only[ix,Nat.reduceAdd];(iterate 3 (refine Ai fun v W H=>?_;go_simp;refine H _ ?_;clear H W v;try walk_nrm));refine len (Am ?_);refine Am (Au ?_);simp only[ix,Nat.reduceAdd];(iterate 3 (refine Ai fun v W H=>?_;go_simp;refine H _ ?_;clear H W v;try walk_nrm));refine len (Gl ?_);refine Gz (Am ?_);refine Am (Au ?_);simp only[ix,Nat.reduceAdd];(iterate 2 (refine Ai fun v W H=>?_;go_simp;refine H _ ?_;clear H W v;try walk_nrm));refine Fg ?_;(try walk_nrm);refine Fg ?_;(try walk_nrm);refine Fg ?_;(try walk_nrm);refine Ai fun v W H=>?_;go_simp;refine H _ ?_;clear H W v;(try walk_nrm);refine len (Gl ?_);refine Gz (Am ?_);refine Am (Au ?_);simp only[ix,Nat.reduceAdd];refine Ai fun v W H=>?_;go_simp;refine H _ ?_;clear H W v;(try walk_nrm);refine len (Hd ?_);refine Am (Am (Au ?_));simp only[ix,Nat.reduceAdd];(iterate 3 (refine Ai fun v W H=>?_;go_simp;refine H _ ?_;clear H W v;try walk_nrm));refine len (Gl ?_);refine Gz (Au ?_);simp only[ix,Nat.reduceAdd];(iterate 3 (refine Ai fun v W H=>?_;go_simp;refine H _ ?_;clear H W v;try walk_nrm));refine len ?_
 exact Lk.go (K _)
theorem Aog (hg:I.tag i≠.gone) (co cn:Nat) {n1:Int} (h4:bits .and .i32 (co:Nat) 4=0) (h5:bits .and .i32 (co:Nat) 5=0) (o1:bits .or .i32 (co:Nat) 1=n1) (h1:bits .and .i32 (co:Nat) 1=0) (h2:bits .and .i32 n1 2=2) (h3:bits .andNot .i32 n1 2=(cn:Nat)) (wst it:Int) (Jh Ji:Value)
  (K:∀Ji:Value,Lk top Post i I w p m c cs (.int .i64 wst) (.bool true) (.bool true) (.int .i64 it) (.int .i32 (co:Nat)) (.int .i32 (cn:Nat)) Ji [.code Ov,.inBlock 1,.inLoop C8,.inBlock 0,.code F3]) :
  Lk top Post i I w p m c cs (.int .i64 wst) (.bool true) (.bool true) (.int .i64 it) (.int .i32 (co:Nat)) Jh Ji [.code Eo,.inBlock 1,.inLoop C8,.inBlock 0,.code F3]:=by
 unfold Lk;intros;simp only[Eo,C8,Wm,Bq,L4,cIn,Tryz.f105,Option.getD_some]
 (try walk_nrm);refine Am (Au ?_);simp only[ix,Nat.reduceAdd];(iterate 2 (refine Ai fun v W H=>?_;go_simp;refine H _ ?_;clear H W v;try walk_nrm));refine len (Am ?_);refine Am (Au ?_);simp only[ix,Nat.reduceAdd];(iterate 3 (refine Ai fun v W H=>?_;go_simp;refine H _ ?_;clear H W v;try walk_nrm));refine len (Hd (Au ?_));simp only[ix,Nat.reduceAdd];(iterate 3 (refine Ai fun v W H=>?_;go_simp;refine H _ ?_;clear H W v;try walk_nrm));refine len (Am ?_);refine Am (Au ?_);simp only[ix,Nat.reduceAdd];(iterate 3 (refine Ai fun v W H=>?_;go_simp;refine H _ ?_;clear H W v;try walk_nrm));refine len (Gl ?_);refine Gz (Am ?_);refine Am (Au ?_);simp only[ix,Nat.reduceAdd];(iterate 6 (refine Ai fun v W H=>?_;go_simp;refine H _ ?_;clear H W v;try walk_nrm));refine len (Gl ?_);refine Gz (Am ?_);refine Am (Au ?_);simp only[ix,Nat.reduceAdd];refine Ai fun v W H=>?_;go_simp;refine H _ ?_;clear H W v;(try walk_nrm);refine len (Hd ?_);refine Am (Am (Au ?_));simp only[ix,Nat.reduceAdd];(iterate 3 (refine Ai fun v W H=>?_;go_simp;refine H _ ?_;clear H W v;try walk_nrm));refine len (Gl ?_);refine Gz (Au ?_);simp only[ix,Nat.reduceAdd];(iterate 3 (refine Ai fun v W H=>?_;go_simp;refine H _ ?_;clear H W v;try walk_nrm));refine len ?_
 exact Lk.go (K _)
theorem Arr (hg:I.tag i≠.gone) (co cn:Nat) {n1:Int} (h4:bits .and .i32 (co:Nat) 4=0) (h5:bits .and .i32 (co:Nat) 5=1) (o1:bits .or .i32 (co:Nat) 1=n1) (a8:IntKind.i32.wrap (n1+8)=(cn:Nat)) (wst it:Int) (Jh Ji:Value)
  (K:∀Ji:Value,Lk top Post i I w p m c cs (.int .i64 wst) (.bool false) (.bool false) (.int .i64 it) (.int .i32 (co:Nat)) (.int .i32 (cn:Nat)) Ji [.code Ov,.inBlock 1,.inLoop C8,.inBlock 0,.code F3]) :
  Lk top Post i I w p m c cs (.int .i64 wst) (.bool false) (.bool false) (.int .i64 it) (.int .i32 (co:Nat)) Jh Ji [.code Eo,.inBlock 1,.inLoop C8,.inBlock 0,.code F3]:=by
 unfold Lk;intros;simp only[Eo,C8,Wm,Bq,L4,cIn,Tryz.f105,Option.getD_some]
 (try walk_nrm);refine Am (Au ?_);simp only[ix,Nat.reduceAdd];(iterate 2 (refine Ai fun v W H=>?_;go_simp;refine H _ ?_;clear H W v;try walk_nrm));refine len (Am ?_);refine Am (Au ?_);simp only[ix,Nat.reduceAdd];(iterate 3 (refine Ai fun v W H=>?_;go_simp;refine H _ ?_;clear H W v;try walk_nrm));refine len (Hd (Au ?_));simp only[ix,Nat.reduceAdd];(iterate 3 (refine Ai fun v W H=>?_;go_simp;refine H _ ?_;clear H W v;try walk_nrm));refine len (Am ?_);refine Am (Au ?_);simp only[ix,Nat.reduceAdd];(iterate 3 (refine Ai fun v W H=>?_;go_simp;refine H _ ?_;clear H W v;try walk_nrm));refine len (Hd (Au ?_));simp only[ix,Nat.reduceAdd];(iterate 3 (refine Ai fun v W H=>?_;go_simp;refine H _ ?_;clear H W v;try walk_nrm));refine len (Am ?_);refine Am (Au ?_);simp only[ix,Nat.reduceAdd];(iterate 2 (refine Ai fun v W H=>?_;go_simp;refine H _ ?_;clear H W v;try walk_nrm));refine Fg ?_;(try walk_nrm);refine Fg ?_;(try walk_nrm);refine Fg ?_;(try walk_nrm);refine Ai fun v W H=>?_;go_simp;refine H _ ?_;clear H W v;(try walk_nrm);refine len (Gl ?_);refine Gz (Am ?_);refine Am (Au ?_);simp only[ix,Nat.reduceAdd];refine Ai fun v W H=>?_;go_simp;refine H _ ?_;clear H W v;(try walk_nrm);refine len (Gl (Gz ?_))
 exact Lk.go (K _)
theorem Arq (hg:I.tag i≠.gone) (co cn:Nat) {n1 n2:Int} (h4:bits .and .i32 (co:Nat) 4=0) (h5:bits .and .i32 (co:Nat) 5=1) (o1:bits .or .i32 (co:Nat) 1=n1) (a8:IntKind.i32.wrap (n1+8)=n2) (h2:bits .and .i32 n2 2=2) (h3:bits .andNot .i32 n2 2=(cn:Nat)) (wst it:Int) (Jh Ji:Value)
  (K:∀Ji:Value,Lk top Post i I w p m c cs (.int .i64 wst) (.bool false) (.bool true) (.int .i64 it) (.int .i32 (co:Nat)) (.int .i32 (cn:Nat)) Ji [.code Ov,.inBlock 1,.inLoop C8,.inBlock 0,.code F3]) :
  Lk top Post i I w p m c cs (.int .i64 wst) (.bool false) (.bool true) (.int .i64 it) (.int .i32 (co:Nat)) Jh Ji [.code Eo,.inBlock 1,.inLoop C8,.inBlock 0,.code F3]:=by
 unfold Lk;intros;simp only[Eo,C8,Wm,Bq,L4,cIn,Tryz.f105,Option.getD_some]
 (try walk_nrm);refine Am (Au ?_);simp only[ix,Nat.reduceAdd];(iterate 2 (refine Ai fun v W H=>?_;go_simp;refine H _ ?_;clear H W v;try walk_nrm));refine len (Am ?_);refine Am (Au ?_);simp only[ix,Nat.reduceAdd];(iterate 3 (refine Ai fun v W H=>?_;go_simp;refine H _ ?_;clear H W v;try walk_nrm));refine len (Hd (Au ?_));simp only[ix,Nat.reduceAdd];(iterate 3 (refine Ai fun v W H=>?_;go_simp;refine H _ ?_;clear H W v;try walk_nrm));refine len (Am ?_);refine Am (Au ?_);simp only[ix,Nat.reduceAdd];(iterate 3 (refine Ai fun v W H=>?_;go_simp;refine H _ ?_;clear H W v;try walk_nrm));refine len (Hd (Au ?_));simp only[ix,Nat.reduceAdd];(iterate 3 (refine Ai fun v W H=>?_;go_simp;refine H _ ?_;clear H W v;try walk_nrm));refine len (Am ?_);refine Am (Au ?_);simp only[ix,Nat.reduceAdd];(iterate 2 (refine Ai fun v W H=>?_;go_simp;refine H _ ?_;clear H W v;try walk_nrm));refine Fg ?_;(try walk_nrm);refine Fg ?_;(try walk_nrm);refine Fg ?_;(try walk_nrm);refine Ai fun v W H=>?_;go_simp;refine H _ ?_;clear H W v;(try walk_nrm);refine len (Gl ?_);refine Gz (Am ?_);refine Am (Au ?_);simp only[ix,Nat.reduceAdd];refine Ai fun v W H=>?_;go_simp;refine H _ ?_;clear H W v;(try walk_nrm);refine len (Hd ?_);refine Am (Am (Au ?_));simp only[ix,Nat.reduceAdd];(iterate 3 (refine Ai fun v W H=>?_;go_simp;refine H _ ?_;clear H W v;try walk_nrm));refine len (Gl ?_);refine Gz (Au ?_);simp only[ix,Nat.reduceAdd];(iterate 3 (refine Ai fun v W H=>?_;go_simp;refine H _ ?_;clear H W v;try walk_nrm));refine len ?_
 exact Lk.go (K _)
theorem Arp (hg:I.tag i≠.gone) (co cn:Nat) {n1 n2 n3:Int} (h4:bits .and .i32 (co:Nat) 4=0) (h5:bits .and .i32 (co:Nat) 5=1) (o1:bits .or .i32 (co:Nat) 1=n1) (a8:IntKind.i32.wrap (n1+8)=n2) (h1:bits .and .i32 (co:Nat) 1=1) (o4:bits .or .i32 n2 4=n3) (h2:bits .and .i32 n3 2=2) (h3:bits .andNot .i32 n3 2=(cn:Nat)) (wst it:Int) (Jh Ji:Value)
  (K:∀Ji:Value,Lk top Post i I w p m c cs (.int .i64 wst) (.bool true) (.bool true) (.int .i64 it) (.int .i32 (co:Nat)) (.int .i32 (cn:Nat)) Ji [.code Ov,.inBlock 1,.inLoop C8,.inBlock 0,.code F3]) :
  Lk top Post i I w p m c cs (.int .i64 wst) (.bool true) (.bool true) (.int .i64 it) (.int .i32 (co:Nat)) Jh Ji [.code Eo,.inBlock 1,.inLoop C8,.inBlock 0,.code F3]:=by
 unfold Lk;intros;simp only[Eo,C8,Wm,Bq,L4,cIn,Tryz.f105,Option.getD_some]
 (try walk_nrm);refine Am (Au ?_);simp only[ix,Nat.reduceAdd];(iterate 2 (refine Ai fun v W H=>?_;go_simp;refine H _ ?_;clear H W v;try walk_nrm));refine len (Am ?_);refine Am (Au ?_);simp only[ix,Nat.reduceAdd];(iterate 3 (refine Ai fun v W H=>?_;go_simp;refine H _ ?_;clear H W v;try walk_nrm));refine len (Hd (Au ?_));simp only[ix,Nat.reduceAdd];(iterate 3 (refine Ai fun v W H=>?_;go_simp;refine H _ ?_;clear H W v;try walk_nrm));refine len (Am ?_);refine Am (Au ?_);simp only[ix,Nat.reduceAdd];(iterate 3 (refine Ai fun v W H=>?_;go_simp;refine H _ ?_;clear H W v;try walk_nrm));refine len (Hd (Au ?_));simp only[ix,Nat.reduceAdd];(iterate 3 (refine Ai fun v W H=>?_;go_simp;refine H _ ?_;clear H W v;try walk_nrm));refine len (Am ?_);refine Am (Au ?_);simp only[ix,Nat.reduceAdd];(iterate 6 (refine Ai fun v W H=>?_;go_simp;refine H _ ?_;clear H W v;try walk_nrm));refine len (Hd (Au ?_));simp only[ix,Nat.reduceAdd];(iterate 3 (refine Ai fun v W H=>?_;go_simp;refine H _ ?_;clear H W v;try walk_nrm));refine len (Am ?_);refine Am (Au ?_);simp only[ix,Nat.reduceAdd];refine Ai fun v W H=>?_;go_simp;refine H _ ?_;clear H W v;(try walk_nrm);refine len (Hd ?_);refine Am (Am (Au ?_));simp only[ix,Nat.reduceAdd];(iterate 3 (refine Ai fun v W H=>?_;go_simp;refine H _ ?_;clear H W v;try walk_nrm));refine len (Gl ?_);refine Gz (Au ?_);simp only[ix,Nat.reduceAdd];(iterate 3 (refine Ai fun v W H=>?_;go_simp;refine H _ ?_;clear H W v;try walk_nrm));refine len ?_
 exact Lk.go (K _)
theorem Ahs (hg:I.tag i≠.gone) (co cn:Nat) {c5:Int} (h4:bits .and .i32 (co:Nat) 4=4) (h5:bits .and .i32 (co:Nat) 5=c5) (n5:(c5==0)=false) (n5b:¬c5=0) (n5c:(c5 != 0)=true) (a8:IntKind.i32.wrap ((co:Nat)+8)=(cn:Nat)) (wst it:Int) (Jh Ji:Value)
  (K:∀Ji:Value,Lk top Post i I w p m c cs (.int .i64 wst) (.bool false) (.bool false) (.int .i64 it) (.int .i32 (co:Nat)) (.int .i32 (cn:Nat)) Ji [.code Ov,.inBlock 1,.inLoop C8,.inBlock 0,.code F3]) :
  Lk top Post i I w p m c cs (.int .i64 wst) (.bool false) (.bool false) (.int .i64 it) (.int .i32 (co:Nat)) Jh Ji [.code Eo,.inBlock 1,.inLoop C8,.inBlock 0,.code F3]:=by
 unfold Lk;intros;simp only[Eo,C8,Wm,Bq,L4,cIn,Tryz.f105,Option.getD_some]
 (try walk_nrm);refine Am (Au ?_);simp only[ix,Nat.reduceAdd];(iterate 2 (refine Ai fun v W H=>?_;go_simp;refine H _ ?_;clear H W v;try walk_nrm));refine len (Am ?_);refine Am (Au ?_);simp only[ix,Nat.reduceAdd];(iterate 3 (refine Ai fun v W H=>?_;go_simp;refine H _ ?_;clear H W v;try walk_nrm));refine len (Gl ?_);refine Gz (Am ?_);refine Am (Au ?_);simp only[ix,Nat.reduceAdd];(iterate 3 (refine Ai fun v W H=>?_;go_simp;refine H _ ?_;clear H W v;try walk_nrm));refine len (Hd (Au ?_));simp only[ix,Nat.reduceAdd];(iterate 3 (refine Ai fun v W H=>?_;go_simp;refine H _ ?_;clear H W v;try walk_nrm));refine len (Am ?_);refine Am (Au ?_);simp only[ix,Nat.reduceAdd];(iterate 2 (refine Ai fun v W H=>?_;go_simp;refine H _ ?_;clear H W v;try walk_nrm));refine Fg ?_;(try walk_nrm);refine Fg ?_;(try walk_nrm);refine Fg ?_;(try walk_nrm);refine Ai fun v W H=>?_;go_simp;refine H _ ?_;clear H W v;(try walk_nrm);refine len (Gl ?_);refine Gz (Am ?_);refine Am (Au ?_);simp only[ix,Nat.reduceAdd];refine Ai fun v W H=>?_;go_simp;refine H _ ?_;clear H W v;(try walk_nrm);refine len (Gl (Gz ?_))
 exact Lk.go (K _)
end
section
variable {top:Nat} {I I' I2:Ab} {p:Ph} {w w' w2:World} {i j k n m y:Nat} {f:Nat->ML} {a:ML} {Post:Value->World->Prop} {es:Array Event} {g g':Goroutine} {c:Frame} {cs:List Frame}
theorem wrap64 {it:Nat} (h:it < 4):IntKind.i64.wrap ((it:Int)+1)=((it+1:Nat):Int):=by rw[IntKind.wrap_i64];omega
theorem Nr (hg:I.tag i≠.gone) (co:Nat) {c5:Int} (h5:bits .and .i32 (co:Nat) 5=c5) (n5:(c5==1)=false) (n5b:¬c5=1) (sv aw:Bool) (wst:Int) (it:Nat) (Jh Ji:Value)
  (K:∀Jh Ji:Value,Lk top Post i I w p m c cs (.int .i64 wst) (.bool sv) (.bool aw) (.int .i64 (it:Nat)) (.int .i32 (co:Nat)) Jh Ji [.code Eo,.inBlock 1,.inLoop C8,.inBlock 0,.code F3]) :
  Lk top Post i I w p m c cs (.int .i64 wst) (.bool sv) (.bool aw) (.int .i64 (it:Nat)) (.int .i32 (co:Nat)) Jh Ji [.code C8,.inLoop C8,.inBlock 0,.code F3]:=by
 unfold Lk;intros;simp only[lk8,lk6,Eo,C8,Wm,Bq,L4,cHd,Hf,cIn,Tryz.f105,Option.getD_some]
 (try walk_nrm);refine Bz (fun _=>stepG_block) ?_;refine Am (Am (Au ?_));simp only[ix,Nat.reduceAdd];(iterate 4 (refine Ai fun v W H=>?_;go_simp;refine H _ ?_;clear H W v;try walk_nrm));refine Fg ?_;(try walk_nrm);refine Fg ?_;(try walk_nrm);refine Ai fun v W H=>?_;go_simp;refine H _ ?_;clear H W v;(try walk_nrm);refine len (Gl (Gz ?_))
 exact Lk.go (K _ _)
theorem Af0 (h:In p i y 1 f I) (co:Nat) (h5:bits .and .i32 (co:Nat) 5=1) (sv aw:Bool) (wst:Int) (it:Nat) (Jh Ji:Value)
  (K:∀I' w',In p i y 1 f I'->Dp i p I I'->Ec i p I w I' w'->(∀Jh Ji:Value,Lk top Post i I' w' p m c cs (.int .i64 wst) (.bool sv) (.bool aw) (.int .i64 (it:Nat)) (.int .i32 (co:Nat)) Jh Ji [.code Eo,.inBlock 1,.inLoop C8,.inBlock 0,.code F3])/\(it < 4->∀Jh Ji:Value,Lk top Post i I' w' p m c cs (.int .i64 wst) (.bool sv) (.bool aw) (.int .i64 (it:Nat)) (.int .i32 (co:Nat)) Jh Ji [.code lk6,.code Eo,.inBlock 1,.inLoop C8,.inBlock 0,.code F3])) :
  Lk top Post i I w p m c cs (.int .i64 wst) (.bool sv) (.bool aw) (.int .i64 (it:Nat)) (.int .i32 (co:Nat)) Jh Ji [.code C8,.inLoop C8,.inBlock 0,.code F3]:=by
 unfold Lk;intros;have hg:=h.ng;simp only[lk8,lk6,Eo,C8,Wm,Bq,L4,cHd,Hf,cIn,Tryz.f105,Option.getD_some]
 (try walk_nrm);refine Bz (fun _=>stepG_block) ?_;refine Am (Am (Au ?_));simp only[ix,Nat.reduceAdd];(iterate 5 (refine Ai fun v W H=>?_;go_simp;refine H _ ?_;clear H W v;try walk_nrm))
 refine Ari (it:=it) h rfl rfl (by k_ne) rfl (by simp[Act.eval]) fun I1 w1 b hb h1 A1 R1=>?_;obtain⟨K0,K1⟩:=K I1 w1 h1 A1 R1;clear hg;have hg:=h1.ng;clear K;try walk_nrm
 cases b with
 | false =>
  refine Ai fun v W H=>?_;go_simp;refine H _ ?_;clear H W v;(try walk_nrm);refine len (Gl (Gz ?_));exact Lk.go (K0 _ _)
 | true =>
  replace K1:=K1 (hb rfl);refine Ai fun v W H=>?_;go_simp;refine H _ ?_;clear H W v;(try walk_nrm);refine len (Hd ?_);exact Lk.go (K1 _ _)
theorem Mt (hm:m < 2) (h:In p i y 1 f I) (co:Nat) (sv aw:Bool) (wst:Int) (it:Nat) (h4:it < 4) (Jh Ji:Value)
  (K:∀I' w',In p i y 1 f I'->Dp i p I I'->Fe p.b p.W (I'.sk.ml m) (I'.sk.mw m)->p.W<=16->∀Jh Ji:Value,Lk top Post i I' w' p m c cs (.int .i64 wst) (.bool sv) (.bool aw) (.int .i64 (it+1:Nat)) (.int .i32 (((I'.sk.mw m).code):Nat)) Jh Ji [.code C8,.inLoop C8,.inBlock 0,.code F3]) :
  Lk top Post i I w p m c cs (.int .i64 wst) (.bool sv) (.bool aw) (.int .i64 (it:Nat)) (.int .i32 (co:Nat)) Jh Ji [.code lk8,.code Eo,.inBlock 1,.inLoop C8,.inBlock 0,.code F3]:=by
 unfold Lk;intros;have hg:=h.ng;simp only[lk8,lk6,Eo,C8,Wm,Bq,L4,cHd,Hf,cIn,Tryz.f105,Option.getD_some]
 (try walk_nrm);refine Am (Au ?_);simp only[ix,Nat.reduceAdd];refine Bz (fun _=>stepG_entry_pure (.tuple #[]) rfl rfl (by k_ne) rfl func114 Anz An1 Any An0) ?_;(try walk_nrm);refine len (Am (Au ?_));simp only[ix,Nat.reduceAdd];(iterate 3 (refine Ai fun v W H=>?_;go_simp;refine H _ ?_;clear H W v;try walk_nrm));refine len (Am (Au ?_));simp only[ix,Nat.reduceAdd];(iterate 3 (refine Ai fun v W H=>?_;go_simp;refine H _ ?_;clear H W v;try walk_nrm))
 refine Lv hm h rfl (fun w c hc=>D9 rfl rfl (by k_ne) rfl (by simp[Act.eval]) En hc) fun I1 w1 h1 A1 M1 W1=>?_;clear hg;have hg:=h1.ng;replace K:=K I1 w1 h1 A1 M1 W1
 (try walk_nrm);refine Ai fun v W H=>?_;go_simp;refine H _ ?_;clear H W v;(try walk_nrm);refine len ?_;refine Bz (fun _=>stepG_exit rfl) ?_;refine Bz (fun _=>stepG_inLoop) ?_
 rw[wrap64 h4];exact Lk.go (K _ _)
end
theorem Aml:∀L K S:Bool,∀w:Fin 64,bits .and .i32 ((MW.code ⟨L,K,S,w,0⟩:Nat):Int) 1=(L.toNat:Nat):=by decide +kernel
theorem Amk:∀L K S:Bool,∀w:Fin 64,bits .and .i32 ((MW.code ⟨L,K,S,w,0⟩:Nat):Int) 2=(2 * K.toNat:Nat):=by decide +kernel
theorem Amj:∀L K S:Bool,∀w:Fin 64,bits .and .i32 ((MW.code ⟨L,K,S,w,0⟩:Nat):Int) 3=(L.toNat+2 * K.toNat:Nat):=by decide +kernel
theorem Ami:∀L K S:Bool,∀w:Fin 64,bits .and .i32 ((MW.code ⟨L,K,S,w,0⟩:Nat):Int) 4=(4 * S.toNat:Nat):=by decide +kernel
theorem Amh:∀L K S:Bool,∀w:Fin 64,bits .and .i32 ((MW.code ⟨L,K,S,w,0⟩:Nat):Int) 5=(L.toNat+4 * S.toNat:Nat):=by decide +kernel
theorem Amg:∀L K S:Bool,∀w:Fin 64,bits .and .i32 ((MW.code ⟨L,K,S,w,0⟩:Nat):Int) 7=(L.toNat+2 * K.toNat+4 * S.toNat:Nat):=by decide +kernel
theorem Aqn:∀L K S:Bool,∀w:Fin 64,bits .or .i32 ((MW.code ⟨L,K,S,w,0⟩:Nat):Int) 1=(MW.code ⟨true,K,S,w,0⟩:Nat):=by decide +kernel
theorem Aqm:∀L K S:Bool,∀w:Fin 64,bits .or .i32 ((MW.code ⟨L,K,S,w,0⟩:Nat):Int) 2=(MW.code ⟨L,true,S,w,0⟩:Nat):=by decide +kernel
theorem Aql:∀L K S:Bool,∀w:Fin 64,bits .or .i32 ((MW.code ⟨L,K,S,w,0⟩:Nat):Int) 4=(MW.code ⟨L,K,true,w,0⟩:Nat):=by decide +kernel
theorem Aqo:∀L K S:Bool,∀w:Fin 64,bits .andNot .i32 ((MW.code ⟨L,K,S,w,0⟩:Nat):Int) 2=(MW.code ⟨L,false,S,w,0⟩:Nat):=by decide +kernel
section
variable (L K S:Bool) (w q:Nat)
theorem Vm (hw:w < 64):bits .and .i32 ((MW.code ⟨L,K,S,w,q⟩:Nat):Int) 1=(L.toNat:Nat):=Aml L K S ⟨w,hw⟩
theorem Rg (hw:w < 64):bits .and .i32 ((MW.code ⟨L,K,S,w,q⟩:Nat):Int) 2=(2 * K.toNat:Nat):=Amk L K S ⟨w,hw⟩
theorem Arf (hw:w < 64):bits .and .i32 ((MW.code ⟨L,K,S,w,q⟩:Nat):Int) 3=(L.toNat+2 * K.toNat:Nat):=Amj L K S ⟨w,hw⟩
theorem Ge (hw:w < 64):bits .and .i32 ((MW.code ⟨L,K,S,w,q⟩:Nat):Int) 4=(4 * S.toNat:Nat):=Ami L K S ⟨w,hw⟩
theorem Ct (hw:w < 64):bits .and .i32 ((MW.code ⟨L,K,S,w,q⟩:Nat):Int) 5=(L.toNat+4 * S.toNat:Nat):=Amh L K S ⟨w,hw⟩
theorem Are (hw:w < 64):bits .and .i32 ((MW.code ⟨L,K,S,w,q⟩:Nat):Int) 7=(L.toNat+2 * K.toNat+4 * S.toNat:Nat):=Amg L K S ⟨w,hw⟩
theorem Sp (hw:w < 64):bits .or .i32 ((MW.code ⟨L,K,S,w,q⟩:Nat):Int) 1=(MW.code ⟨true,K,S,w,q⟩:Nat):=Aqn L K S ⟨w,hw⟩
theorem An6 (hw:w < 64):bits .or .i32 ((MW.code ⟨L,K,S,w,q⟩:Nat):Int) 2=(MW.code ⟨L,true,S,w,q⟩:Nat):=Aqm L K S ⟨w,hw⟩
theorem Atx (hw:w < 64):bits .or .i32 ((MW.code ⟨L,K,S,w,q⟩:Nat):Int) 4=(MW.code ⟨L,K,true,w,q⟩:Nat):=Aql L K S ⟨w,hw⟩
theorem Aa4 (hw:w < 64):bits .andNot .i32 ((MW.code ⟨L,K,S,w,q⟩:Nat):Int) 2=(MW.code ⟨L,false,S,w,q⟩:Nat):=Aqo L K S ⟨w,hw⟩
theorem Ky (hw:w < 64):MW.code ⟨L,K,S,w,q⟩ < 520:=by simp only[MW.code];cases L<;>cases K<;>cases S<;>simp<;>omega
theorem Afw (hw:w < 64):((MW.code ⟨L,K,S,w,q⟩:Nat):Int) / 8=(w:Nat):=by simp only[MW.code];cases L<;>cases K<;>cases S<;>simp<;>omega
theorem Rh (hw:w < 64):IntKind.i32.wrap (((MW.code ⟨L,K,S,w,q⟩:Nat):Int)+8)=(MW.code ⟨L,K,S,w+1,q⟩:Nat):=by
 have:=Ky L K S w q hw;have e:MW.code ⟨L,K,S,w+1,q⟩=MW.code ⟨L,K,S,w,q⟩+8:=by simp only[MW.code];omega
 rw[e,IntKind.wrap_i32];omega
theorem Ard (hw:w < 64) (h1:0 < w):IntKind.i32.wrap (((MW.code ⟨L,K,S,w,q⟩:Nat):Int) - 8)=(MW.code ⟨L,K,S,w - 1,q⟩:Nat):=by
 have:=Ky L K S w q hw;have e:MW.code ⟨L,K,S,w,q⟩=MW.code ⟨L,K,S,w - 1,q⟩+8:=by simp only[MW.code];omega
 rw[e] at this ⊢;rw[IntKind.wrap_i32];omega
theorem Akb (hw:w < 64):IntKind.i32.wrap (((MW.code ⟨true,K,S,w,q⟩:Nat):Int)+-1)=(MW.code ⟨false,K,S,w,q⟩:Nat):=by
 have:=Ky true K S w q hw;have e:MW.code ⟨true,K,S,w,q⟩=MW.code ⟨false,K,S,w,q⟩+1:=by simp only[MW.code];simp;omega
 rw[e] at this ⊢;rw[IntKind.wrap_i32];omega
theorem Arc (hw:w < 64) (h1:0 < w):IntKind.i32.wrap (((MW.code ⟨false,K,true,w,q⟩:Nat):Int)+-7)=(MW.code ⟨true,K,true,w - 1,q⟩:Nat):=by
 have:=Ky false K true w q hw;have e:MW.code ⟨false,K,true,w,q⟩=MW.code ⟨true,K,true,w - 1,q⟩+7:=by simp only[MW.code];simp;omega
 rw[e] at this ⊢;rw[IntKind.wrap_i32];omega
theorem Afv (hw:w < 64) (h1:0 < w):IntKind.i32.wrap (((MW.code ⟨false,K,true,w,q⟩:Nat):Int)+-11)=(MW.code ⟨true,K,false,w - 1,q⟩:Nat):=by
 have:=Ky false K true w q hw;have e:MW.code ⟨false,K,true,w,q⟩=MW.code ⟨true,K,false,w - 1,q⟩+11:=by simp only[MW.code];simp;omega
 rw[e] at this ⊢;rw[IntKind.wrap_i32];omega
end
section
variable {top:Nat} {I I' I2:Ab} {p:Ph} {w w' w2:World} {i j k n m y:Nat} {f:Nat->ML} {a b:ML} {Post:Value->World->Prop} {es:Array Event} {g g':Goroutine} {c:Frame} {cs:List Frame}
theorem E7 (f:Nat->ML) (m:Nat) (a b:ML):upd (upd f m a) m b=upd f m b:=by funext z;by_cases q:z=m<;>simp[upd,q]
theorem Ep (hm:m < 2) (h2:∀k,k < 2->k≠m->f k=.off\/f k=.fresh) (h0:m=0->a≠.own 1/\b≠.own 1) (h1:m=1->a≠.own 2):Fit m (upd f m a) a b:=⟨h0,h1,fun k hk hk2=>by rw[upd_ne _ _ hk2];exact h2 k hk hk2⟩
def Awk (aw:Bool) (a:ML):Prop:=(aw=false/\a=.fresh)\/(aw=true/\(a=.spun\/a=.tok))
theorem Aro (hm:m < 2) (h2:∀k,k < 2->k≠m->f k=.off\/f k=.fresh) (h:In p i y 1 (upd f m a) I) (Kb:Bool) (xw xq:Nat) (hw:xw<=32) (sv aw:Bool) (ha:Awk aw a) (hn:I.sk.V p m<=n/\((I.sk.mw m).code=MW.code ⟨true,Kb,false,xw,xq⟩\/I.sk.V p m < n)) (wst:Int) (it:Nat) (h4:it < 4) (Jh Ji:Value)
  (K:∀I' w' aw' a',In p i y 1 (upd f m a') I'->Dp i p I I'->Awk aw' a'->(aw=true->aw'=true)->Fe p.b p.W (I'.sk.ml m) (I'.sk.mw m)->p.W<=16->∀Jh Ji:Value,Lk top Post i I' w' p m c cs (.int .i64 wst) (.bool sv) (.bool aw') (.int .i64 (it+1:Nat)) (.int .i32 (((I'.sk.mw m).code):Nat)) Jh Ji [.code C8,.inLoop C8,.inBlock 0,.code F3]) :
  Lk top Post i I w p m c cs (.int .i64 wst) (.bool sv) (.bool aw) (.int .i64 (it:Nat)) (.int .i32 ((MW.code ⟨true,Kb,false,xw,xq⟩):Nat)) Jh Ji [.code lk6,.code Eo,.inBlock 1,.inLoop C8,.inBlock 0,.code F3]:=by
 unfold Lk;intros;have hg:=h.ng;simp only[lk8,lk6,Eo,C8,Wm,Bq,L4,cHd,Hf,cIn,Tryz.f105,Option.getD_some]
 try walk_nrm
 rcases ha with⟨rfl,rfl⟩|⟨rfl,ha⟩;rotate_left
 ·-- awake
  refine Am (Am (Au ?_));simp only[ix,Nat.reduceAdd];(iterate 3 (refine Ai fun v W H=>?_;go_simp;refine H _ ?_;clear H W v;try walk_nrm));refine Fg ?_;(try walk_nrm);refine Fg ?_;(try walk_nrm);refine Fg ?_;(try walk_nrm);(iterate 2 (refine Ai fun v W H=>?_;go_simp;refine H _ ?_;clear H W v;try walk_nrm));refine Fg ?_;(try walk_nrm);refine Fg ?_;(try walk_nrm);refine Fg ?_;(try walk_nrm);(iterate 2 (refine Ai fun v W H=>?_;go_simp;refine H _ ?_;clear H W v;try walk_nrm));refine Fg ?_;(try walk_nrm);refine Fg ?_;(try walk_nrm);refine Fg ?_;(try walk_nrm);refine Fg ?_;(try walk_nrm);refine Fg ?_;(try walk_nrm);refine Fg ?_;(try walk_nrm);refine Fg ?_;(try walk_nrm);refine Ai fun v W H=>?_;go_simp;refine H _ ?_;clear H W v;(try walk_nrm);refine len (Gl (Gz ?_));exact Lk.go (Mt hm h _ sv true wst it h4 _ _ fun I8 w8 h8 A8 M8 W8=>K I8 w8 true _ h8 ((Dp.refl i p I).trans A8) (.inr ⟨rfl,ha⟩) (by simp) M8 W8)
 have b2:=Rg true Kb false xw xq (by omega);have d8:=Afw true Kb false xw xq (by omega);have o2:=An6 true Kb false xw xq (by omega);cases Kb with
 | true =>
  simp only[Bool.toNat_true] at b2;generalize gg:MW.code ⟨true,true,false,xw,xq⟩=co at *;clear d8 o2 gg;refine Am (Am (Au ?_));simp only[ix,Nat.reduceAdd];(iterate 8 (refine Ai fun v W H=>?_;go_simp;refine H _ ?_;clear H W v;try walk_nrm));refine Fg ?_;(try walk_nrm);refine Fg ?_;(try walk_nrm);refine Fg ?_;(try walk_nrm);(iterate 2 (refine Ai fun v W H=>?_;go_simp;refine H _ ?_;clear H W v;try walk_nrm));refine Fg ?_;(try walk_nrm);refine Fg ?_;(try walk_nrm);refine Fg ?_;(try walk_nrm);refine Fg ?_;(try walk_nrm);refine Fg ?_;(try walk_nrm);refine Fg ?_;(try walk_nrm);refine Fg ?_;(try walk_nrm);refine Ai fun v W H=>?_;go_simp;refine H _ ?_;clear H W v;(try walk_nrm);refine len (Gl (Gz ?_));exact Lk.go (Mt hm h _ sv false wst it h4 _ _ fun I8 w8 h8 A8 M8 W8=>K I8 w8 false _ h8 ((Dp.refl i p I).trans A8) (.inl ⟨rfl,rfl⟩) (by simp) M8 W8)
 | false =>
  simp only[Bool.toNat_false] at b2;rcases Nat.eq_zero_or_pos xw with rfl|hp0
  ·generalize gg:MW.code ⟨true,false,false,0,xq⟩=co at *;clear o2 gg;refine Am (Am (Au ?_));simp only[ix,Nat.reduceAdd];(iterate 13 (refine Ai fun v W H=>?_;go_simp;refine H _ ?_;clear H W v;try walk_nrm));refine Fg ?_;(try walk_nrm);refine Fg ?_;(try walk_nrm);refine Fg ?_;(try walk_nrm);refine Fg ?_;(try walk_nrm);refine Fg ?_;(try walk_nrm);refine Fg ?_;(try walk_nrm);refine Fg ?_;(try walk_nrm);refine Ai fun v W H=>?_;go_simp;refine H _ ?_;clear H W v;(try walk_nrm);refine len (Gl (Gz ?_));exact Lk.go (Mt hm h _ sv false wst it h4 _ _ fun I8 w8 h8 A8 M8 W8=>K I8 w8 false _ h8 ((Dp.refl i p I).trans A8) (.inl ⟨rfl,rfl⟩) (by simp) M8 W8)
  ·obtain⟨z,hz⟩:∃z:Int,((xw:Nat):Int)=z:=⟨_,rfl⟩;have z1:(z==0)=false:=by rw[<- hz];simp;omega
   have z2:¬z=0:=by omega
   have z3:(z != 0)=true:=by rw[<- hz];simp;omega
   rw[hz] at d8;have hs:∀x:MW,x.code=MW.code ⟨true,false,false,xw,xq⟩->∃x',B1 .fresh x .spun x'/\x'.code=MW.code ⟨true,true,false,xw,xq⟩/\x'.q=x.q:=fun x hx=>by
    obtain⟨e1,e2,e3,e4⟩:=MW.code_inj hx;dsimp only at e1 e2 e3 e4;refine⟨_,B1.spin e1 e2 e3 (by omega),?_,rfl⟩;simp only[MW.code,e1,e3,e4]
   have hne:MW.code ⟨true,false,false,xw,xq⟩≠MW.code ⟨true,true,false,xw,xq⟩:=fun q=>by have:=MW.code_inj q;simp at this
   generalize gg:MW.code ⟨true,false,false,xw,xq⟩=co at *;generalize hcn:MW.code ⟨true,true,false,xw,xq⟩=cn at *;clear gg hcn hz;refine Am (Am (Au ?_));simp only[ix,Nat.reduceAdd];(iterate 19 (refine Ai fun v W H=>?_;go_simp;refine H _ ?_;clear H W v;try walk_nrm));refine Aob hm h rfl (upd_same _ _ _) (Ep (b:=.spun) hm h2 (fun _=>by simp) fun _=>by simp) hne hs (fun w hc hz=>stepG_cas_hit rfl rfl (by k_ne) rfl func104 P9 Rb P8 .i32 Ra rfl rfl rfl hc hz) (fun w c hne hc hz=>stepG_cas_miss rfl rfl (by k_ne) rfl func104 P9 Rb P8 .i32 Ra rfl rfl rfl hc hz (by omega)) hn (fun I1 w1 h1 A1 _=>?_) fun I1 w1 h1 A1 _=>?_
   ·rw[E7] at h1;clear hg;have hg:=h1.ng;(try walk_nrm);refine Ai fun v W H=>?_;go_simp;refine H _ ?_;clear H W v;(try walk_nrm);refine len (Hd (Au ?_));simp only[ix,Nat.reduceAdd];refine Ai fun v W H=>?_;go_simp;refine H _ ?_;clear H W v;(try walk_nrm);refine len ?_;exact Lk.go (Mt hm h1 _ sv true wst it h4 _ _ fun I8 w8 h8 A8 M8 W8=>K I8 w8 true _ h8 (A1.trans A8) (.inr ⟨rfl,.inl rfl⟩) (by simp) M8 W8)
   ·clear hg;have hg:=h1.ng;(try walk_nrm);refine Ai fun v W H=>?_;go_simp;refine H _ ?_;clear H W v;(try walk_nrm);refine len (Gl (Gz ?_));exact Lk.go (Mt hm h1 _ sv false wst it h4 _ _ fun I8 w8 h8 A8 M8 W8=>K I8 w8 false _ h8 (A1.trans A8) (.inl ⟨rfl,rfl⟩) (by simp) M8 W8)
noncomputable def Au4:Code:=L4 (L4 Af1)
noncomputable def At0:Code:=L4 Au4
noncomputable def Aom:Code:=Hf (L4 (cHd At0))
theorem Aht (hm:m < 2) (h2:∀k,k < 2->k≠m->f k=.off\/f k=.fresh) (h:In p i y 1 (upd f m .hand) I) (M:Fe p.b p.W (I.sk.ml m) (I.sk.mw m)) (hW:p.W<=16) (sv:Bool) (wst:Int) (Je Jf Jh Ji:Value)
  (KD:∀I' w',In p i y 0 (upd f m (.own 1)) I'->Dp i p I I'->LT top Post i I' w' (G (c.finish (.tuple #[])) cs)) :
  Lk top Post i I w p m c cs (.int .i64 wst) (.bool sv) Je Jf (.int .i32 ((I.sk.mw m).code:Nat)) Jh Ji [.code Aom,.code (L4 At0),.inBlock 1,.inLoop C8,.inBlock 0,.code F3]:=by
 unfold Lk;intros;have hg:=h.ng;obtain⟨q1,q2,q3,q4⟩:=M.handed (h.own_ hm);have hfw:=M.few;generalize hx:I.sk.mw m=x at *;obtain⟨xL,xK,xS,xw,xq⟩:=x;dsimp only at q1 q2 q3 q4 hfw;subst q1 q2 q3;have b3:=Arf false false true xw xq (by omega);simp only[Bool.toNat_false,Nat.mul_zero,Nat.add_zero] at b3;have d8:=Afw false false true xw xq (by omega);obtain⟨z,hz⟩:∃z:Int,((xw:Nat):Int)=z:=⟨_,rfl⟩;have z1:(z==0)=false:=by rw[<- hz];simp;omega
 have z2:¬z=0:=by omega
 rw[hz] at d8;have key:∀(dl:Int) (keep:Bool),(keep=true->2<=xw)->(dl=if keep then -7 else -11)->∀(I2:Ab) (w2:World),In p i y 1 (upd f m .hand) I2->Ae Gp.tWg top I2 w2->Ec i p I w I2 w2->∃x',B1 .hand (I2.sk.mw m) (.own 0) x'/\(x'.code:Int)=IntKind.i32.wrap (((I2.sk.mw m).code:Nat)+dl)/\x'.q=(I2.sk.mw m).q/\True:=by
  intro dl keep hk zm I2 w2 h2' hI hR;have M2:=h2'.mi hI hm;obtain⟨r1,r2,r3,r4⟩:=M2.handed (h2'.own_ hm);have hf2:=M2.few;have hle:=hR.hand m hm (h.own_ hm);rw[hx] at hle;refine⟨{ I2.sk.mw m with L:=true,w:=(I2.sk.mw m).w - 1,S:=keep },B1.take keep fun q=>?_,?_,rfl,trivial⟩
  ·have:=hk q;have hle':xw<=(I2.sk.mw m).w:=hle;omega
  ·obtain⟨uL,uK,uS,uw,uq⟩:∃u,I2.sk.mw m=u:=⟨_,rfl⟩;generalize I2.sk.mw m=u at *;obtain⟨uL,uK,uS,uw,uq⟩:=u;dsimp only at r1 r2 r3 r4 hf2 ⊢;subst r1 r2 r3 zm;cases keep with
   | true=>exact(Arc false uw uq (by omega) (by omega)).symm
   | false=>exact(Afv false uw uq (by omega) (by omega)).symm
 have fin:Fit m (upd f m .hand) .hand (.own 0):=Ep hm h2 (fun _=>by simp) fun _=>by simp
 generalize gg:MW.code ⟨false,false,true,xw,xq⟩=co at *;simp only[F3];simp only[Aom,At0,Au4,Af1,Ov,Eo,C8,Wm,Bq,L4,cHd,Hf,cIn,Tryz.f105,Option.getD_some]
 try walk_nrm
 cases sv with
 | false =>
  refine Am (Am (Au ?_));simp only[ix,Nat.reduceAdd];(iterate 8 (refine Ai fun v W H=>?_;go_simp;refine H _ ?_;clear H W v;try walk_nrm));refine len (Gl ?_);refine Gz (Am (Au ?_));simp only[ix,Nat.reduceAdd];refine Ai fun v W H=>?_;go_simp;refine H _ ?_;clear H W v;(try walk_nrm);refine len (Am ?_);refine Am (Au ?_);simp only[ix,Nat.reduceAdd];(iterate 3 (refine Ai fun v W H=>?_;go_simp;refine H _ ?_;clear H W v;try walk_nrm));refine Fg ?_;(try walk_nrm);refine Fg ?_;(try walk_nrm);refine Fg ?_;(try walk_nrm);refine Ai fun v W H=>?_;go_simp;refine H _ ?_;clear H W v;(try walk_nrm);refine len (Hd (Au ?_));simp only[ix,Nat.reduceAdd];(iterate 3 (refine Ai fun v W H=>?_;go_simp;refine H _ ?_;clear H W v;try walk_nrm));refine len (Am (Au ?_));simp only[ix,Nat.reduceAdd];(iterate 4 (refine Ai fun v W H=>?_;go_simp;refine H _ ?_;clear H W v;try walk_nrm));refine Rm (dl:=-11) (bx:=fun _=>.own 0) (Q:=fun _ _=>True) hm h (upd_same _ _ _) (fun _=>fin) (key _ false (fun q=>by cases q) rfl) rfl rfl (by k_ne) rfl rfl rfl fun I1 w1 x1 x1' h1 A1 _ _=>?_;rw[E7] at h1;clear hg;have hg:=h1.ng;(try walk_nrm);refine len ?_;refine Bz (fun _=>stepG_exit rfl) ?_;exact Lk.go (Vo hm h1 h2 _ _ _ _ _ _ _ fun I9 w9 h9 A9=>KD I9 w9 h9 (A1.trans A9))
 | true =>
  by_cases h1:z=1
  ·have e1:(z==1)=true:=by rw[h1];rfl
   clear z1 z2;have z1:(z==0)=false:=by rw[h1];rfl
   clear h1;refine Am (Am (Au ?_));simp only[ix,Nat.reduceAdd];(iterate 8 (refine Ai fun v W H=>?_;go_simp;refine H _ ?_;clear H W v;try walk_nrm));refine len (Gl ?_);refine Gz (Am (Au ?_));simp only[ix,Nat.reduceAdd];refine Ai fun v W H=>?_;go_simp;refine H _ ?_;clear H W v;(try walk_nrm);refine len (Am ?_);refine Am (Au ?_);simp only[ix,Nat.reduceAdd];(iterate 7 (refine Ai fun v W H=>?_;go_simp;refine H _ ?_;clear H W v;try walk_nrm));refine len (Hd (Au ?_));simp only[ix,Nat.reduceAdd];(iterate 3 (refine Ai fun v W H=>?_;go_simp;refine H _ ?_;clear H W v;try walk_nrm));refine len (Am (Au ?_));simp only[ix,Nat.reduceAdd];(iterate 4 (refine Ai fun v W H=>?_;go_simp;refine H _ ?_;clear H W v;try walk_nrm));refine Rm (dl:=-11) (bx:=fun _=>.own 0) (Q:=fun _ _=>True) hm h (upd_same _ _ _) (fun _=>fin) (key _ false (fun q=>by cases q) rfl) rfl rfl (by k_ne) rfl rfl rfl fun I1 w1 x1 x1' h1 A1 _ _=>?_;rw[E7] at h1;clear hg;have hg:=h1.ng;(try walk_nrm);refine len ?_;refine Bz (fun _=>stepG_exit rfl) ?_;exact Lk.go (Vo hm h1 h2 _ _ _ _ _ _ _ fun I9 w9 h9 A9=>KD I9 w9 h9 (A1.trans A9))
  ·have e1:(z==1)=false:=by simpa using h1
   have h1':2<=xw:=by omega
   clear h1;refine Am (Am (Au ?_));simp only[ix,Nat.reduceAdd];(iterate 8 (refine Ai fun v W H=>?_;go_simp;refine H _ ?_;clear H W v;try walk_nrm));refine len (Gl ?_);refine Gz (Am (Au ?_));simp only[ix,Nat.reduceAdd];refine Ai fun v W H=>?_;go_simp;refine H _ ?_;clear H W v;(try walk_nrm);refine len (Am ?_);refine Am (Au ?_);simp only[ix,Nat.reduceAdd];(iterate 7 (refine Ai fun v W H=>?_;go_simp;refine H _ ?_;clear H W v;try walk_nrm));refine len (Gl ?_);refine Gz (Am (Au ?_));simp only[ix,Nat.reduceAdd];(iterate 4 (refine Ai fun v W H=>?_;go_simp;refine H _ ?_;clear H W v;try walk_nrm));refine Rm (dl:=-7) (bx:=fun _=>.own 0) (Q:=fun _ _=>True) hm h (upd_same _ _ _) (fun _=>fin) (key _ true (fun _=>h1') rfl) rfl rfl (by k_ne) rfl rfl rfl fun I1 w1 x1 x1' h1 A1 _ _=>?_;rw[E7] at h1;clear hg;have hg:=h1.ng;(try walk_nrm);refine len ?_;refine Bz (fun _=>stepG_exit rfl) ?_;exact Lk.go (Vo hm h1 h2 _ _ _ _ _ _ _ fun I9 w9 h9 A9=>KD I9 w9 h9 (A1.trans A9))
theorem Aof (hm:m < 2) (h2:∀k,k < 2->k≠m->f k=.off\/f k=.fresh) (h:In p i y 1 (upd f m .que) I) (sv lifo:Bool) (wst:Int) (Je Jf Jg Jh:Value)
  (KD:∀I' w',In p i y 0 (upd f m (.own 1)) I'->Dp i p I I'->LT top Post i I' w' (G (c.finish (.tuple #[])) cs))
  (KH:∀I' w' sv',In p i y 1 (upd f m .tok) I'->Dp i p I I'->Fe p.b p.W (I'.sk.ml m) (I'.sk.mw m)->p.W<=16->∀(wst':Int) (Jh Ji:Value),Lk top Post i I' w' p m c cs (.int .i64 wst') (.bool sv') (.bool true) (.int .i64 (0:Nat)) (.int .i32 (((I'.sk.mw m).code):Nat)) Jh Ji [.code C8,.inLoop C8,.inBlock 0,.code F3]) :
  Lk top Post i I w p m c cs (.int .i64 wst) (.bool sv) Je Jf Jg Jh (.bool lifo) [.code Af1,.inBlock 1,.inLoop C8,.inBlock 0,.code F3]:=by
 unfold Lk;intros;have hg:=h.ng;simp only[Af1,Ov,Eo,C8,Wm,Bq,L4,cHd,Hf,cIn,Tryz.f105,Option.getD_some]
 (try walk_nrm);refine Am (Au ?_);simp only[ix,Nat.reduceAdd];(iterate 4 (refine Ai fun v W H=>?_;go_simp;refine H _ ?_;clear H W v;try walk_nrm))
 refine Arj hm h rfl rfl (upd_same _ _ _) ⟨Ep hm h2 (fun _=>by simp) fun _=>by simp,Ep hm h2 (fun _=>by simp) fun _=>by simp⟩ (fun w hc=>stepG_semacquire_wait rfl rfl rfl func117 Adr Adt Adq Ads (by simp[Act.eval]) hc) (fun w n hn hc hz=>stepG_semacquire rfl rfl (by k_ne) rfl func117 Adr Adt Adq Ads (by simp[Act.eval]) hc hn hz) fun I1 w1 b hb h1 A1=>?_;rw[E7] at h1;clear hg;have hg:=h1.ng;(try walk_nrm);refine len (Am (Au ?_));simp only[ix,Nat.reduceAdd];(iterate 2 (refine Ai fun v W H=>?_;go_simp;refine H _ ?_;clear H W v;try walk_nrm));cases sv with
 | true =>
  refine Fg ?_;(try walk_nrm);refine Fg ?_;(try walk_nrm);refine Fg ?_;(try walk_nrm);refine Fg ?_;(try walk_nrm);(iterate 2 (refine Ai fun v W H=>?_;go_simp;refine H _ ?_;clear H W v;try walk_nrm));clear h;refine len (Am (Au ?_));simp only[ix,Nat.reduceAdd];(iterate 3 (refine Ai fun v W H=>?_;go_simp;refine H _ ?_;clear H W v;try walk_nrm));refine Lv hm h1 rfl (fun w c hc=>D9 rfl rfl (by k_ne) rfl (by simp[Act.eval]) En hc) fun I3 w3 h3 A3 M3 W3=>?_;clear hg;have hg:=h3.ng;replace A3:=A1.trans A3
  (try walk_nrm);refine Ai fun v W H=>?_;go_simp;refine H _ ?_;clear H W v;(try walk_nrm);refine len (Am ?_);refine Am (Au ?_);simp only[ix,Nat.reduceAdd];refine Ai fun v W H=>?_;go_simp;refine H _ ?_;clear H W v;try walk_nrm
  have b4:bits .and .i32 ((I3.sk.mw m).code:Nat) 4=(4 * (I3.sk.mw m).S.toNat:Nat):=by
   have hf:=M3.few
   revert hf
   generalize I3.sk.mw m=u;intro hf;obtain⟨xL,xK,xS,xw,xq⟩:=u;have hf':xw<=2 * p.W:=hf;exact Ge _ _ _ _ _ (by omega)
  rcases hb with rfl|rfl
  ·have hS:=(M3.handed (h3.own_ hm)).1;rw[hS] at b4;simp only[Bool.toNat_true,Nat.mul_one] at b4;generalize gg:(I3.sk.mw m).code=co at *
   (iterate 2 (refine Ai fun v W H=>?_;go_simp;refine H _ ?_;clear H W v;try walk_nrm));refine len (Hd ?_)
   subst gg;exact Lk.go (Aht hm h2 h3 M3 W3 _ wst _ _ _ _ fun I9 w9 h9 A9=>KD I9 w9 h9 (A3.trans A9))
  ·have hS:=(M3.tkn (i:=i) (.inr (h3.own_ hm))).2;rw[hS] at b4;simp only[Bool.toNat_false,Nat.mul_zero] at b4;replace KH:=KH I3 w3 true h3 A3 M3 W3;generalize gg:(I3.sk.mw m).code=co at *
   (iterate 2 (refine Ai fun v W H=>?_;go_simp;refine H _ ?_;clear H W v;try walk_nrm));refine len (Gl ?_);refine Gz (Am (Au ?_));simp only[ix,Nat.reduceAdd];refine Ai fun v W H=>?_;go_simp;refine H _ ?_;clear H W v;(try walk_nrm);refine len (Au ?_);simp only[ix,Nat.reduceAdd];refine Ai fun v W H=>?_;go_simp;refine H _ ?_;clear H W v;(try walk_nrm);refine len ?_;refine Bz (fun _=>stepG_inBlock) ?_;refine Bz (fun _=>stepG_inLoop) ?_
   exact Lk.go (KH _ _ _)
 | false =>
  refine Ahq h1 rfl rfl (by k_ne) rfl fun I2 w2 tv h2' A2 _=>?_;clear hg h;have hg:=h2'.ng;(try walk_nrm);(iterate 3 (refine Ai fun v W H=>?_;go_simp;refine H _ ?_;clear H W v;try walk_nrm));generalize decide (1000000 < IntKind.i64.wrap (tv - wst))=sv2
  (iterate 2 (refine Ai fun v W H=>?_;go_simp;refine H _ ?_;clear H W v;try walk_nrm));refine len (Am (Au ?_));simp only[ix,Nat.reduceAdd];(iterate 3 (refine Ai fun v W H=>?_;go_simp;refine H _ ?_;clear H W v;try walk_nrm))
  refine Lv hm h2' rfl (fun w c hc=>D9 rfl rfl (by k_ne) rfl (by simp[Act.eval]) En hc) fun I3 w3 h3 A3 M3 W3=>?_;clear hg;have hg:=h3.ng;replace A3:=(A1.trans A2).trans A3
  (try walk_nrm);refine Ai fun v W H=>?_;go_simp;refine H _ ?_;clear H W v;(try walk_nrm);refine len (Am ?_);refine Am (Au ?_);simp only[ix,Nat.reduceAdd];refine Ai fun v W H=>?_;go_simp;refine H _ ?_;clear H W v;try walk_nrm
  have b4:bits .and .i32 ((I3.sk.mw m).code:Nat) 4=(4 * (I3.sk.mw m).S.toNat:Nat):=by
   have hf:=M3.few
   revert hf
   generalize I3.sk.mw m=u;intro hf;obtain⟨xL,xK,xS,xw,xq⟩:=u;have hf':xw<=2 * p.W:=hf;exact Ge _ _ _ _ _ (by omega)
  rcases hb with rfl|rfl
  ·have hS:=(M3.handed (h3.own_ hm)).1;rw[hS] at b4;simp only[Bool.toNat_true,Nat.mul_one] at b4;generalize gg:(I3.sk.mw m).code=co at *
   (iterate 2 (refine Ai fun v W H=>?_;go_simp;refine H _ ?_;clear H W v;try walk_nrm));refine len (Hd ?_)
   subst gg;exact Lk.go (Aht hm h2 h3 M3 W3 _ wst _ _ _ _ fun I9 w9 h9 A9=>KD I9 w9 h9 (A3.trans A9))
  ·have hS:=(M3.tkn (i:=i) (.inr (h3.own_ hm))).2;rw[hS] at b4;simp only[Bool.toNat_false,Nat.mul_zero] at b4;replace KH:=KH I3 w3 sv2 h3 A3 M3 W3;generalize gg:(I3.sk.mw m).code=co at *
   (iterate 2 (refine Ai fun v W H=>?_;go_simp;refine H _ ?_;clear H W v;try walk_nrm));refine len (Gl ?_);refine Gz (Am (Au ?_));simp only[ix,Nat.reduceAdd];refine Ai fun v W H=>?_;go_simp;refine H _ ?_;clear H W v;(try walk_nrm);refine len (Au ?_);simp only[ix,Nat.reduceAdd];refine Ai fun v W H=>?_;go_simp;refine H _ ?_;clear H W v;(try walk_nrm);refine len ?_;refine Bz (fun _=>stepG_inBlock) ?_;refine Bz (fun _=>stepG_inLoop) ?_
   exact Lk.go (KH _ _ _)
theorem Aba {co cn:Nat} (h5:bits .and .i32 (co:Nat) 5=0) (hfit:Fit m (upd f m a) a (.own 0)) (hs:∀x:MW,x.code=co->∃x',B1 a x (.own 0) x'/\x'.code=cn/\x'.q=x.q) (hm:m < 2) (h2:∀k,k < 2->k≠m->f k=.off\/f k=.fresh) (h:In p i y 1 (upd f m a) I) (hne:co≠cn) (hn:I.sk.V p m<=n/\((I.sk.mw m).code=co\/I.sk.V p m < n)) (sv aw:Bool) (wst:Int) (it:Nat) (Ji:Value)
  (KD:∀I' w',In p i y 0 (upd f m (.own 1)) I'->Dp i p I I'->LT top Post i I' w' (G (c.finish (.tuple #[])) cs))
  (KM:∀I' w',In p i y 1 (upd f m a) I'->Dp i p I I'->I'.sk.V p m < n->Fe p.b p.W (I'.sk.ml m) (I'.sk.mw m)->p.W<=16->∀Jh Ji:Value,Lk top Post i I' w' p m c cs (.int .i64 wst) (.bool sv) (.bool aw) (.int .i64 (it:Nat)) (.int .i32 (((I'.sk.mw m).code):Nat)) Jh Ji [.code C8,.inLoop C8,.inBlock 0,.code F3]) :
  Lk top Post i I w p m c cs (.int .i64 wst) (.bool sv) (.bool aw) (.int .i64 (it:Nat)) (.int .i32 (co:Nat)) (.int .i32 (cn:Nat)) Ji [.code Ov,.inBlock 1,.inLoop C8,.inBlock 0,.code F3]:=by
 unfold Lk;intros;have hg:=h.ng;simp only[F3];simp only[Af1,Ov,Eo,C8,Wm,Bq,L4,cHd,Hf,cIn,Tryz.f105,Option.getD_some]
 (try walk_nrm);refine Am (Au ?_);simp only[ix,Nat.reduceAdd];(iterate 5 (refine Ai fun v W H=>?_;go_simp;refine H _ ?_;clear H W v;try walk_nrm))
 refine Rk hm h (upd_same _ _ _) hfit hne hs hn rfl rfl (by k_ne) rfl rfl rfl rfl (fun I1 w1 h1 A1 Jb=>?_) fun I1 w1 h1 A1 Jb=>?_
 ·rw[E7] at h1;clear hg;have hg:=h1.ng;(try walk_nrm);refine len (Hd ?_);refine Am (Am (Au ?_));simp only[ix,Nat.reduceAdd];(iterate 3 (refine Ai fun v W H=>?_;go_simp;refine H _ ?_;clear H W v;try walk_nrm));refine len (Hd ?_);refine Bz (fun _=>stepG_exit rfl) ?_;exact Lk.go (Vo hm h1 h2 _ _ _ _ _ _ _ fun I9 w9 h9 A9=>KD I9 w9 h9 (A1.trans A9))
 ·simp only[F3,C8,Wm,Bq,Tryz.f105,Option.getD_some] at KM;clear hg;have hg:=h1.ng;(try walk_nrm);refine len (Gl (Au ?_));simp only[ix,Nat.reduceAdd];(iterate 3 (refine Ai fun v W H=>?_;go_simp;refine H _ ?_;clear H W v;try walk_nrm));refine Lv hm h1 rfl (fun w c hc=>D9 rfl rfl (by k_ne) rfl (by simp[Act.eval]) En hc) fun I3 w3 h3 A3 M3 W3=>?_;clear hg;have hg:=h3.ng;replace KM:=KM I3 w3 h3 (A1.trans A3) (Nat.lt_of_le_of_lt (A3.v m hm) Jb) M3 W3
  (try walk_nrm);refine Ai fun v W H=>?_;go_simp;refine H _ ?_;clear H W v;(try walk_nrm);refine len ?_;refine Bz (fun _=>stepG_inBlock) ?_;refine Bz (fun _=>stepG_inLoop) ?_
  exact Lk.go (KM _ _)
theorem Ro {co cn:Nat} {c5:Int} (h5:bits .and .i32 (co:Nat) 5=c5) (n5:(c5==0)=false) (n5b:¬c5=0) (hfit:Fit m (upd f m a) a .que) (hs:∀x:MW,x.code=co->∃x',B1 a x .que x'/\x'.code=cn/\x'.q=x.q) (hm:m < 2) (h2:∀k,k < 2->k≠m->f k=.off\/f k=.fresh) (h:In p i y 1 (upd f m a) I) (hne:co≠cn) (hn:I.sk.V p m<=n/\((I.sk.mw m).code=co\/I.sk.V p m < n)) (sv aw:Bool) (wst:Int) (it:Nat) (Ji:Value)
  (KD:∀I' w',In p i y 0 (upd f m (.own 1)) I'->Dp i p I I'->LT top Post i I' w' (G (c.finish (.tuple #[])) cs))
  (KH:∀I' w' sv',In p i y 1 (upd f m .tok) I'->Dp i p I I'->Fe p.b p.W (I'.sk.ml m) (I'.sk.mw m)->p.W<=16->I'.sk.V p m < n->∀(wst':Int) (Jh Ji:Value),Lk top Post i I' w' p m c cs (.int .i64 wst') (.bool sv') (.bool true) (.int .i64 (0:Nat)) (.int .i32 (((I'.sk.mw m).code):Nat)) Jh Ji [.code C8,.inLoop C8,.inBlock 0,.code F3])
  (KM:∀I' w',In p i y 1 (upd f m a) I'->Dp i p I I'->I'.sk.V p m < n->Fe p.b p.W (I'.sk.ml m) (I'.sk.mw m)->p.W<=16->∀Jh Ji:Value,Lk top Post i I' w' p m c cs (.int .i64 wst) (.bool sv) (.bool aw) (.int .i64 (it:Nat)) (.int .i32 (((I'.sk.mw m).code):Nat)) Jh Ji [.code C8,.inLoop C8,.inBlock 0,.code F3]) :
  Lk top Post i I w p m c cs (.int .i64 wst) (.bool sv) (.bool aw) (.int .i64 (it:Nat)) (.int .i32 (co:Nat)) (.int .i32 (cn:Nat)) Ji [.code Ov,.inBlock 1,.inLoop C8,.inBlock 0,.code F3]:=by
 unfold Lk;intros;have hg:=h.ng;simp only[F3];simp only[Af1,Ov,Eo,C8,Wm,Bq,L4,cHd,Hf,cIn,Tryz.f105,Option.getD_some]
 (try walk_nrm);refine Am (Au ?_);simp only[ix,Nat.reduceAdd];(iterate 5 (refine Ai fun v W H=>?_;go_simp;refine H _ ?_;clear H W v;try walk_nrm))
 refine Rk hm h (upd_same _ _ _) hfit hne hs hn rfl rfl (by k_ne) rfl rfl rfl rfl (fun I1 w1 h1 A1 Jb=>?_) fun I1 w1 h1 A1 Jb=>?_
 ·rw[E7] at h1;clear hg;have hg:=h1.ng;(try walk_nrm);refine len (Hd ?_);refine Am (Am (Au ?_));simp only[ix,Nat.reduceAdd];(iterate 3 (refine Ai fun v W H=>?_;go_simp;refine H _ ?_;clear H W v;try walk_nrm));refine len (Gl ?_);refine Gz (Am (Au ?_));simp only[ix,Nat.reduceAdd];(iterate 3 (refine Ai fun v W H=>?_;go_simp;refine H _ ?_;clear H W v;try walk_nrm));refine len (Am ?_);refine Am (Au ?_);simp only[ix,Nat.reduceAdd];refine Ai fun v W H=>?_;go_simp;refine H _ ?_;clear H W v;try walk_nrm
  by_cases hw0:wst=0
  ·have e0:(wst==0)=true:=by rw[hw0];rfl
   clear hw0;refine Ai fun v W H=>?_;go_simp;refine H _ ?_;clear H W v;(try walk_nrm);refine len (Hd (Au ?_));simp only[ix,Nat.reduceAdd];refine Ahq h1 rfl rfl (by k_ne) rfl fun I2 w2 tv h2' A2 _=>?_;clear hg;have hg:=h2'.ng;(try walk_nrm);refine Ai fun v W H=>?_;go_simp;refine H _ ?_;clear H W v;(try walk_nrm);refine len ?_;exact Lk.go (Aof hm h2 h2' _ _ _ _ _ _ _ (fun I9 w9 h9 A9=>KD I9 w9 h9 ((A1.trans A2).trans A9)) fun I9 w9 sv9 h9 A9 M9 W9=>KH I9 w9 sv9 h9 ((A1.trans A2).trans A9) M9 W9 (Nat.lt_of_le_of_lt ((A2.trans A9).v m hm) Jb))
  ·have e0:(wst==0)=false:=by simpa using hw0
   clear hw0;refine Ai fun v W H=>?_;go_simp;refine H _ ?_;clear H W v;(try walk_nrm);refine len (Gl (Gz ?_));exact Lk.go (Aof hm h2 h1 _ _ _ _ _ _ _ (fun I9 w9 h9 A9=>KD I9 w9 h9 (A1.trans A9)) fun I9 w9 sv9 h9 A9 M9 W9=>KH I9 w9 sv9 h9 (A1.trans A9) M9 W9 (Nat.lt_of_le_of_lt (A9.v m hm) Jb))
 ·simp only[F3,C8,Wm,Bq,Tryz.f105,Option.getD_some] at KM;clear hg;have hg:=h1.ng;(try walk_nrm);refine len (Gl (Au ?_));simp only[ix,Nat.reduceAdd];(iterate 3 (refine Ai fun v W H=>?_;go_simp;refine H _ ?_;clear H W v;try walk_nrm));refine Lv hm h1 rfl (fun w c hc=>D9 rfl rfl (by k_ne) rfl (by simp[Act.eval]) En hc) fun I3 w3 h3 A3 M3 W3=>?_;clear hg;have hg:=h3.ng;replace KM:=KM I3 w3 h3 (A1.trans A3) (Nat.lt_of_le_of_lt (A3.v m hm) Jb) M3 W3
  (try walk_nrm);refine Ai fun v W H=>?_;go_simp;refine H _ ?_;clear H W v;(try walk_nrm);refine len ?_;refine Bz (fun _=>stepG_inBlock) ?_;refine Bz (fun _=>stepG_inLoop) ?_
  exact Lk.go (KM _ _)
end
end Go.Proofs.YtbicafgmfgdckaaGreatDoor
