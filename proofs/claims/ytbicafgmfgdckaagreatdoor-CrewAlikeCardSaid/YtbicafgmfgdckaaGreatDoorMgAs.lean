/- A piece. -/
import Derived.Test.YtbicafgmfgdckaaGreatDoorMgAr
import Derived.Conc.TokenWalk
set_option maxRecDepth 100000
set_option maxHeartbeats 16000000
set_option linter.all false
namespace Go.Proofs.YtbicafgmfgdckaaGreatDoor
open Go.Proofs.Tryz
open Go Go.RowKit Go.Conc Go.Conc.Lib Go.ConcR.Gen
open Go.ConcR (KK wgBlock WgAt stA smA rd wr mk DC0)
open Go.ConcN (sumTo upd upd_same upd_ne RelBy PermW WgLive)
section
variable {SB:Nat} {tS:TypeId} {mS:Nat × Nat} {top:Nat} {I I' I2:Ab} {p:Ph} {w w' w2:World} {i j k n m y:Nat} {f:Nat->ML} {a b:ML} {Post:Value->World->Prop} {es:Array Event} {g g':Goroutine} {c:Frame} {cs:List Frame}
theorem Wv (h:In p i y 0 f I) (KD:∀I' w',In p i y 0 f I'->Dp i p I I'->(I'.sk.od=true->∃x,I'.sk.took x)->LT top Post i I' w' (G (c.finish (.bool I'.sk.od)) cs)) :
  LT top Post i I w (G ((base 66).at ⟨#[.pointer (some ⟨p.once,0,none⟩)]++Array.replicate 7 undef,[]⟩ [.code (Tryz.f66.body.getD .skip)]) (c::cs)):=by
 have hg:=h.ng;simp only[Tryz.f66,Option.getD_some]
 (try walk_nrm);refine Am (Au ?_);simp only[ix,Nat.reduceAdd];refine Ai fun v W H=>?_;go_simp;refine H _ ?_;clear H W v;(try walk_nrm);refine len (Am (Au ?_));simp only[ix,Nat.reduceAdd];(iterate 3 (refine Ai fun v W H=>?_;go_simp;refine H _ ?_;clear H W v;try walk_nrm))
 refine Arm h rfl (fun w b hc=>stepG_load_atomic rfl rfl (by k_ne) rfl func92 Anv Anx Anu .u32 Anw (by simp[Act.eval]) hc) fun I1 w1 h1 A1 t1=>?_;replace KD:=KD I1 w1 h1 A1 t1;clear hg;have hg:=h1.ng;try walk_nrm
 generalize I1.sk.od=od at *;cases od with
 | true =>
  simp only[if_true]
  (iterate 2 (refine Ai fun v W H=>?_;go_simp;refine H _ ?_;clear H W v;try walk_nrm));refine len ?_;refine Bz (fun _=>stepG_ret') ?_
  exact Ak rfl hg (fun w2=>stepG_leave (v:=.bool true) rfl rfl func66 (by kernel_rfl) (by kernel_rfl)) KD
 | false =>
  simp only[Bool.false_eq_true,if_false]
  (iterate 2 (refine Ai fun v W H=>?_;go_simp;refine H _ ?_;clear H W v;try walk_nrm));refine len ?_;refine Bz (fun _=>stepG_ret') ?_
  exact Ak rfl hg (fun w2=>stepG_leave (v:=.bool false) rfl rfl func66 (by kernel_rfl) (by kernel_rfl)) KD
noncomputable def V1:Array Oper:=match Tryz.f93.body with|some (.region _ ops _)=>ops|_=>#[]
theorem Am5:∀b0 b1 b2 b3 b4 b5:Bool,Region.ready .any V1 #[b0,b1,b2,b3,b4,b5]=[]->(b0&&b1&&b2&&b3&&b4&&b5)=true:=by decide +kernel
theorem Ajg:∀b0 b1 b2 b3 b4 b5:Bool,0∈Region.ready .any V1 #[b0,b1,b2,b3,b4,b5]->(!b0)=true:=by decide +kernel
theorem Ajf:∀b0 b1 b2 b3 b4 b5:Bool,1∈Region.ready .any V1 #[b0,b1,b2,b3,b4,b5]->(!b1&&b0)=true:=by decide +kernel
theorem Aje:∀b0 b1 b2 b3 b4 b5:Bool,2∈Region.ready .any V1 #[b0,b1,b2,b3,b4,b5]->(!b2&&b1)=true:=by decide +kernel
theorem Ajd:∀b0 b1 b2 b3 b4 b5:Bool,3∈Region.ready .any V1 #[b0,b1,b2,b3,b4,b5]->(!b3)=true:=by decide +kernel
theorem Ajc:∀b0 b1 b2 b3 b4 b5:Bool,4∈Region.ready .any V1 #[b0,b1,b2,b3,b4,b5]->(!b4&&b3)=true:=by decide +kernel
theorem Ajb:∀b0 b1 b2 b3 b4 b5:Bool,5∈Region.ready .any V1 #[b0,b1,b2,b3,b4,b5]->(!b5&&b2&&b4)=true:=by decide +kernel
def Avp (p:Ph) (i y:Nat) (f:Nat->ML) (I0:Ab) (m:Nat) (listed:Array Bool) (T:Array Value) (I:Ab) (_:World):Prop :=
 ∃b0 b1 b2 b3 b4 b5:Bool,∃t4 t5 t6 t7 t8 t9:Value,listed=#[b0,b1,b2,b3,b4,b5]/\m=(if b0 then 0 else 1)+(if b1 then 0 else 1)+(if b2 then 0 else 1)+(if b3 then 0 else 1)+(if b4 then 0 else 1)+(if b5 then 0 else 1)/\T=#[.pointer (some ⟨p.once,0,none⟩),.bool true,undef,undef,t4,t5,t6,t7,t8,t9] /\
 (b0=true->t4=(Value.pointer (some ⟨p.once,0,none⟩)))/\(b1=true->t5=(Value.pointer (some ⟨p.once,0,none⟩)))/\(b2=true->t6=(Value.pointer (some ⟨p.once,0,none⟩)))/\(b3=true->t7=(Value.bool true))/\(b4=true->t8=(Value.int .u32 1))/\In p i y 0 (upd f 1 (.own (if b5 then 1 else 2))) I/\Dp i p I0 I/\(b5=false->I.stp=true)
theorem Abc (h2:∀k,k < 2->k≠1->f k=.off\/f k=.fresh) (h:In p i y 0 (upd f 1 (.own 2)) I) (xh:I.stp=true) (hc:c.mode=.returning)
  (KD:∀I' w',In p i y 0 (upd f 1 (.own 1)) I'->Dp i p I I'->LT top Post i I' w' (G c cs)) :
  LT top Post i I w (G ((baseD 93).at ⟨#[.pointer (some ⟨p.once,0,none⟩),.bool true]++Array.replicate 8 undef,[]⟩ [.code (Tryz.f93.body.getD .skip)]) (c::cs)):=by
 have hs:=h.ns;simp only[Tryz.f93,Option.getD_some]
 try walk_nrm
 refine Oy (by kernel_rfl) hs fun t=>?_;refine Sv (Avp p i y f I) (fun listed T I' w h=>?_) (fun m listed T I' w h=>?_) (fun m listed T I' w h l hl rest ac=>?_) _ _ _ _ _ _ ⟨_,_,_,_,_,_,_,_,_,_,_,_,rfl,rfl,rfl,nofun,nofun,nofun,nofun,nofun,(by simpa using h),.refl _ _ _,fun _=>xh⟩
 ·obtain⟨b0,b1,b2,b3,b4,b5,t4,t5,t6,t7,t8,t9,rfl,hm,rfl,q0,q1,q2,q3,q4,hin,hA,hst⟩:=h;obtain rfl:b5=true:=by cases b5 with
   | true=>rfl
   | false=>simp at hm
  simp only[if_true] at hin;have hg:=hin.ng;refine len ?_;refine Bz (fun _=>stepG_end) ?_;exact Ak rfl hg (fun w2=>stepG_leave_deferred (v:=.tuple #[]) rfl rfl func93 (by kernel_rfl) (by kernel_rfl) hc) (KD _ _ hin hA)
 ·obtain⟨b0,b1,b2,b3,b4,b5,t4,t5,t6,t7,t8,t9,rfl,hm,rfl,q0,q1,q2,q3,q4,hin,hA,hst⟩:=h;intro hr;have:=Am5 _ _ _ _ _ _ hr;simp only[Bool.and_eq_true] at this;obtain⟨⟨⟨⟨⟨rfl,rfl⟩,rfl⟩,rfl⟩,rfl⟩,rfl⟩:=this;simp at hm
 ·obtain⟨b0,b1,b2,b3,b4,b5,t4,t5,t6,t7,t8,t9,rfl,hm,rfl,q0,q1,q2,q3,q4,hin,hA,hst⟩:=h;have hg:=hin.ng;have av:l < 6:=by
   have hl':=hl;unfold Region.ready at hl';have:=(List.mem_filter.1 hl').1;simpa using this
  have hl4:l=0\/l=1\/l=2\/l=3\/l=4\/l=5:=by omega
  clear av;rcases hl4 with rfl|rfl|rfl|rfl|rfl|rfl
  ·have hb:=Ajg _ _ _ _ _ _ hl;simp only[Bool.and_eq_true,Bool.not_eq_true'] at hb;obtain rfl:=hb;refine Ai fun v W H=>?_;go_simp;refine H _ ?_;clear H W v;try walk_nrm
   exact ac _ _ _ ⟨_,_,_,_,_,_,_,_,_,_,_,_,rfl,(by simp only[Bool.false_eq_true,if_false,if_true] at hm ⊢;omega),rfl,(fun _=>rfl),q1,q2,q3,q4,hin,hA,hst⟩
  ·have hb:=Ajf _ _ _ _ _ _ hl;simp only[Bool.and_eq_true,Bool.not_eq_true'] at hb;obtain⟨rfl,rfl⟩:=hb;obtain rfl:=q0 rfl;refine Ai fun v W H=>?_;go_simp;refine H _ ?_;clear H W v;try walk_nrm
   exact ac _ _ _ ⟨_,_,_,_,_,_,_,_,_,_,_,_,rfl,(by simp only[Bool.false_eq_true,if_false,if_true] at hm ⊢;omega),rfl,(fun _=>rfl),(fun _=>rfl),q2,q3,q4,hin,hA,hst⟩
  ·have hb:=Aje _ _ _ _ _ _ hl;simp only[Bool.and_eq_true,Bool.not_eq_true'] at hb;obtain⟨rfl,rfl⟩:=hb;obtain rfl:=q1 rfl;refine Ai fun v W H=>?_;go_simp;refine H _ ?_;clear H W v;try walk_nrm
   exact ac _ _ _ ⟨_,_,_,_,_,_,_,_,_,_,_,_,rfl,(by simp only[Bool.false_eq_true,if_false,if_true] at hm ⊢;omega),rfl,q0,(fun _=>rfl),(fun _=>rfl),q3,q4,hin,hA,hst⟩
  ·have hb:=Ajd _ _ _ _ _ _ hl;simp only[Bool.and_eq_true,Bool.not_eq_true'] at hb;obtain rfl:=hb;refine Ai fun v W H=>?_;go_simp;refine H _ ?_;clear H W v;try walk_nrm
   exact ac _ _ _ ⟨_,_,_,_,_,_,_,_,_,_,_,_,rfl,(by simp only[Bool.false_eq_true,if_false,if_true] at hm ⊢;omega),rfl,q0,q1,q2,(fun _=>rfl),q4,hin,hA,hst⟩
  ·have hb:=Ajc _ _ _ _ _ _ hl;simp only[Bool.and_eq_true,Bool.not_eq_true'] at hb;obtain⟨rfl,rfl⟩:=hb;obtain rfl:=q3 rfl;refine Bz (fun _=>Aj (first:=#[]) (caps:=#[]) (vs:=#[.bool true]) rfl rfl (by k_ne) rfl rfl (by simp[Act.eval]) func109 (by kernel_rfl) rfl) ?_;simp only[Tryz.f109,Option.getD_some]
   (try walk_nrm);refine Am (Au ?_);simp only[ix,Nat.reduceAdd];refine Ai fun v W H=>?_;go_simp;refine H _ ?_;clear H W v;(try walk_nrm);refine len (Am ?_);refine Am (Au ?_);simp only[ix,Nat.reduceAdd];refine Ai fun v W H=>?_;go_simp;refine H _ ?_;clear H W v;(try walk_nrm);refine len (Hd ?_);refine Am (Au ?_);simp only[ix,Nat.reduceAdd];refine Ai fun v W H=>?_;go_simp;refine H _ ?_;clear H W v;(try walk_nrm);refine len ?_;refine Bz (fun _=>stepG_ret') ?_
   refine Ak rfl hg (fun w2=>stepG_leave (v:=.int .u32 1) rfl rfl func109 (by kernel_rfl) (by kernel_rfl)) ?_;rw[Frame.finish_at];try walk_nrm
   exact ac _ _ _ ⟨_,_,_,_,_,_,_,_,_,_,_,_,rfl,(by simp only[Bool.false_eq_true,if_false,if_true] at hm ⊢;omega),rfl,q0,q1,q2,(fun _=>rfl),(fun _=>rfl),hin,hA,hst⟩
  ·have hb:=Ajb _ _ _ _ _ _ hl;simp only[Bool.and_eq_true,Bool.not_eq_true'] at hb;obtain⟨⟨rfl,rfl⟩,rfl⟩:=hb;obtain rfl:=q2 rfl;obtain rfl:=q4 rfl;simp only[Bool.false_eq_true,if_false] at hin;refine Ark hin rfl h2 (hst rfl) (fun w u hc hf=>stepG_store_atomic rfl rfl (by k_ne) rfl func108 Ann Anp Anm Ano (by simp[Act.eval]) (by simp[Act.eval]) hc hf) fun I1 w1 h1 A1=>?_;exact ac _ _ _ ⟨_,_,_,_,_,_,_,_,_,_,_,_,rfl,(by simp only[Bool.false_eq_true,if_false,if_true] at hm ⊢;omega),rfl,q0,q1,(fun _=>rfl),q3,(fun _=>rfl),(by simpa using h1),hA.trans A1,nofun⟩
theorem Abd (h2:∀k,k < 2->k≠1->f k=.off\/f k=.fresh) (h:In p i y 0 (upd f 1 (.own 1)) I) (sj:I.sk.od=false) {x:Nat} (hx:I.sk.took x) (hF:I.F i SB) (hH:p.H SB=some (.cells #[.chan (some p.stop)] tS mS))
  (KD:∀I' w',In p i y 0 (upd f 1 (.own 2)) I'->Dp i p I I'->I'.stp=true->LT top Post i I' w' (G (c.finish (.tuple #[])) cs)) :
  LT top Post i I w (G ((base 36).at ⟨#[.pointer (some ⟨SB,0,none⟩)]++Array.replicate 1 undef,[]⟩ [.code (Tryz.f36.body.getD .skip)]) (c::cs)):=by
 have hg:=h.ng;have hs:=h.ns;have ag:=hF;simp only[Tryz.f36,Option.getD_some]
 (try walk_nrm);refine Au ?_;simp only[ix,Nat.reduceAdd]
 refine Yt (ad:=⟨SB,0,none⟩) (v:=.chan (some p.stop)) hs (fun IV wV hrl au=>⟨K6 au ((hrl.live hg).ph _ h.on) ((hrl.live hg).kw.F hF) hH,.inl ⟨_,rfl,rfl,.inr ⟨(hrl.live hg).kw.F ag,rfl⟩⟩⟩) fun v W hcell H=>?_;go_simp;refine H _ ?_ (by simp[go_sem,hcell]);clear H hcell W v;try walk_nrm
 refine Arl h rfl h2 sj hx rfl (fun w s rc hc=>stepG_close rfl rfl (by k_ne) rfl (by simp[Act.eval]) hc (by kernel_rfl)) fun I1 w1 h1 A1 q1=>?_;clear hg;have hg:=h1.ng;(try walk_nrm);refine len ?_;refine Bz (fun _=>stepG_end) ?_;exact Ak rfl hg (fun w2=>stepG_leave (v:=.tuple #[]) rfl rfl func36 (by kernel_rfl) (by kernel_rfl)) (KD _ _ h1 A1 q1)
theorem Abf (h2:∀k,k < 2->k≠1->f k=.off\/f k=.fresh) (h:In p i y 0 (upd f 1 .fresh) I) {x:Nat} (hx:I.sk.took x) (hF:I.F i SB) (hH:p.H SB=some (.cells #[.chan (some p.stop)] tS mS))
  (KD:∀I' w',In p i y 0 (upd f 1 .off) I'->Dp i p I I'->LT top Post i I' w' (G (c.finish (.tuple #[])) cs)) :
  LT top Post i I w (G ((base 67).at ⟨#[.pointer (some ⟨p.once,0,none⟩),.func (.func 36) #[] #[.pointer (some ⟨SB,0,none⟩)]]++Array.replicate 19 undef,[]⟩ [.code (Tryz.f67.body.getD .skip)]) (c::cs)):=by
 have hg:=h.ng;simp only[Tryz.f67,Option.getD_some]
 (try walk_nrm);refine Am (Au ?_);simp only[ix,Nat.reduceAdd];(iterate 3 (refine Ai fun v W H=>?_;go_simp;refine H _ ?_;clear H W v;try walk_nrm));refine Bz (fun _=>Aj (first:=#[]) (caps:=#[]) (vs:=#[.pointer (some ⟨p.once,1,none⟩)]) rfl rfl (by k_ne) rfl rfl (by simp[Act.eval]) func51 (by kernel_rfl) rfl) ?_
 refine Ws (m:=1) (by omega) h2 h fun I4 w4 h4 A4=>?_;rw[Frame.finish_at];clear hg;have hg:=h4.ng;(try walk_nrm);refine len (Am (Au ?_));simp only[ix,Nat.reduceAdd];(iterate 3 (refine Ai fun v W H=>?_;go_simp;refine H _ ?_;clear H W v;try walk_nrm));refine Bz (fun _=>stepG_defer rfl rfl (by k_ne) rfl) ?_;(try walk_nrm);refine len (Am (Au ?_));simp only[ix,Nat.reduceAdd];(iterate 3 (refine Ai fun v W H=>?_;go_simp;refine H _ ?_;clear H W v;try walk_nrm));refine Bz (fun _=>Aj (first:=#[]) (caps:=#[]) (vs:=#[.pointer (some ⟨p.once,0,none⟩)]) rfl rfl (by k_ne) rfl rfl (by simp[Act.eval]) func66 (by kernel_rfl) rfl) ?_;refine Wv h4 fun I5 w5 h5 A5 _=>?_;rw[Frame.finish_at];clear hg;have hg:=h5.ng;try walk_nrm
 obtain⟨od,sj⟩:∃od,I5.sk.od=od:=⟨_,rfl⟩;rw[sj];replace A5:=A4.trans A5;cases od with
 | true =>
  refine Ai fun v W H=>?_;go_simp;refine H _ ?_;clear H W v;(try walk_nrm);refine len (Gl (Gz ?_));refine Bz (fun _=>stepG_end) ?_;refine Bz (fun _=>stepG_unwind_enter rfl func52 (by kernel_rfl) rfl) ?_;refine Fh (m:=1) (by omega) h2 h5 rfl fun I9 w9 h9 A9=>?_;clear hg;have hg:=h9.ng;exact Ak rfl hg (fun w2=>stepG_leave (v:=.tuple #[]) rfl rfl func67 (by kernel_rfl) (by kernel_rfl)) (KD _ _ h9 (A5.trans A9))
 | false =>
  refine Ai fun v W H=>?_;go_simp;refine H _ ?_;clear H W v;(try walk_nrm);refine len (Hd ?_);refine Am (Au ?_);simp only[ix,Nat.reduceAdd];(iterate 3 (refine Ai fun v W H=>?_;go_simp;refine H _ ?_;clear H W v;try walk_nrm));refine Bz (fun _=>stepG_defer rfl rfl (by k_ne) rfl) ?_;(try walk_nrm);refine len (Au ?_);simp only[ix,Nat.reduceAdd];refine Ai fun v W H=>?_;go_simp;refine H _ ?_;clear H W v;(try walk_nrm);refine Bz (fun _=>Aj (first:=#[]) (caps:=#[.pointer (some ⟨SB,0,none⟩)]) (vs:=#[.pointer (some ⟨SB,0,none⟩)]) rfl rfl (by k_ne) rfl rfl (by simp[Act.eval]) func36 (by kernel_rfl) rfl) ?_;refine Abd h2 h5 sj (A5.took x hx) (A5.kw.F hF) hH fun I6 w6 h6 A6 q6=>?_;rw[Frame.finish_at];clear hg;have hg:=h6.ng;(try walk_nrm);refine len ?_;refine Bz (fun _=>stepG_end) ?_;refine Bz (fun _=>stepG_unwind_enter rfl func93 (by kernel_rfl) rfl) ?_;refine Abc h2 h6 q6 rfl fun I7 w7 h7 A7=>?_;clear hg;have hg:=h7.ng;(try walk_nrm);refine Bz (fun _=>stepG_unwind_enter rfl func52 (by kernel_rfl) rfl) ?_;refine Fh (m:=1) (by omega) h2 h7 rfl fun I9 w9 h9 A9=>?_;clear hg;have hg:=h9.ng;exact Ak rfl hg (fun w2=>stepG_leave (v:=.tuple #[]) rfl rfl func67 (by kernel_rfl) (by kernel_rfl)) (KD _ _ h9 (((A5.trans A6).trans A7).trans A9))
theorem Aga (h2:∀k,k < 2->k≠1->f k=.off\/f k=.fresh) (h:In p i y 0 (upd f 1 .fresh) I) {x:Nat} (hx:I.sk.took x) (hF:I.F i SB) (hH:p.H SB=some (.cells #[.chan (some p.stop)] tS mS))
  (KD:∀I' w' a,(a=.off\/a=.fresh)->In p i y 0 (upd f 1 a) I'->Dp i p I I'->LT top Post i I' w' (G (c.finish (.tuple #[])) cs)) :
  LT top Post i I w (G ((base 35).at ⟨#[.pointer (some ⟨p.once,0,none⟩),.func (.func 36) #[] #[.pointer (some ⟨SB,0,none⟩)]]++Array.replicate 10 undef,[]⟩ [.code (Tryz.f35.body.getD .skip)]) (c::cs)):=by
 have hg:=h.ng;simp only[Tryz.f35,Option.getD_some]
 (try walk_nrm);refine Am (Au ?_);simp only[ix,Nat.reduceAdd];(iterate 3 (refine Ai fun v W H=>?_;go_simp;refine H _ ?_;clear H W v;try walk_nrm));refine Bz (fun _=>Aj (first:=#[]) (caps:=#[]) (vs:=#[.pointer (some ⟨p.once,0,none⟩)]) rfl rfl (by k_ne) rfl rfl (by simp[Act.eval]) func66 (by kernel_rfl) rfl) ?_
 refine Wv h fun I5 w5 h5 A5 _=>?_;rw[Frame.finish_at];clear hg;have hg:=h5.ng;try walk_nrm
 generalize I5.sk.od=od at *;cases od with
 | true =>
  refine Ai fun v W H=>?_;go_simp;refine H _ ?_;clear H W v;(try walk_nrm);refine len (Gl (Gz ?_));refine Bz (fun _=>stepG_end) ?_;exact Ak rfl hg (fun w2=>stepG_leave (v:=.tuple #[]) rfl rfl func35 (by kernel_rfl) (by kernel_rfl)) (KD _ _ _ (.inr rfl) h5 A5)
 | false =>
  refine Ai fun v W H=>?_;go_simp;refine H _ ?_;clear H W v;(try walk_nrm);refine len (Hd (Au ?_));simp only[ix,Nat.reduceAdd];(iterate 2 (refine Ai fun v W H=>?_;go_simp;refine H _ ?_;clear H W v;try walk_nrm));refine Bz (fun _=>Aj (first:=#[]) (caps:=#[]) (vs:=#[.pointer (some ⟨p.once,0,none⟩),.func (.func 36) #[] #[.pointer (some ⟨SB,0,none⟩)]]) rfl rfl (by k_ne) rfl rfl (by simp[Act.eval]) func67 (by kernel_rfl) rfl) ?_;refine Abf h2 h5 (A5.took x hx) (A5.kw.F hF) hH fun I6 w6 h6 A6=>?_;rw[Frame.finish_at];clear hg;have hg:=h6.ng;(try walk_nrm);refine len ?_;refine Bz (fun _=>stepG_end) ?_;exact Ak rfl hg (fun w2=>stepG_leave (v:=.tuple #[]) rfl rfl func35 (by kernel_rfl) (by kernel_rfl)) (KD _ _ _ (.inl rfl) h6 (A5.trans A6))
end
section
variable {top:Nat} {I I' I2:Ab} {p:Ph} {w w' w2:World} {i j k n:Nat} {Post:Value->World->Prop} {es:Array Event} {g g':Goroutine}
noncomputable def bot:Frame:={ (default:Frame) with fn:=prog.funcs.size,defers:=[],mode:=.panicking [goexitEntry] }
def skF:Nat->ML:=upd (fun _=>.fresh) 0 .off
theorem Amw:∀k,k < 2->k≠1->skF k=.off\/skF k=.fresh:=by
 intro k hk hk1;obtain rfl:k=0:=by omega
 exact .inl (upd_same _ _ _)
def Job (p:Ph) (top:Nat) (Post:Value->World->Prop) (i:Nat) (I:Ab) (w:World) (f:FuncId) (caps:Array Value):Prop :=
 ∀x I1 w1 c cs fn cd,prog.funcs[f]?=some fn->fn.body=some cd->Kw i I I1->I1.ph=some p->I1.tag i=.busy x->I1.deaf i=0->(∀m,I1.sk.ml m i=.fresh)->x < p.n->Ae Gp.tWg top I1 w1 ->
  (∀I2 w2,Kw i I1 I2->I2.ph=some p->I2.tag i=.idle->I2.deaf i=0->LT top Post i I2 w2 (G (c.finish (.bool true)) cs)) ->
  (∀I2 w2,p.kind=.seek->Kw i I1 I2->In p i x 0 (upd skF 1 .fresh) I2->I2.sk.took x->LT top Post i I2 w2 (G (c.finish (.bool false)) cs)) ->
  LT top Post i I1 w1 (G ((base f).at ⟨#[.int .i64 x]++caps++Array.replicate (fn.ntmps - (#[Value.int .i64 (x:Int)]++caps).size) undef,[]⟩ [.code cd]) (c::cs))
def Aui (p:Ph) (J D i:Nat) (oc sb:Value) (I0:Ab) (w0:World) (m:Nat) (tm:Array Value) (I:Ab) (w:World):Prop :=
 ∃v5 v7 v8 v9 v10 v11 v12 v13 v14 v15:Value,m=p.n - I.next/\tm=#[.pointer (some ⟨p.wg,0,none⟩),.pointer (some ⟨J,0,none⟩),.pointer (some ⟨D,0,none⟩),oc,sb,v5,.chan (some p.jobs),v7,v8,v9,v10,v11,v12,v13,v14,v15]/\I.ph=some p/\I.tag i=.idle/\I.deaf i=0/\Kw i I0 I
theorem Ajq (T:Array Value) (todo:List Item):QuitsD prog 2 0 (G { (baseD 33).at ⟨T,[]⟩ todo with mode:=.returning } [bot]):=by
 refine QuitsD.ctl (g':=G bot []) rfl (fun w=>?_) ?_
 ·simp[G,stepG,unwind,doReturn,results,Frame.at,baseD,bot,func33,Tryz.f33,seen,GStep.after,goexitEntry]
 refine QuitsD.ctl (g':={ G bot [] with status:=.finished }) rfl (fun w=>?_) ⟨rfl,rfl⟩;simp[G,stepG,unwind,bot,goexitEntry,Frame.catches];rfl
theorem Abb {J D:Nat} {f:FuncId} {fn:Func} {cd:Code} {caps:Array Value} {oc sb:Value} {tJ tD:TypeId} {mJ mD:Nat × Nat} (fg:prog.funcs[f]?=some fn) (gq:fn.body=some cd) (hfn:(fn.name == "runtime.NumGoroutine")=false)
  (hp:I.ph=some p) (m7:p.b<=i) (hi0:i≠0) (ht:I.tag i=.idle) (hd:I.deaf i=0) (hJ:I.F i J) (hJH:p.H J=some (.cells #[.chan (some p.jobs)] tJ mJ)) (hD:I.F i D) (hDH:p.H D=some (.cells #[.func (.func f) #[] caps] tD mD)) (hsk:p.kind=.seek->oc=.pointer (some ⟨p.once,0,none⟩)/\∃SB tS mS,sb=.pointer (some ⟨SB,0,none⟩)/\I.F i SB/\p.H SB=some (.cells #[.chan (some p.stop)] tS mS)) (hdo:Job p top Post i I w f caps) :
  LT top Post i I w (G ((baseD 33).at ⟨#[.pointer (some ⟨p.wg,0,none⟩),.pointer (some ⟨J,0,none⟩),.pointer (some ⟨D,0,none⟩),oc,sb]++Array.replicate 11 undef,[]⟩ [.code (Tryz.f33.body.getD .skip)]) [bot]):=by
 have hg:I.tag i≠.gone:=by rw[ht];simp
 have hs:¬(I.tag i).tied:=by rw[ht];exact fun h=>h
 simp only[Tryz.f33,Option.getD_some];walk_nrm;refine Am (Au ?_);simp only[ix,Nat.reduceAdd];refine Bz (fun _=>stepG_defer rfl rfl (by k_ne) rfl) ?_;(try walk_nrm);refine len (Am (Au ?_));simp only[ix,Nat.reduceAdd];have ag:=hJ;refine Yt (ad:=⟨J,0,none⟩) (v:=.chan (some p.jobs)) hs (fun IV wV hrl au=>⟨K6 au ((hrl.live hg).ph _ ⟨hp,.inl hi0⟩) ((hrl.live hg).kw.F hJ) hJH,.inl ⟨_,rfl,rfl,.inr ⟨(hrl.live hg).kw.F ag,rfl⟩⟩⟩) fun v W hcell H=>?_;go_simp;refine H _ ?_ (by simp[go_sem,hcell]);clear H hcell W v;try walk_nrm
 clear ag;refine len ?_;refine Bz (fun _=>stepG_block) ?_;refine Bz (fun _=>stepG_loop) ?_;refine Lw (Aui p J D i oc sb I w) (m:=p.n - I.next) ⟨_,_,_,_,_,_,_,_,_,_,rfl,rfl,hp,ht,hd,.refl _ _⟩ fun m ih tm I1 w1 h=>?_;clear ht hg hs hp hd;obtain⟨v5,v7,v8,v9,v10,v11,v12,v13,v14,v15,rfl,rfl,hp,ht,hd,ji⟩:=h;have hg:I1.tag i≠.gone:=by rw[ht];simp
 refine Am (Au ?_);simp only[ix,Nat.reduceAdd];refine Im (cases:=#[rcase p.jobs (.int .i64 0)]) (blocking:=true) (shape:=.recv true) rfl rfl (by k_ne) hg (fun _=>by kernel_rfl) (fun _=>by kernel_rfl) (fun I2 w2 hrl hI=>.idle p _ ((hrl.live hg).ph _ ⟨hp,.inl hi0⟩) m7 (hrl.tag.trans ht) rfl rfl) fun I2 w2 hrl hI kk v ok I3 w3 hR bq=>?_;have hp2:=(hrl.live hg).ph _ ⟨hp,.inl hi0⟩;have ht2:=hrl.tag.trans ht;have hd2:=hrl.deaf.trans hd;have gm:=ji.trans (hrl.live hg).kw;have gj:I1.next<=I2.next:=(hrl.live hg).next _ ⟨hp,.inl hi0⟩
 rw[show commResult #[rcase p.jobs (.int .i64 0)] (.recv true) kk v ok=.tuple #[v,.bool ok] from rfl];rcases Ad8 hR hI hp2 ht2 with⟨rfl,rfl,rfl,hlt,s,rfl⟩|⟨rfl,rfl,rfl⟩
 ·obtain⟨x,hx⟩:∃x,I2.next=x:=⟨_,rfl⟩
  have bg:(I2.pass p i).tag i=.busy x:=by rw[<- hx];exact upd_same _ _ _
  have hd3:(I2.pass p i).deaf i=0:=hd2;have hml3:∀m,(I2.pass p i).sk.ml m i=.fresh:=fun m=>if_pos rfl;have ld:(I2.pass p i).next=x+1:=by show I2.next+1=_;rw[hx]
  have fq:=gm.trans (Arw I2 p i);have ax:(I2.pass p i).ph=some p:=hp2;rw[hx] at hlt gj ⊢;generalize I2.pass p i=I4,w2.setChan p.jobs 0 #[] false s s false=w4 at fq bg hd3 ld ax bq hml3 ⊢;clear hR hrl hp2 ht2 hd2 gm hI hx hg hp ht hd ji;have hg:I4.tag i≠.gone:=by rw[bg];simp
  have hs:¬(I4.tag i).tied:=by rw[bg];exact fun h=>h
  walk_nrm;refine Ai fun v W H=>?_;go_simp;refine H _ ?_;clear H W v;(try walk_nrm);refine len (Am ?_);refine Hd (Gz ?_);refine Bz (fun _=>stepG_block) ?_;refine Am (Au ?_);simp only[ix,Nat.reduceAdd];(iterate 2 (refine Ai fun v W H=>?_;go_simp;refine H _ ?_;clear H W v;try walk_nrm));refine len (Am (Au ?_));simp only[ix,Nat.reduceAdd];have ag:=fq.F hD;refine Yt (ad:=⟨D,0,none⟩) (v:=.func (.func f) #[] caps) hs (fun IV wV hrl au=>⟨K6 au ((hrl.live hg).ph _ ⟨ax,.inl hi0⟩) ((hrl.live hg).kw.F ag) hDH,.inl ⟨_,rfl,rfl,.inr ⟨(hrl.live hg).kw.F ag,rfl⟩⟩⟩) fun v W hcell H=>?_;go_simp;refine H _ ?_ (by simp[go_sem,hcell]);clear H hcell W v;try walk_nrm
  refine Ai fun v W H=>?_;go_simp;refine H _ ?_;clear H W v;(try walk_nrm);refine Bz (fun _=>Aj (vs:=#[.int .i64 x]++caps) rfl rfl (by k_ne) rfl rfl (by simp[Act.eval]) fg hfn gq) ?_;refine hdo x I4 w4 _ _ fn cd fg gq fq ax bg hd3 hml3 hlt bq (fun I5 w5 dv ko ij qc=>?_) fun I5 w5 ie dv hin tk=>?_
  ·have hlt5:p.n - I5.next < p.n - I1.next:=by have:=dv.next _ ⟨ax,.inl hi0⟩;omega
   replace dv:=fq.trans dv;clear hg hs fq ax bg hd3 bq ld ag;have hg:I5.tag i≠.gone:=by rw[ij];simp
   rw[Frame.finish_at];walk_nrm;refine Ai fun v W H=>?_;go_simp;refine H _ ?_;clear H W v;(try walk_nrm);refine len (Gl (Gz ?_));refine Bz (fun _=>stepG_inBlock) ?_;refine Bz (fun _=>stepG_inLoop) ?_;exact ih _ hlt5 _ _ _ ⟨_,_,_,_,_,_,_,_,_,_,rfl,rfl,ko,ij,qc,dv⟩
  ·have hlt5:p.n - I5.next < p.n - I1.next:=by have:=dv.next _ ⟨ax,.inl hi0⟩;omega
   replace dv:=fq.trans dv;clear hg hs fq ax bg hd3 bq ld ag;obtain⟨rfl,SB,tS,mS,rfl,hSF,hSH⟩:=hsk ie;have hg:I5.tag i≠.gone:=hin.ng;rw[Frame.finish_at];walk_nrm;refine Ai fun v W H=>?_;go_simp;refine H _ ?_;clear H W v;(try walk_nrm);refine len (Hd (Au ?_));simp only[ix,Nat.reduceAdd];refine Ai fun v W H=>?_;go_simp;refine H _ ?_ (by first | (simp[go_sem];done) | rfl|kernel_rfl);clear H W v;(try walk_nrm);refine Bz (fun _=>Aj (first:=#[]) (caps:=#[]) (vs:=#[.pointer (some ⟨p.once,0,none⟩),.func (.func 36) #[] #[.pointer (some ⟨SB,0,none⟩)]]) rfl rfl (by k_ne) rfl rfl (by simp[Act.eval]) func35 (by kernel_rfl) rfl) ?_;refine Aga Amw hin tk (dv.F hSF) hSH fun I6 w6 a6 ha6 h6 A6=>?_;rw[Frame.finish_at];clear hg;have hg:=h6.ng;try walk_nrm
   refine Zu h6 rfl (fun k hk=>?_) (fun _=>A6.took _ tk) (fun w=>stepG_region_end) fun I7 w7 td mq jp lq=>?_
   ·by_cases q:k=1
    ·subst q;rw[upd_same];exact ha6
    ·rw[upd_ne _ _ q];exact Amw k hk q
   have hlt7:p.n - I7.next < p.n - I1.next:=by have:=(A6.kw.trans td).next _ hin.on;omega
   replace dv:=dv.trans (A6.kw.trans td);clear hg;have hg:I7.tag i≠.gone:=by rw[jp];simp
   (try walk_nrm);refine Bz (fun _=>stepG_inBlock) ?_;refine Bz (fun _=>stepG_inLoop) ?_
   exact ih _ hlt7 _ _ _ ⟨_,_,_,_,_,_,_,_,_,_,rfl,rfl,mq,jp,lq,dv⟩
 ·have bg:(I2.setTag i .out).tag i=.out:=upd_same _ _ _;have hd3:(I2.setTag i .out).deaf i=0:=hd2;have fq:=gm.trans (At4 I2 i .out);have ax:(I2.setTag i .out).ph=some p:=hp2;generalize I2.setTag i .out=I4 at fq bg hd3 ax bq ⊢;clear hR hrl hp2 ht2 hd2 gm hI hg hp ht hd ji gj ih hdo;have hg:I4.tag i≠.gone:=by rw[bg];simp
  walk_nrm;refine Ai fun v W H=>?_;go_simp;refine H _ ?_;clear H W v;(try walk_nrm);refine len (Am (Gl ?_));refine Bz (fun _=>stepG_exit rfl) ?_;refine Bz (fun _=>stepG_end) ?_;refine Bz (fun _=>stepG_unwind_enter rfl func34 (nm_done Gp) rfl) ?_;have hJ4:=fq.F hJ;exact Agf (qt:=2) Ab1 ax m7 bg hd3 bq hJ4 (K6 bq ax hJ4 hJH) rfl (Ajq _ _)
end
end Go.Proofs.YtbicafgmfgdckaaGreatDoor
