/- 'CrewAlike': whatever the input, the call returns true on every schedule, without a data race, and each argument reads as it did; no condition beyond what the statement itself lists. -/
import Derived.Test.YtbicafgmfgdckaaGreatDoorMgAz
import Derived.Test.YtbicafgmfgdckaaGreatDoorMgBb
import Derived.Test.YtbicafgmfgdckaaGreatDoorCards
import Derived.Test.YtbicafgmfgdckaaGreatDoorTie
set_option maxRecDepth 100000
set_option maxHeartbeats 16000000
set_option linter.all false
namespace Go.Proofs.YtbicafgmfgdckaaGreatDoor.crewAlike
open Go.Proofs.Tryz
open Go Go.ChangeShapes Go.WideShapes Go.ChangeAt Go.RowKit Go.Conc Go.ConcM
theorem own:ownKnob prog.godebug=none:=by kernel_rfl
theorem laidOut:laidOutB prog=true:=by kernel_rfl
theorem oneGlobal:prog.globals.size=1:=by kernel_rfl
def End (W:World) (v:Value) (w':World):Prop:=v=.bool true/\(∀b,b < W.heap.size->w'.heap[b]?=W.heap[b]?)/\w'.tape=W.tape/\W.heap.size<=w'.heap.size
theorem good_mono {P:Program} {Q Q':Value->World->Prop} {last:Machine} {o:Outcome} {w:World} {t:Trace} (h:Conc.Good P Q last o w t) (hq:∀v,Q v w->Q' v w):Conc.Good P Q' last o w t:=let ⟨v,e,q,r⟩:=h;⟨v,e,hq v q,r⟩
theorem T8 (H:Type) (enc:TypeId × Value->H) (W:World) (base:Nat) (args:Array Value) (ds gs:List (DataW H)) (before:List MemPlace)
  (hval:∀(j:Nat) t v,Tryz.f4.params[j]?=some t->args[j]?=some v->Value.okWide prog W .any base t v)
  (hW:DataW.Whole enc prog Tryz.f4.params.toList Rows.crewAlikeSpec.vars false W args.toList ds gs before) (hL:laidMetH prog Rows.crewAlikeRow.laid W) :
  ∃M last o w' t',runNT prog (M+1) (solo (G (Frame.enter prog 4 args .normal) []) W) #[]=(.ended o w',t')/\runN prog M (solo (G (Frame.enter prog 4 args .normal) []) W)=.next last /\
   step prog last=.ended o w'/\Conc.Good prog (fun v W'=>Rows.crewAlikeSpec.post enc prog Tryz.f4 false true false false W args v { W' with os:=W.os }/\OsLater W.os W'.os) last o w' t':=by
 have hW':=hW;obtain⟨p,q,hA0,hV,rfl,hfz,hnd⟩:=hW;have hA:DataW.TrodAll enc prog W 0 (fun _=>true) true Tryz.f4.params.toList args.toList ds p:=hA0;rw[params4] at hA hval;obtain⟨v0,vs0,d0,ds0,p0,q0,hargs,rfl,rfl,h0,r0⟩:=trodAll_cons hA;obtain⟨v1,vs1,d1,ds1,p1,q1,rfl,rfl,rfl,h1,r1⟩:=trodAll_cons r0;obtain⟨v2,vs2,d2,ds2,p2,q2,rfl,rfl,rfl,h2,r2⟩:=trodAll_cons r1;obtain⟨v3,vs3,d3,ds3,p3,q3,rfl,rfl,rfl,h3,r3⟩:=trodAll_cons r2;obtain⟨v4,vs4,d4,ds4,p4,q4,rfl,rfl,rfl,h4,r4⟩:=trodAll_cons r3;obtain⟨rfl,rfl,rfl⟩:=trodAll_nil r4;obtain rfl:args=#[v0,v1,v2,v3,v4]:=by cases args;simp_all
 obtain⟨rfl,rfl⟩:=trodVars_none hV;have k0:=h0;have lt0:∀x∈p0,x.block < W.heap.size:=by obtain⟨m,hm⟩:=k0;exact DataW.trod_lt m _ _ _ hm
 have k1:=h1;have lt1:∀x∈p1,x.block < W.heap.size:=by obtain⟨m,hm⟩:=k1;exact DataW.trod_lt m _ _ _ hm
 have k2:=h2;have lt2:∀x∈p2,x.block < W.heap.size:=by obtain⟨m,hm⟩:=k2;exact DataW.trod_lt m _ _ _ hm
 obtain⟨L0,M0,K0,W0,s0,rfl⟩:=Alc (hval 0 24 v0 rfl rfl) h0;obtain⟨a1,c1,l1,rfl,ht⟩:=Alb (hval 1 25 v1 rfl rfl) h1;obtain⟨id,rfl,hid⟩:=Aug (hval 2 40 v2 rfl rfl) h2;obtain⟨a3,rfl,rfl,rfl,w3⟩:=open_int underlying3 (hval 3 3 v3 rfl rfl) h3;obtain⟨a4,rfl,rfl,rfl,w4⟩:=open_int underlying3 (hval 4 3 v4 rfl rfl) h4;clear hA0;have hK:C2 W:=Acw (W:=W) hL;have hpos:0 < W.heap.size:=by
  have:=World.block_lt_of_cell? W _ (hK 0 (by decide));dsimp only at this;omega
 have hO:O8 (Sj W) W:=fun b hb=>⟨hb,rfl⟩;have ar:LV prog Gp.tWg 131 (End W) 0 (Sj W) W (G (Frame.enter prog 4 #[Ca L0 M0 K0 W0 s0,.slice a1 l1.length c1,.agg (id.map U8).toArray,.int .i64 a3,.int .i64 a4] .normal) []):=by
  rw[enter_at (P:=prog) #[Ca L0 M0 K0 W0 s0,.slice a1 l1.length c1,.agg (id.map U8).toArray,.int .i64 a3,.int .i64 a4] func4 rfl];exact Akj (Ae7 W) (by rw[oneGlobal];exact hpos) hK rfl (by show 1+130<=131;omega) (ht _ hO) hid fun I' w' s st tp=>⟨rfl,fun b hb=>st.heap b hb rfl,tp,by rw[<- s.hs];exact st.hs⟩
 obtain⟨N,last,o,w',t',e1,e2,e3,e4⟩:=By.ends (Ahz prog Gp.tWg 131 (End W)) (Aix Gp.tWg 131 W) (Amn W) rfl (by show 1<=131;omega) ar;refine⟨N,last,o,w',t',e1,e2,e3,good_mono e4 fun v hv=>?_⟩;obtain⟨⟨rfl,hb,gh,hsz⟩,hos⟩:=hv;have hos2:w'.output=W.output:=hos.2;have bel:Below W.heap.size W { w' with os:=W.os }:=⟨rfl,gh,hos2,hsz,hb⟩;exact⟨⟨_,_,_,[],_,[],hW',trodAll_mk1 (shut_bool underlying4 _),(trodAll_cons_mk (Below.trod laidOut (by kernel_rfl) (of_decide_eq_true (by kernel_rfl)) k0 bel lt0) (trodAll_cons_mk (Below.trod laidOut (by kernel_rfl) (of_decide_eq_true (by kernel_rfl)) k1 bel lt1) (trodAll_cons_mk (Below.trod laidOut (by kernel_rfl) (of_decide_eq_true (by kernel_rfl)) k2 bel lt2) (trodAll_cons_mk (shut_int underlying3 w3) (trodAll_cons_mk (shut_int underlying3 w4) trodAll_mk0))))),rfl,bel.frame _,fun h=>by cases h⟩,hos.1⟩
theorem laid_met (os:Os):laidMet prog Rows.crewAlikeRow.laid ((Sw os).forCall (fun _ _=>0) ⟨#[],#[.agg #[.int .i64 0,.int .i64 0,.int .i64 0,.int .i64 0,.int .u32 0],.slice none 0 0,.agg (Array.replicate 32 (.int .u8 0)),.int .i64 0,.int .i64 0],[]⟩).memory :=
 laidMet_of_run' 8 (by kernel_rfl) (by kernel_rfl)
theorem reads (os:Os) {H:Type} (enc:TypeId × Value->H):∃places,DataW.whole enc prog ((Sw os).forCall (fun _ _=>0) ⟨#[],#[.agg #[.int .i64 0,.int .i64 0,.int .i64 0,.int .i64 0,.int .u32 0],.slice none 0 0,.agg (Array.replicate 32 (.int .u8 0)),.int .i64 0,.int .i64 0],[]⟩).memory Tryz.f4.params.toList Rows.crewAlikeSpec.vars false (#[.agg #[.int .i64 0,.int .i64 0,.int .i64 0,.int .i64 0,.int .u32 0],.slice none 0 0,.agg (Array.replicate 32 (.int .u8 0)),.int .i64 0,.int .i64 0]:Array Value).toList 8=some ([.agg [.lit (.int .i64 0),.lit (.int .i64 0),.lit (.int .i64 0),.lit (.int .i64 0),.lit (.int .u32 0)],.nil,.agg (List.replicate 32 (.lit (.int .u8 0))),.lit (.int .i64 0),.lit (.int .i64 0)],[],places) :=
 ⟨[],by kernel_rfl⟩
theorem lifted (os:Os) (started:os.Started) (H:Type) (enc:TypeId × Value->H) (F:Stop.Interp) :
  ReturnsInLeavingWide { calm:=true } Tryz.checked os 4 .any ((OpenSpec.ofChange Rows.crewAlikeSpec).preRow enc prog Tryz.f4 Rows.crewAlikeRow.domain false Rows.crewAlikeRow.laid) ((OpenSpec.ofChange Rows.crewAlikeSpec).postWith enc prog Tryz.f4 F (outsideKept [.timePasses]) false true false):=by
 obtain⟨places,hx⟩:=reads os enc;refine Gc (C:=Tryz.checked) (s:=Rows.crewAlikeSpec) own started func4
  (T3 (enc:=enc) (C:=Tryz.checked) (Sw os) #[.agg #[.int .i64 0,.int .i64 0,.int .i64 0,.int .i64 0,.int .u32 0],.slice none 0 0,.agg (Array.replicate 32 (.int .u8 0)),.int .i64 0,.int .i64 0] rfl (by kernel_rfl) (by kernel_rfl) (by kernel_rfl)
   (OpenSpec.preRow_of_cond 8 hx (by kernel_rfl) (fun k hk=>by cases hk) (by kernel_rfl) (laid_met os))) ?_
 intro W base args ds gs before hval hW hL _;exact T8 H enc W base args ds gs before hval hW hL
theorem said:Rows.CrewAlikeSaid :=
 OpenClaim.holds_of_wide_leaving_time 4 Tryz.f4 rfl rfl rfl rfl rfl rfl rfl ⟨rfl,rfl,rfl,rfl,rfl⟩ rfl rfl rfl rfl rfl (by kernel_rfl) func4 (by kernel_rfl)
  (of_decide_eq_true (by kernel_rfl)) (by unfold Func.isWrapper;first | (rw[if_pos (by decide +kernel)];kernel_rfl) | (rw[if_neg (by decide +kernel)];exact⟨rfl,rfl⟩))
  (fun os started H enc _ F=>by rw[OpenClaim.pre_eq_preRow];exact lifted os started H enc F)
theorem plain (f:FuncId) (fn:Func) (hf:Tryz.pinned.checked.prog.funcNamed "hoard/hoardlaw27.CrewAlike"=some f) (hfn:Tryz.pinned.checked.prog.funcs[f]?=some fn) :
  false=Tryz.pinned.checked.prog.looks []/\∀(j:Nat) t,fn.params[j]?=some t->Tryz.pinned.checked.prog.wantsStandIn t=false:=by
 obtain rfl:f=4:=Option.some.inj ((show prog.funcNamed "hoard/hoardlaw27.CrewAlike"=some 4 by kernel_rfl).symm.trans hf) |>.symm;obtain rfl:fn=Tryz.f4:=(Option.some.inj (func4.symm.trans hfn)).symm;refine⟨by kernel_rfl,fun j t ht=>?_⟩;rw[params4] at ht;have hm:=Array.mem_of_getElem? ht;have hall:∀t∈([24,25,40,3,3]:List TypeId),prog.wantsStandIn t=false:=by
  intro t ht;simp only[List.mem_cons,List.not_mem_nil,or_false] at ht;rcases ht with rfl|rfl|rfl|rfl|rfl
  all_goals kernel_rfl
 exact hall t (by simpa using hm)
theorem crewAlike_card:Rows.CrewAlikeCardSaid :=
 Aai .later _ _ _ _ said (by kernel_rfl) crewAlike_row_tie rfl ⟨rfl,rfl⟩ (by kernel_rfl) rfl plain (by kernel_rfl)
#print axioms crewAlike_card
end Go.Proofs.YtbicafgmfgdckaaGreatDoor.crewAlike
