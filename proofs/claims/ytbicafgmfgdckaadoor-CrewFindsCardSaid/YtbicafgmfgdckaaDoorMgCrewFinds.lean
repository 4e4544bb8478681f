/- 'CrewFinds': whatever the input, the call returns true on every schedule, without a data race, and each argument reads as it did; no condition beyond what the statement itself lists. -/
import Derived.Test.YtbicafgmfgdckaaDoorMgBl
import Derived.Test.YtbicafgmfgdckaaDoorMgBm
import Derived.Test.YtbicafgmfgdckaaDoorMgBn
import Derived.Test.YtbicafgmfgdckaaDoorCards
import Derived.Test.YtbicafgmfgdckaaDoorTie
namespace Go.Proofs.YtbicafgmfgdckaaDoor.crewFinds
open Go Go.ChangeShapes Go.WideShapes Go.ChangeAt Go.RowKit Go.Conc Go.ConcM

theorem own:ownKnob Tryd.prog.godebug=none:=by kernel_rfl
theorem laidOut:laidOutB Tryd.prog=true:=by kernel_rfl
theorem oneGlobal:Tryd.prog.globals.size=1:=by kernel_rfl
def End (W:World) (v:Value) (w':World):Prop:=v=.bool true/\(∀b,b < W.heap.size->w'.heap[b]?=W.heap[b]?)/\w'.tape=W.tape/\W.heap.size<=w'.heap.size
theorem good_mono {P:Program} {Q Q':Value->World->Prop} {last:Machine} {o:Outcome} {w:World} {t:Trace} (h:Conc.Good P Q last o w t) (hq:∀v,Q v w->Q' v w):Conc.Good P Q' last o w t:=let ⟨v,e,q,r⟩:=h;⟨v,e,hq v q,r⟩
set_option maxRecDepth 100000 in
theorem runs (H:Type) (enc:TypeId × Value->H) (W:World) (base:Nat) (args:Array Value) (ds gs:List (DataW H)) (before:List MemPlace)
  (hval:∀(j:Nat) t v,Tryd.f4.params[j]?=some t->args[j]?=some v->Value.okWide Tryd.prog W .any base t v)
  (hW:DataW.Whole enc Tryd.prog Tryd.f4.params.toList Rows.crewFindsSpec.vars false W args.toList ds gs before) (hL:laidMetH Tryd.prog Rows.crewFindsRow.laid W) :
  ∃M last o w' t',runNT Tryd.prog (M+1) (solo (G (Frame.enter Tryd.prog 4 args .normal) []) W) #[]=(.ended o w',t')/\runN Tryd.prog M (solo (G (Frame.enter Tryd.prog 4 args .normal) []) W)=.next last /\
   step Tryd.prog last=.ended o w'/\Conc.Good Tryd.prog (fun v W'=>Rows.crewFindsSpec.post enc Tryd.prog Tryd.f4 false true false false W args v { W' with os:=W.os }/\OsLater W.os W'.os) last o w' t':=by
 have hW':=hW
 obtain⟨p,q,hA0,hV,rfl,hfz,hnd⟩:=hW
 have hA:DataW.TrodAll enc Tryd.prog W 0 (fun _=>true) true Tryd.f4.params.toList args.toList ds p:=hA0
 rw[Tryd.params4] at hA hval
 obtain⟨v0,vs0,d0,ds0,p0,q0,hargs,rfl,rfl,h0,r0⟩:=trodAll_cons hA
 obtain⟨v1,vs1,d1,ds1,p1,q1,rfl,rfl,rfl,h1,r1⟩:=trodAll_cons r0
 obtain⟨v2,vs2,d2,ds2,p2,q2,rfl,rfl,rfl,h2,r2⟩:=trodAll_cons r1
 obtain⟨v3,vs3,d3,ds3,p3,q3,rfl,rfl,rfl,h3,r3⟩:=trodAll_cons r2
 obtain⟨rfl,rfl,rfl⟩:=trodAll_nil r3
 obtain rfl:args=#[v0,v1,v2,v3]:=by cases args;simp_all
 obtain⟨rfl,rfl⟩:=trodVars_none hV
 have k0:=h0
 have lt0:∀x∈p0,x.block < W.heap.size:=by obtain⟨m,hm⟩:=k0;exact DataW.trod_lt m _ _ _ hm
 have k1:=h1
 have lt1:∀x∈p1,x.block < W.heap.size:=by obtain⟨m,hm⟩:=k1;exact DataW.trod_lt m _ _ _ hm
 obtain⟨a0,c0,l0,rfl,ht⟩:=arg_texts (hval 0 22 v0 rfl rfl) h0
 obtain⟨id,rfl,hid⟩:=arg_id (hval 1 39 v1 rfl rfl) h1
 obtain⟨a2,rfl,rfl,rfl,w2⟩:=open_int Tryd.underlying3 (hval 2 3 v2 rfl rfl) h2
 obtain⟨a3,rfl,rfl,rfl,w3⟩:=open_int Tryd.underlying3 (hval 3 3 v3 rfl rfl) h3
 clear hA0
 have hK:KTab W:=sha_of_laid (W:=W) hL
 have hpos:0 < W.heap.size:=by
  have:=World.block_lt_of_cell? W _ (hK 0 (by decide))
  dsimp only at this
  omega
 have hO:AllOwn (startG W) W:=fun b hb=>⟨hb,rfl⟩
 have hlive:LV Tryd.prog wgLink.tWg 49 (End W) 0 (startG W) W (G (Frame.enter Tryd.prog 4 #[.slice a0 l0.length c0,.agg (id.map U8).toArray,.int .i64 a2,.int .i64 a3] .normal) []):=by
  rw[enter_at (P:=Tryd.prog) #[.slice a0 l0.length c0,.agg (id.map U8).toArray,.int .i64 a2,.int .i64 a3] Tryd.func4 rfl]
  exact lives_law (start_solo W) (by rw[oneGlobal];exact hpos) (by show 1+48<=49;omega) hK rfl (ht _ hO) hid fun γ' w' s st tp=>⟨rfl,fun b hb=>st.heap b hb rfl,tp,by rw[<- s.hs];exact st.hs⟩
 obtain⟨N,last,o,w',t',e1,e2,e3,e4⟩:=Pact.ends (crew_ok Tryd.prog wgLink.tWg 49 (End W)) (start_inv wgLink.tWg 49 W) (start_tr W) rfl (by show 1<=49;omega) hlive
 refine⟨N,last,o,w',t',e1,e2,e3,good_mono e4 fun v hv=>?_⟩
 obtain⟨⟨rfl,hb,htp,hsz⟩,hos⟩:=hv
 have hos2:w'.output=W.output:=hos.2
 have bel:Below W.heap.size W { w' with os:=W.os }:=⟨rfl,htp,hos2,hsz,hb⟩
 exact⟨⟨_,_,_,[],_,[],hW',trodAll_mk1 (shut_bool Tryd.underlying4 _),(trodAll_cons_mk (Below.trod laidOut (by kernel_rfl) (of_decide_eq_true (by kernel_rfl)) k0 bel lt0) (trodAll_cons_mk (Below.trod laidOut (by kernel_rfl) (of_decide_eq_true (by kernel_rfl)) k1 bel lt1) (trodAll_cons_mk (shut_int Tryd.underlying3 w2) (trodAll_cons_mk (shut_int Tryd.underlying3 w3) trodAll_mk0)))),rfl,bel.frame _,fun h=>by cases h⟩,hos.1⟩
theorem laid_met (os:Os):laidMet Tryd.prog Rows.crewFindsRow.laid ((laidWorld os).forCall (fun _ _=>0) ⟨#[],#[.slice none 0 0,.agg (Array.replicate 32 (.int .u8 0)),.int .i64 0,.int .i64 0],[]⟩).memory :=
 laidMet_of_run' 8 (by kernel_rfl) (by kernel_rfl)
theorem reads (os:Os) {H:Type} (enc:TypeId × Value->H):∃places,DataW.whole enc Tryd.prog ((laidWorld os).forCall (fun _ _=>0) ⟨#[],#[.slice none 0 0,.agg (Array.replicate 32 (.int .u8 0)),.int .i64 0,.int .i64 0],[]⟩).memory Tryd.f4.params.toList Rows.crewFindsSpec.vars false (#[.slice none 0 0,.agg (Array.replicate 32 (.int .u8 0)),.int .i64 0,.int .i64 0]:Array Value).toList 8=some ([.nil,.agg (List.replicate 32 (.lit (.int .u8 0))),.lit (.int .i64 0),.lit (.int .i64 0)],[],places) :=
 ⟨[],by kernel_rfl⟩
set_option maxRecDepth 100000 in
theorem lifted (os:Os) (started:os.Started) (H:Type) (enc:TypeId × Value->H) (F:Stop.Interp) :
  ReturnsInLeavingWide { calm:=true } Tryd.checked os 4 .any ((OpenSpec.ofChange Rows.crewFindsSpec).preRow enc Tryd.prog Tryd.f4 Rows.crewFindsRow.domain false Rows.crewFindsRow.laid) ((OpenSpec.ofChange Rows.crewFindsSpec).postWith enc Tryd.prog Tryd.f4 F (outsideKept [.timePasses]) false true false):=by
 obtain⟨places,hx⟩:=reads os enc
 refine returnsInLeavingWide_of_row_time (C:=Tryd.checked) (s:=Rows.crewFindsSpec) own started Tryd.func4
  (witness_calm_at (enc:=enc) (C:=Tryd.checked) (laidWorld os) #[.slice none 0 0,.agg (Array.replicate 32 (.int .u8 0)),.int .i64 0,.int .i64 0] rfl (by kernel_rfl) (by kernel_rfl) (by kernel_rfl)
   (OpenSpec.preRow_of_cond 8 hx (by kernel_rfl) (fun k hk=>by cases hk) (by kernel_rfl) (laid_met os))) ?_
 intro W base args ds gs before hval hW hL _
 exact runs H enc W base args ds gs before hval hW hL

theorem said:Rows.CrewFindsSaid :=
 OpenClaim.holds_of_wide_leaving_time 4 Tryd.f4 rfl rfl rfl rfl rfl rfl rfl ⟨rfl,rfl,rfl,rfl,rfl⟩ rfl rfl rfl rfl rfl (by kernel_rfl) Tryd.func4 (by kernel_rfl)
  (of_decide_eq_true (by kernel_rfl)) (by unfold Func.isWrapper;first | (rw[if_pos (by decide +kernel)];kernel_rfl) | (rw[if_neg (by decide +kernel)];exact⟨rfl,rfl⟩))
  (fun os started H enc _ F=>by rw[OpenClaim.pre_eq_preRow];exact lifted os started H enc F)

theorem plain (f:FuncId) (fn:Func) (hf:Tryd.pinned.checked.prog.funcNamed "hoard/hoardlaw27.CrewFinds"=some f) (hfn:Tryd.pinned.checked.prog.funcs[f]?=some fn) :
  false=Tryd.pinned.checked.prog.looks []/\∀(j:Nat) t,fn.params[j]?=some t->Tryd.pinned.checked.prog.wantsStandIn t=false:=by
 obtain rfl:f=4:=Option.some.inj ((show Tryd.prog.funcNamed "hoard/hoardlaw27.CrewFinds"=some 4 by kernel_rfl).symm.trans hf) |>.symm
 obtain rfl:fn=Tryd.f4:=(Option.some.inj (Tryd.func4.symm.trans hfn)).symm
 refine⟨by kernel_rfl,fun j t ht=>?_⟩
 rw[Tryd.params4] at ht
 have hm:=Array.mem_of_getElem? ht
 have hall:∀t∈([22,39,3,3]:List TypeId),Tryd.prog.wantsStandIn t=false:=by
  intro t ht
  simp only[List.mem_cons,List.not_mem_nil,or_false] at ht
  rcases ht with rfl|rfl|rfl|rfl
  all_goals kernel_rfl
 exact hall t (by simpa using hm)

theorem crewFinds_card:Rows.CrewFindsCardSaid :=
 tied_goes_at .later _ _ _ _ said (by kernel_rfl) crewFinds_row_tie rfl ⟨rfl,rfl⟩ (by kernel_rfl) rfl plain (by kernel_rfl)
#print axioms crewFinds_card
end Go.Proofs.YtbicafgmfgdckaaDoor.crewFinds
