/- 'CrewCuts': whatever the input, the call returns true on every schedule, without a data race, and each argument reads as it did; no condition beyond what the statement itself lists. -/
import Derived.Test.YtbicafgmfgdckaaGreatDoorMgBn
import Derived.Test.YtbicafgmfgdckaaGreatDoorMgBp
import Derived.Test.YtbicafgmfgdckaaGreatDoorCards
import Derived.Test.YtbicafgmfgdckaaGreatDoorTie
namespace Go.Proofs.YtbicafgmfgdckaaGreatDoor.crewCuts
open Go Go.ChangeShapes Go.WideShapes Go.ChangeAt Go.RowKit Go.Conc Go.ConcM

theorem own : ownKnob Tryz.prog.godebug = none := by kernel_rfl
theorem laidOut : laidOutB Tryz.prog = true := by kernel_rfl
theorem oneGlobal : Tryz.prog.globals.size = 1 := by kernel_rfl
def End (W : World) (v : Value) (w' : World) : Prop := v = .bool true /\ (∀ b, b < W.heap.size -> w'.heap[b]? = W.heap[b]?) /\ w'.tape = W.tape /\ W.heap.size <= w'.heap.size
theorem good_mono {P : Program} {Q Q' : Value -> World -> Prop} {last : Machine} {o : Outcome} {w : World} {t : Trace} (h : Conc.Good P Q last o w t) (hq : ∀ v, Q v w -> Q' v w) : Conc.Good P Q' last o w t := let ⟨v, e, q, r⟩ := h; ⟨v, e, hq v q, r⟩
set_option maxRecDepth 100000 in
theorem runs (H : Type) (enc : TypeId × Value -> H) (W : World) (base : Nat) (args : Array Value) (ds gs : List (DataW H)) (before : List MemPlace)
  (hval : ∀ (j : Nat) t v, Tryz.f3.params[j]? = some t -> args[j]? = some v -> Value.okWide Tryz.prog W .any base t v)
  (hW : DataW.Whole enc Tryz.prog Tryz.f3.params.toList Rows.crewCutsSpec.vars false W args.toList ds gs before) (hL : laidMetH Tryz.prog Rows.crewCutsRow.laid W) :
  ∃ M last o w' t', runNT Tryz.prog (M + 1) (solo (G (Frame.enter Tryz.prog 3 args .normal) []) W) #[] = (.ended o w', t') /\ runN Tryz.prog M (solo (G (Frame.enter Tryz.prog 3 args .normal) []) W) = .next last /\
   step Tryz.prog last = .ended o w' /\ Conc.Good Tryz.prog (fun v W' => Rows.crewCutsSpec.post enc Tryz.prog Tryz.f3 false true false false W args v { W' with os := W.os } /\ OsLater W.os W'.os) last o w' t' := by
 have hW' := hW
 obtain ⟨p, q, hA0, hV, rfl, hfz, hnd⟩ := hW
 have hA : DataW.TrodAll enc Tryz.prog W 0 (fun _ => true) true Tryz.f3.params.toList args.toList ds p := hA0
 rw [Tryz.params3] at hA hval
 obtain ⟨v0, vs0, d0, ds0, p0, q0, hargs, rfl, rfl, h0, r0⟩ := trodAll_cons hA
 obtain ⟨v1, vs1, d1, ds1, p1, q1, rfl, rfl, rfl, h1, r1⟩ := trodAll_cons r0
 obtain ⟨v2, vs2, d2, ds2, p2, q2, rfl, rfl, rfl, h2, r2⟩ := trodAll_cons r1
 obtain ⟨rfl, rfl, rfl⟩ := trodAll_nil r2
 obtain rfl : args = #[v0, v1, v2] := by cases args; simp_all
 obtain ⟨rfl, rfl⟩ := trodVars_none hV
 have k0 := h0
 have lt0 : ∀ x ∈ p0, x.block < W.heap.size := by obtain ⟨m, hm⟩ := k0; exact DataW.trod_lt m _ _ _ hm
 have k1 := h1
 have lt1 : ∀ x ∈ p1, x.block < W.heap.size := by obtain ⟨m, hm⟩ := k1; exact DataW.trod_lt m _ _ _ hm
 obtain ⟨L0, M0, K0, W0, s0, rfl⟩ := arg_shape (hval 0 24 v0 rfl rfl) h0
 obtain ⟨a1, c1, l1, rfl, ht⟩ := arg_texts (hval 1 25 v1 rfl rfl) h1
 obtain ⟨a2, rfl, rfl, rfl, w2⟩ := open_int Tryz.underlying3 (hval 2 3 v2 rfl rfl) h2
 clear hA0
 have hK : KTab W := sha_of_laid (W := W) hL
 have hpos : 0 < W.heap.size := by
  have := World.block_lt_of_cell? W _ (hK 0 (by decide))
  dsimp only at this
  omega
 have hO : AllOwn (startG W) W := fun b hb => ⟨hb, rfl⟩
 have hlive : LV Tryz.prog wgLink.tWg 49 (End W) 0 (startG W) W (G (Frame.enter Tryz.prog 3 #[shapeV L0 M0 K0 W0 s0, .slice a1 l1.length c1, .int .i64 a2] .normal) []) := by
  rw [enter_at (P := Tryz.prog) #[shapeV L0 M0 K0 W0 s0, .slice a1 l1.length c1, .int .i64 a2] Tryz.func3 rfl]
  exact lives_law (start_solo W) (by rw [oneGlobal]; exact hpos) (by show 1 + 48 <= 49; omega) hK rfl (ht _ hO) fun γ' w' s st tp => ⟨rfl, fun b hb => st.heap b hb rfl, tp, by rw [<- s.hs]; exact st.hs⟩
 obtain ⟨N, last, o, w', t', e1, e2, e3, e4⟩ := Pact.ends (crew_ok Tryz.prog wgLink.tWg 49 (End W)) (start_inv wgLink.tWg 49 W) (start_tr W) rfl (by show 1 <= 49; omega) hlive
 refine ⟨N, last, o, w', t', e1, e2, e3, good_mono e4 fun v hv => ?_⟩
 obtain ⟨⟨rfl, hb, htp, hsz⟩, hos⟩ := hv
 have hos2 : w'.output = W.output := hos.2
 have bel : Below W.heap.size W { w' with os := W.os } := ⟨rfl, htp, hos2, hsz, hb⟩
 exact ⟨⟨_, _, _, [], _, [], hW', trodAll_mk1 (shut_bool Tryz.underlying4 _), (trodAll_cons_mk (Below.trod laidOut (by kernel_rfl) (of_decide_eq_true (by kernel_rfl)) k0 bel lt0) (trodAll_cons_mk (Below.trod laidOut (by kernel_rfl) (of_decide_eq_true (by kernel_rfl)) k1 bel lt1) (trodAll_cons_mk (shut_int Tryz.underlying3 w2) trodAll_mk0))), rfl, bel.frame _, fun h => by cases h⟩, hos.1⟩
theorem laid_met (os : Os) : laidMet Tryz.prog Rows.crewCutsRow.laid ((laidWorld os).forCall (fun _ _ => 0) ⟨#[], #[.agg #[.int .i64 0, .int .i64 0, .int .i64 0, .int .i64 0, .int .u32 0], .slice none 0 0, .int .i64 0], []⟩).memory :=
 laidMet_of_run' 8 (by kernel_rfl) (by kernel_rfl)
theorem reads (os : Os) {H : Type} (enc : TypeId × Value -> H) : ∃ places, DataW.whole enc Tryz.prog ((laidWorld os).forCall (fun _ _ => 0) ⟨#[], #[.agg #[.int .i64 0, .int .i64 0, .int .i64 0, .int .i64 0, .int .u32 0], .slice none 0 0, .int .i64 0], []⟩).memory Tryz.f3.params.toList Rows.crewCutsSpec.vars false (#[.agg #[.int .i64 0, .int .i64 0, .int .i64 0, .int .i64 0, .int .u32 0], .slice none 0 0, .int .i64 0] : Array Value).toList 8 = some ([.agg [.lit (.int .i64 0), .lit (.int .i64 0), .lit (.int .i64 0), .lit (.int .i64 0), .lit (.int .u32 0)], .nil, .lit (.int .i64 0)], [], places) :=
 ⟨[], by kernel_rfl⟩
set_option maxRecDepth 100000 in
theorem lifted (os : Os) (started : os.Started) (H : Type) (enc : TypeId × Value -> H) (F : Stop.Interp) :
  ReturnsInLeavingWide { calm := true } Tryz.checked os 3 .any ((OpenSpec.ofChange Rows.crewCutsSpec).preRow enc Tryz.prog Tryz.f3 Rows.crewCutsRow.domain false Rows.crewCutsRow.laid) ((OpenSpec.ofChange Rows.crewCutsSpec).postWith enc Tryz.prog Tryz.f3 F (outsideKept [.timePasses]) false true false) := by
 obtain ⟨places, hx⟩ := reads os enc
 refine returnsInLeavingWide_of_row_time (C := Tryz.checked) (s := Rows.crewCutsSpec) own started Tryz.func3
  (witness_calm_at (enc := enc) (C := Tryz.checked) (laidWorld os) #[.agg #[.int .i64 0, .int .i64 0, .int .i64 0, .int .i64 0, .int .u32 0], .slice none 0 0, .int .i64 0] rfl (by kernel_rfl) (by kernel_rfl) (by kernel_rfl)
   (OpenSpec.preRow_of_cond 8 hx (by kernel_rfl) (fun k hk => by cases hk) (by kernel_rfl) (laid_met os))) ?_
 intro W base args ds gs before hval hW hL _
 exact runs H enc W base args ds gs before hval hW hL

theorem said : Rows.CrewCutsSaid :=
 OpenClaim.holds_of_wide_leaving_time 3 Tryz.f3 rfl rfl rfl rfl rfl rfl rfl ⟨rfl, rfl, rfl, rfl, rfl⟩ rfl rfl rfl rfl rfl (by kernel_rfl) Tryz.func3 (by kernel_rfl)
  (of_decide_eq_true (by kernel_rfl)) (by unfold Func.isWrapper; first | (rw [if_pos (by decide +kernel)]; kernel_rfl) | (rw [if_neg (by decide +kernel)]; exact ⟨rfl, rfl⟩))
  (fun os started H enc _ F => by rw [OpenClaim.pre_eq_preRow]; exact lifted os started H enc F)

theorem plain (f : FuncId) (fn : Func) (hf : Tryz.pinned.checked.prog.funcNamed "hoard/hoardlaw27.CrewCuts" = some f) (hfn : Tryz.pinned.checked.prog.funcs[f]? = some fn) :
  false = Tryz.pinned.checked.prog.looks [] /\ ∀ (j : Nat) t, fn.params[j]? = some t -> Tryz.pinned.checked.prog.wantsStandIn t = false := by
 obtain rfl : f = 3 := Option.some.inj ((show Tryz.prog.funcNamed "hoard/hoardlaw27.CrewCuts" = some 3 by kernel_rfl).symm.trans hf) |>.symm
 obtain rfl : fn = Tryz.f3 := (Option.some.inj (Tryz.func3.symm.trans hfn)).symm
 refine ⟨by kernel_rfl, fun j t ht => ?_⟩
 rw [Tryz.params3] at ht
 have hm := Array.mem_of_getElem? ht
 have hall : ∀ t ∈ ([24, 25, 3] : List TypeId), Tryz.prog.wantsStandIn t = false := by
  intro t ht
  simp only [List.mem_cons, List.not_mem_nil, or_false] at ht
  rcases ht with rfl | rfl | rfl
  all_goals kernel_rfl
 exact hall t (by simpa using hm)

theorem crewCuts_card : Rows.CrewCutsCardSaid :=
 tied_goes_at .later _ _ _ _ said (by kernel_rfl) crewCuts_row_tie rfl ⟨rfl, rfl⟩ (by kernel_rfl) rfl plain (by kernel_rfl)
#print axioms crewCuts_card
end Go.Proofs.YtbicafgmfgdckaaGreatDoor.crewCuts
