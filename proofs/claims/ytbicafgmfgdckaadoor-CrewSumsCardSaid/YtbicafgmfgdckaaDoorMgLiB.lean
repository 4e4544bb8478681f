/- A deferred 'close' of a channel. For any program. The crew's pact: a goroutine stands at a communication; the close. For any program. The crew's pact: a region that draws its order. For any program. The crew's pact: main by itself, between phases. For any program. The crew's pact: main returns. For any program. -/
import Derived.Test.YtbicafgmfgdckaaDoorMgLiA
import Derived.Conc.DeferLaws
import Derived.Conc.EventLaws
import Derived.Conc.CrowdComm
import Derived.Conc.EntryLaws
import Derived.Conc.CompanyDraw
import Derived.Conc.Own2
import Derived.Conc.Own3
namespace Go.Proofs.YtbicafgmfgdckaaDoor
open Go Go.Conc
section
variable {P : Program} {main : Bool} {b : Frame} {a : Act} {k : List Item} {cs : List Frame} {w : World}
def dclose (ats : Array TypeId) (ty : TypeId) (consts : Array Bool) (v : Value) : Deferred := { target := .builtin .close ats ty consts, args := #[v] }
theorem stepG_defer_close {ops : Array Oper} {i : Nat} {rest : List Nat} {o : Oper} {x : Nat} {ats : Array TypeId} (ho : ops[i]? = some o) (hw : Region.wanted o (yielded ops a.tmps) = true) (hk : b.kind ≠ .early)
    (hop : o.op = .defer { callee := .builtin .close, args := #[.tmp x], argTypes := ats }) :
    stepG P main (G (b.at a (.inRegion ops (i :: rest) :: k)) cs) w = .go (G (b.at (Act.put ⟨a.tmps, dclose ats o.type #[false] (a.eval (.tmp x)) :: a.defers⟩ o.dst undef) (.inRegion ops rest :: k)) cs) w #[] := by
  have hr : (execOp a.eval o).run P w = .ok (.defer (dclose ats o.type #[false] (a.eval (.tmp x)))) w := by
    unfold execOp
    simp [hop, resolve, dclose]
  have he : (execOp a.eval o).events P w #[] = #[] := by
    unfold execOp
    simp [hop, resolve]
  have hfin : (b.at ⟨a.tmps, dclose ats o.type #[false] (a.eval (.tmp x)) :: a.defers⟩ (.inRegion ops (i :: rest) :: k)).finish undef = b.at (Act.put ⟨a.tmps, dclose ats o.type #[false] (a.eval (.tmp x)) :: a.defers⟩ o.dst undef) (.inRegion ops rest :: k) := by rw [Frame.finish_at, ho]; rfl
  have hk' : (b.kind == CallKind.early) = false := by simpa using hk
  rw [stepG_oper ho hw, ← hfin]
  simp [stepG.apply, hr, he, G, Frame.at, hk', GStep.after, seen_none]
theorem stepG_unwind_close {todo : List Item} {ds : List Deferred} {ats : Array TypeId} {ty : TypeId} {consts : Array Bool} {r room s rc : Nat} {buf : Array Value} {tm : Bool} (hd : a.defers = dclose ats ty consts (.chan (some r)) :: ds)
    (h : w.heap[r]? = some (.chan room buf false s rc tm)) :
    stepG P main (G { b.at a todo with mode := .returning } cs) w = .go (G { b.at ⟨a.tmps, ds⟩ todo with mode := .returning } cs) (w.setChan r room buf true s rc tm) #[⟨.obj r, false, true⟩, ⟨.obj r, true, true⟩] := by
  have hr : (builtin .close ats ty consts #[.chan (some r)]).run P w = .ok (.value (.tuple #[])) (w.setChan r room buf true s rc tm) := by
    show (do pure (Next.value (← Builtin.close_ ats ty #[.chan (some r)])) : Sem Next).run P w = _
    simp [run_close_open ats ty h]
    rfl
  have he : (builtin .close ats ty consts #[.chan (some r)]).events P w #[] = #[⟨.obj r, false, true⟩, ⟨.obj r, true, true⟩] := by
    show (do pure (Next.value (← Builtin.close_ ats ty #[.chan (some r)])) : Sem Next).events P w #[] = _
    simp [run_close_open ats ty h, events_close_open ats ty h]
  have hs : seen P b.fn #[⟨.obj r, false, true⟩, ⟨.obj r, true, true⟩] = #[⟨.obj r, false, true⟩, ⟨.obj r, true, true⟩] := by
    rw [seen_def, seen_fold_sync _ _ _ _ (fun x hx => by
      simp only [List.mem_cons, List.not_mem_nil, or_false] at hx
      rcases hx with rfl | rfl <;> exact ⟨rfl, fun g h => by cases h⟩)]
    rfl
  simp [G, stepG, unwind, callDeferred, Frame.at, hd, dclose, invoke, hr, he, hs, GStep.after]
/-- The call of a function value: its first arguments, the arguments, what it holds. -/
theorem stepG_callv {ops : Array Oper} {i : Nat} {rest : List Nat} {o : Oper} {f : FuncId} {fn : Func} {c : Code} {x : Operand} {args : Array Operand} {ats : Array TypeId} {first caps : Array Value}
    (ho : ops[i]? = some o) (hw : Region.wanted o (yielded ops a.tmps) = true) (hk : b.kind ≠ .early) (hop : o.op = .call { callee := .value x, args, argTypes := ats }) (hx : a.eval x = .func (.func f) first caps)
    {vs : Array Value} (hvs : first ++ args.map a.eval ++ caps = vs) (hf : P.funcs[f]? = some fn) (hname : (fn.name == "runtime.NumGoroutine") = false) (hb : fn.body = some c) :
    stepG P main (G (b.at a (.inRegion ops (i :: rest) :: k)) cs) w = .go (G ((base f).at { tmps := vs ++ Array.replicate (fn.ntmps - vs.size) undef, defers := [] } [.code c]) (b.at a (.inRegion ops (i :: rest) :: k) :: cs)) w #[] := by
  subst hvs
  have h1 : ¬ fn.name = "runtime.NumGoroutine" := by simpa using hname
  have hr : (execOp a.eval o).run P w = .ok (.enter f (first ++ args.map a.eval ++ caps)) w := by
    unfold execOp
    simp [hop, resolve, Deferred.ofValue, hx, invoke, callFunc, hf, h1, hb]
  have he : (execOp a.eval o).events P w #[] = #[] := by
    unfold execOp
    simp [hop, resolve, Deferred.ofValue, hx, invoke, callFunc, hf, h1, hb]
  rw [stepG_enter ho hw hk hr, enter_at _ hf hb]
  have : listed P b.fn a o w = #[] := by unfold listed; rw [he]; exact seen_none P _
  rw [this]
/-- The call of a function, its frame as it is entered. -/
theorem stepG_callE {ops : Array Oper} {i : Nat} {rest : List Nat} {o : Oper} {f : FuncId} {fn : Func} {args : Array Operand} {ats : Array TypeId}
    (ho : ops[i]? = some o) (hw : Region.wanted o (yielded ops a.tmps) = true) (hk : b.kind ≠ .early) (hop : o.op = .call { callee := .value (.func f), args, argTypes := ats }) {vs : Array Value} (hvs : args.map a.eval = vs)
    (hf : P.funcs[f]? = some fn) (hname : (fn.name == "runtime.NumGoroutine") = false) (hb : fn.body.isNone = false) :
    stepG P main (G (b.at a (.inRegion ops (i :: rest) :: k)) cs) w = .go (G (Frame.enter P f vs .normal) (b.at a (.inRegion ops (i :: rest) :: k) :: cs)) w #[] := by
  subst hvs
  rw [stepG_enter ho hw hk (run_call_body hop hf hname hb)]
  have : listed P b.fn a o w = #[] := by unfold listed; rw [events_call_body hop hf hname hb]; exact seen_none P _
  rw [this]
end
end Go.Proofs.YtbicafgmfgdckaaDoor
namespace Go.Proofs.YtbicafgmfgdckaaDoor
open Go Go.Conc
open Go.ConcR (KK wgBlock WgAt stA smA rd wr mk DC0)
open Go.ConcN (sumTo upd upd_same upd_ne RelBy PermW WgLive)

section
variable {ty : TypeId} {top : Nat} {γ γ' γ2 : Gho} {p : Ph} {w w' w2 : World} {i j n : Nat} {P : Program} {Post : Value → World → Prop} {es : Array Event} {g g' : Goroutine} {b : Frame} {a : Act} {k : List Item} {cs : List Frame}
theorem lives_comm {ops : Array Oper} {l : Nat} {rest : List Nat} {o : Oper} {cases : Array CommCase} {blocking : Bool} {shape : CommShape} (ho : ops[l]? = some o) (hw : Region.wanted o (yielded ops a.tmps) = true) (hk : b.kind ≠ .early) (ht : γ.tag i ≠ .gone)
    (hr : ∀ w2, (execOp a.eval o).run P w2 = .ok (.comm cases blocking shape) w2) (he : ∀ w2, (execOp a.eval o).events P w2 #[] = #[]) (hof : ∀ γ2 w2, Rel i γ w γ2 w2 → GInv ty top γ2 w2 → GOffer i γ2 cases blocking)
    (hon : ∀ γ2 w2, Rel i γ w γ2 w2 → GInv ty top γ2 w2 → ∀ kk v ok γ3 w3, GResult i γ2 w2 blocking kk v ok γ3 w3 → GInv ty top γ3 w3 → LV P ty top Post i γ3 w3 (G (b.at (a.put o.dst (commResult cases shape kk v ok)) (.inRegion ops rest :: k)) cs)) :
    LV P ty top Post i γ w (G (b.at a (.inRegion ops (l :: rest) :: k)) cs) := by
  refine Pact.Lives.comm (cases := cases) (blocking := blocking) (shape := shape) ⟨rfl, fun γ2 w2 hrl hI => ⟨fun q => ?_, ?_, hof γ2 w2 hrl hI⟩, fun γ2 w2 hrl hI kk v ok γ3 w3 hR hI3 => ?_⟩
  · have e : γ2.tag i ≠ .gone := by rw [hrl.tag]; exact ht
    exact e q.2
  · rw [stepG_comm ho hw hk (hr w2), array_nil (no_listed (he w2))]
  · have := hon γ2 w2 hrl hI kk v ok γ3 w3 hR hI3
    have e : (G (b.at a (.inRegion ops (l :: rest) :: k)) cs).finishComm P cases shape kk v ok = G (b.at (a.put o.dst (commResult cases shape kk v ok)) (.inRegion ops rest :: k)) cs := by
      unfold Goroutine.finishComm
      show G ((b.at a (.inRegion ops (l :: rest) :: k)).finish _) cs = _
      rw [Frame.finish_at, ho]
      rfl
    rw [e]
    exact this
/-- The feeder's close, on its way out. -/
theorem lives_close {todo : List Item} {ds : List Deferred} {ats : Array TypeId} {tt : TypeId} {consts : Array Bool} (hd : a.defers = dclose ats tt consts (.chan (some p.jobs)) :: ds) (hp : γ.ph = some p) (hf : p.f = i) (ht : γ.tag i = .feed) (hn : γ.next = p.n)
    (hK : ∀ γ' w', RelL i γ w γ' w' → γ'.ph = some p → γ'.tag i = .shut → γ'.deaf i = γ.deaf i → GInv ty top γ' w' → LV P ty top Post i γ' w' (G { b.at ⟨a.tmps, ds⟩ todo with mode := .returning } cs)) :
    LV P ty top Post i γ w (G { b.at a todo with mode := .returning } cs) := by
  have hg : γ.tag i ≠ .gone := by rw [ht]; simp
  refine lives_step rfl hg fun γ2 w2 hrl hI hi => ?_
  subst hf
  have l := hrl.live hg
  have hp2 := l.ph.trans hp
  have hC := hI.core hp2
  have ht2 : γ2.tag p.f = .feed := hrl.tag.trans ht
  obtain ⟨s, hj⟩ := hC.jobs
  rw [ht2] at hj
  have hDo := do_close (P := P) (Post := Post) hI hp2 ht2 ((l.feed (by unfold Gho.fd; rw [hp])).1.trans hn) hj (mayWake P (G { b.at a todo with mode := .returning } cs) = true) (by rfl)
  refine .go _ _ _ _ (stepG_unwind_close hd hj) hDo (hK _ _ (l.trans ?_) hp2 (setTag_at _ _ _) hrl.deaf hDo.inv)
  have hv : vcT (γ2.setTag p.f .shut).tag p = vcT γ2.tag p := vc_out _ hC.fd
  refine ⟨Nat.le_refl _, fun _ _ _ => rfl, fun _ h1 h2 => ⟨h1, h2⟩, fun b hb e => heap_setChan _ _ _ _ _ _ _ _ fun q => ?_, rfl, fun _ _ h => h, rfl, fun e => ⟨rfl, fun p' hp' => ?_⟩, (fun e => by rw [hp2] at e; cases e), Nat.le_refl _⟩
  · subst q; rw [hC.bjobs] at e; rcases e with e | e <;> cases e
  · rw [hp2] at hp'
    obtain rfl := Option.some.inj hp'
    exact Nat.le_of_eq hv
/-- What a worker knows to stand. -/
structure Kw (i : Nat) (γ γ2 : Gho) : Prop where
  hs : γ.hs ≤ γ2.hs
  bk : ∀ b, b < γ.hs → (∀ j, j ≠ i → γ.bk b ≠ .priv j) → γ2.bk b = γ.bk b
  ph : γ2.ph = γ.ph
  next : γ.next ≤ γ2.next
theorem RelL.kw (h : RelL i γ w γ2 w2) : Kw i γ γ2 := ⟨h.hs, h.bk, h.ph, h.next⟩
theorem Ext.kw (h : Ext i γ γ2) : Kw i γ γ2 := ⟨h.hs, h.bk, h.ph, h.next⟩
theorem Kw.refl (i : Nat) (γ : Gho) : Kw i γ γ := ⟨Nat.le_refl _, fun _ _ _ => rfl, rfl, Nat.le_refl _⟩
theorem Kw.F (h : Kw i γ γ2) {b : Nat} (hb : γ.F b) : γ2.F b := ⟨Nat.lt_of_lt_of_le hb.1 h.hs, (h.bk b hb.1 fun j _ e => by rw [hb.2] at e; cases e).trans hb.2⟩
theorem Kw.trans {γ3 : Gho} (h : Kw i γ γ2) (h' : Kw i γ2 γ3) : Kw i γ γ3 :=
  ⟨Nat.le_trans h.hs h'.hs, fun b hb hj => by
    have e1 := h.bk b hb hj
    exact (h'.bk b (Nat.lt_of_lt_of_le hb h.hs) fun j hj' => by rw [e1]; exact hj j hj').trans e1, h'.ph.trans h.ph, Nat.le_trans h.next h'.next⟩
theorem kw_pass (γ : Gho) (p : Ph) (h : Nat) : Kw i γ (γ.pass p h) := ⟨Nat.le_refl _, fun _ _ _ => rfl, rfl, Nat.le_succ _⟩
theorem kw_tag (γ : Gho) (k : Nat) (x : Tag) : Kw i γ (γ.setTag k x) := ⟨Nat.le_refl _, fun _ _ _ => rfl, rfl, Nat.le_refl _⟩
theorem kw_put (γ : Gho) (k x : Nat) : Kw i γ (γ.put k x) := ⟨Nat.le_refl _, fun _ _ _ => rfl, rfl, Nat.le_refl _⟩
/-- What is kept to the end of a phase: own blocks and such as stand. -/
structure Kept (i : Nat) (γ : Gho) (w : World) (γ2 : Gho) (w2 : World) : Prop where
  hs : γ.hs ≤ γ2.hs
  bk : ∀ b, b < γ.hs → (∀ j, j ≠ i → γ.bk b ≠ .priv j) → γ2.bk b = γ.bk b
  keep : ∀ b, b < γ.hs → γ.bk b = .priv i ∨ γ.bk b = .fix → w2.heap[b]? = w.heap[b]?
  tape : w2.tape = w.tape
  ph : γ2.ph = γ.ph
  next : γ.next ≤ γ2.next
theorem RelL.kept (h : RelL i γ w γ2 w2) : Kept i γ w γ2 w2 := ⟨h.hs, h.bk, h.keep, h.tape, h.ph, h.next⟩
theorem Kept.refl (i : Nat) (γ : Gho) (w : World) : Kept i γ w γ w := ⟨Nat.le_refl _, fun _ _ _ => rfl, fun _ _ _ => rfl, rfl, rfl, Nat.le_refl _⟩
theorem Kept.F (h : Kept i γ w γ2 w2) {b : Nat} (hb : γ.F b) : γ2.F b := ⟨Nat.lt_of_lt_of_le hb.1 h.hs, (h.bk b hb.1 fun j _ e => by rw [hb.2] at e; cases e).trans hb.2⟩
theorem fix_cell (hI : GInv ty top γ w) (hp : γ.ph = some p) {b : Nat} (hb : γ.F b) {v : Value} {t : TypeId} {m : Nat × Nat} (hH : p.H b = some (.cells #[v] t m)) : w.cell? ⟨b, 0, none⟩ = some v := by
  have h := (hI.core hp).fix b hb.1 hb.2
  rw [hH] at h
  simp [World.cell?, h]
theorem Kept.trans {γ3 : Gho} {w3 : World} (h : Kept i γ w γ2 w2) (h' : Kept i γ2 w2 γ3 w3) : Kept i γ w γ3 w3 := by
  have e : ∀ b, b < γ.hs → γ.bk b = .priv i ∨ γ.bk b = .fix → γ2.bk b = γ.bk b := fun b hb q => h.bk b hb fun j hj e => by rcases q with q | q <;> (rw [q] at e; cases e); exact hj rfl
  refine ⟨Nat.le_trans h.hs h'.hs, fun b hb hj => ?_, fun b hb q => ?_, h'.tape.trans h.tape, h'.ph.trans h.ph, Nat.le_trans h.next h'.next⟩
  · have e1 := h.bk b hb hj
    exact (h'.bk b (Nat.lt_of_lt_of_le hb h.hs) fun j hj' => by rw [e1]; exact hj j hj').trans e1
  · exact (h'.keep b (Nat.lt_of_lt_of_le hb h.hs) (by rw [e b hb q]; exact q)).trans (h.keep b hb q)
theorem kept_pass (hI : GInv ty top γ w) (hp : γ.ph = some p) (h s : Nat) : Kept i γ w (γ.pass p h) (w.setChan p.jobs 0 #[] false s s false) :=
  ⟨Nat.le_refl _, fun _ _ _ => rfl, fun b _ e => heap_setChan _ _ _ _ _ _ _ _ fun q => (by
    subst q; rw [(hI.core hp).bjobs] at e; rcases e with e | e <;> cases e), rfl, rfl, Nat.le_succ _⟩
theorem peek_result {kk : Int} {v : Value} {ok : Bool} (h : GResult i γ w false kk v ok γ' w') (hp : γ.ph = some p) (hf : p.f = i) (ht : γ.tag i = .feed) : kk = -1 ∧ v = undef ∧ ok = false ∧ γ' = γ ∧ w' = w := by
  obtain ⟨p', _, h⟩ := h
  rcases h with ⟨_, q, _⟩ | ⟨_, q, _⟩ | ⟨_, _, _, q⟩ | ⟨_, _, q, _⟩
  · rw [ht] at q; cases q
  · rw [ht] at q; cases q
  · exact q
  · cases q
theorem feed_result {kk : Int} {v : Value} {ok : Bool} (h : GResult i γ w true kk v ok γ' w') (hp : γ.ph = some p) (hf : p.f = i) (ht : γ.tag i = .feed) : kk = 0 ∧ v = undef ∧ ok = false ∧ ∃ h s, p.b ≤ h ∧ γ.tag h = .idle ∧ γ' = γ.pass p h ∧ w' = w.setChan p.jobs 0 #[] false s s false := by
  obtain ⟨p', hp', h⟩ := h
  rw [hp] at hp'
  obtain rfl := Option.some.inj hp'
  rcases h with ⟨_, q, _⟩ | ⟨_, q, _⟩ | ⟨_, _, q, _⟩ | ⟨_, _, _, q⟩
  · rw [ht] at q; cases q
  · rw [ht] at q; cases q
  · cases q
  · exact q
/-- A loop, by a number that falls. -/
theorem lives_loop {D : List Deferred} {K : List Item} (R : Nat → Array Value → Gho → World → Prop) {m : Nat} {tm : Array Value} (h0 : R m tm γ w)
    (h : ∀ m, (∀ m', m' < m → ∀ tm γ w, R m' tm γ w → LV P ty top Post i γ w (G (b.at ⟨tm, D⟩ K) cs)) → ∀ tm γ w, R m tm γ w → LV P ty top Post i γ w (G (b.at ⟨tm, D⟩ K) cs)) : LV P ty top Post i γ w (G (b.at ⟨tm, D⟩ K) cs) := by
  induction m using Nat.strongRecOn generalizing tm γ w with
  | _ m ih => exact h m (fun m' hm tm γ w q => ih m' hm q) tm γ w h0
end
end Go.Proofs.YtbicafgmfgdckaaDoor
namespace Go.Proofs.YtbicafgmfgdckaaDoor
open Go Go.Conc
section
variable {ty : TypeId} {top : Nat} {γ γ' γ2 : Gho} {p : Ph} {w w' w2 : World} {i j n : Nat} {P : Program} {Post : Value → World → Prop} {es : Array Event} {g g' : Goroutine} {b : Frame} {a : Act} {k : List Item} {cs : List Frame} {ops : Array Oper} {D : List Deferred}
theorem lives_draw {id : Nat} (hm : P.follows .mixedOrders = true) (ht : ¬ (γ.tag i).said) (h : ∀ t, LV P ty top Post i γ w (G (b.at a (.inRegion ops (Region.linearise.go .any ops ops.size t (Array.replicate ops.size false) []) :: k)) cs)) :
    LV P ty top Post i γ w (G (b.at a (.code (.region id ops true) :: k)) cs) := by
  refine lives_own rfl ht fun γ2 w2 hrl hI => ⟨_, _, _, stepG_region_draw, ⟨Nat.le_refl _, rfl, rfl, rfl, fun _ _ _ => rfl, fun e he => by simp at he⟩, ?_⟩
  simp only [Region.schedule, hm, Bool.true_or, if_true]
  exact (h _).rely (hrl.trans ((rel_self_grown hI.hs).trans (Rel.at _ _ _ _)))
theorem lives_any (J : Nat → Array Bool → Array Value → Gho → World → Prop)
    (hnil : ∀ listed T γ w, J 0 listed T γ w → LV P ty top Post i γ w (G (b.at ⟨T, D⟩ (.inRegion ops [] :: k)) cs))
    (hne : ∀ m listed T γ w, J (m + 1) listed T γ w → Region.ready .any ops listed ≠ [])
    (hst : ∀ m listed T γ w, J (m + 1) listed T γ w → ∀ l ∈ Region.ready .any ops listed, ∀ rest, (∀ T' γ' w', J m (listed.setIfInBounds l true) T' γ' w' → LV P ty top Post i γ' w' (G (b.at ⟨T', D⟩ (.inRegion ops rest :: k)) cs)) →
      LV P ty top Post i γ w (G (b.at ⟨T, D⟩ (.inRegion ops (l :: rest) :: k)) cs)) :
    ∀ m t listed T γ w, J m listed T γ w → LV P ty top Post i γ w (G (b.at ⟨T, D⟩ (.inRegion ops (Region.linearise.go .any ops m t listed []) :: k)) cs) := by
  intro m
  induction m with
  | zero => intro t listed T γ w h; exact hnil _ _ _ _ h
  | succ m ih =>
    intro t listed T γ w h
    have h0 := hne m _ _ _ _ h
    simp only [Region.linearise.go]
    change LV P ty top Post i γ w (G (b.at ⟨T, D⟩ (.inRegion ops (match (Region.ready .any ops listed)[t % (Region.ready .any ops listed).length]? with
      | some i => Region.linearise.go .any ops m (t / (Region.ready .any ops listed).length) (listed.setIfInBounds i true) [i]
      | none => [].reverse) :: k)) cs)
    cases hi : (Region.ready .any ops listed)[t % (Region.ready .any ops listed).length]? with
    | none =>
      exfalso
      cases hr : Region.ready .any ops listed with
      | nil => exact h0 hr
      | cons x xs =>
        rw [hr] at hi
        have hlt : t % (x :: xs).length < (x :: xs).length := Nat.mod_lt _ (by simp)
        simp at hi
        simp at hlt
        omega
    | some l =>
      simp only []
      rw [linearise_go_acc, List.reverse_singleton, List.singleton_append]
      exact hst m _ _ _ _ h l (List.mem_of_getElem? hi) _ fun T' γ' w' h' => ih _ _ _ _ _ h'
end
end Go.Proofs.YtbicafgmfgdckaaDoor
namespace Go.Proofs.YtbicafgmfgdckaaDoor
open Go Go.Conc
open Go.ConcR (KK wgBlock WgAt stA smA rd wr mk DC0)
open Go.ConcN (sumTo upd upd_same upd_ne RelBy PermW WgLive)
section
variable {ty : TypeId} {top : Nat} {γ γ' γ2 : Gho} {p : Ph} {w w' w2 : World} {i j n : Nat} {P : Program} {Post : Value → World → Prop} {es : Array Event} {g g' : Goroutine} {b : Frame} {a : Act} {k : List Item} {cs : List Frame}
/-- Main is by itself. -/
structure Solo (γ : Gho) (w : World) : Prop where
  ph : γ.ph = none
  tag : γ.tag 0 = .solo
  deaf : γ.deaf 0 = 0
  hs : γ.hs = w.heap.size
  bk : ∀ b, b < γ.hs → γ.bk b = .priv 0 ∨ ∃ s, γ.bk b = .shd s
theorem Solo.ng (s : Solo γ w) : γ.tag 0 ≠ .gone := by rw [s.tag]; simp
theorem Solo.ns (s : Solo γ w) : ¬ (γ.tag 0).said := by rw [s.tag]; exact fun h => h
theorem Solo.rel (s : Solo γ w) (h : Rel 0 γ w γ2 w2) : Solo γ2 w2 ∧ w2.heap = w.heap ∧ w2.tape = w.tape ∧ γ2.hs = γ.hs ∧ γ2.cnt = γ.cnt ∧ ∀ b, b < γ.hs → γ2.bk b = γ.bk b := by
  have l := h.live s.ng
  obtain ⟨e1, e2, e5⟩ := l.still s.ph
  have e3 : ∀ b, b < γ.hs → γ2.bk b = γ.bk b := fun b hb => l.bk b hb fun j hj q => by
    rcases s.bk b hb with e | ⟨x, e⟩ <;> (rw [e] at q; cases q)
    exact hj rfl
  exact ⟨⟨l.ph.trans s.ph, h.tag.trans s.tag, h.deaf.trans s.deaf, by rw [e2, e1]; exact s.hs, fun b hb => by rw [e2] at hb; rw [e3 b hb]; exact s.bk b hb⟩, e1, l.tape, e2, e5, e3⟩
/-- What main knows of a later moment: its blocks are whose they were. -/
structure Later2 (γ γ' : Gho) : Prop where
  hs : γ.hs ≤ γ'.hs
  cnt : γ'.cnt = γ.cnt
  bk : ∀ b, b < γ.hs → γ'.bk b = γ.bk b
theorem Later2.refl (γ : Gho) : Later2 γ γ := ⟨Nat.le_refl _, rfl, fun _ _ => rfl⟩
theorem Later2.trans {γ3 : Gho} (h : Later2 γ γ2) (h' : Later2 γ2 γ3) : Later2 γ γ3 := ⟨Nat.le_trans h.hs h'.hs, h'.cnt.trans h.cnt, fun b hb => (h'.bk b (Nat.lt_of_lt_of_le hb h.hs)).trans (h.bk b hb)⟩
/-- A step on own blocks. -/
theorem solo_own (s : Solo γ w) (hr : g.status = .running) (h : ∀ w2, w2.heap = w.heap → w2.tape = w.tape → ∃ g' w' es, stepG P true g w2 = .go g' w' es ∧ Own (γ.S 0) (fun _ => False) w2 w' es ∧
    ∀ γ', Solo γ' w' → Later2 γ γ' → (∀ b, γ.hs ≤ b → b < w'.heap.size → γ'.bk b = .priv 0) → LV P ty top Post 0 γ' w' g') : LV P ty top Post 0 γ w g := by
  refine lives_own hr s.ns fun γ2 w2 hrl hI => ?_
  obtain ⟨s2, e1, e2, e3, e5, e4⟩ := s.rel hrl
  obtain ⟨g', w', es, h1, h2, h3⟩ := h w2 e1 e2
  have hS := hrl.S s.ng
  refine ⟨g', w', es, h1, ?_, h3 _ ⟨s2.ph, s2.tag, s2.deaf, rfl, fun b hb => ?_⟩ ⟨?_, e5, fun b hb => ?_⟩ fun b h4 h5 => ?_⟩
  · rw [hS]; exact h2.mono fun _ q => q.elim
  · by_cases q : γ2.hs ≤ b
    · left; simp [Gho.grown, q]
    · rw [grown_bk (by omega)]; exact s2.bk b (by omega)
  · show γ.hs ≤ w'.heap.size
    have := h2.size
    rw [s.hs, ← e1]; exact this
  · rw [grown_bk (by omega)]; exact e4 b hb
  · simp [Gho.grown, e3, h4]
/-- A block that will be shared is made. -/
theorem solo_share (s : Solo γ w) (hr : g.status = .running) (h : ∀ w2, w2.heap = w.heap → w2.tape = w.tape → ∃ g' w', stepG P true g w2 = .go g' w' #[] ∧ w'.heap.size = w2.heap.size + 1 ∧ w'.tape = w2.tape ∧ outs w' = outs w2 ∧ (∀ b, b < w2.heap.size → w'.heap[b]? = w2.heap[b]?) ∧
    ∀ γ', Solo γ' w' → Later2 γ γ' → γ'.bk γ.hs = .shd 0 → LV P ty top Post 0 γ' w' g') : LV P ty top Post 0 γ w g := by
  refine lives_step hr s.ng fun γ2 w2 hrl hI hi => ?_
  obtain ⟨s2, e1, e2, e3, e5, e4⟩ := s.rel hrl
  obtain ⟨g', w', h1, h2, h3, hos, h4, h5⟩ := h w2 e1 e2
  refine .go g' w' #[] γ2.share h1 (do_share hI s2.ph h2 h3 h4 hos _) (h5 _ ⟨s2.ph, s2.tag, s2.deaf, ?_, fun b hb => ?_⟩ ⟨?_, e5, fun b hb => ?_⟩ ?_)
  · show γ2.hs + 1 = _
    rw [h2, s2.hs]
  · have hb' : b < γ2.hs + 1 := hb
    by_cases q : b = γ2.hs
    · subst q; right; exact ⟨0, upd_same _ _ _⟩
    · rw [show γ2.share.bk b = γ2.bk b from upd_ne _ _ q]; exact s2.bk b (by omega)
  · show γ.hs ≤ γ2.hs + 1
    omega
  · rw [show γ2.share.bk b = γ2.bk b from upd_ne _ _ (by omega)]; exact e4 b hb
  · rw [← e3]; exact upd_same _ _ _
/-- A PHASE BEGINS, at a step of control. -/
theorem solo_enter (s : Solo γ w) (hr : g.status = .running) (hs : ∀ w, stepG P true g w = .go g' w #[]) (B : ∀ γ2 w2, Solo γ2 w2 → Later2 γ γ2 → w2.heap = w.heap → w2.tape = w.tape → GInv ty top γ2 w2 → ∃ p Fx, Begins ty top γ2 w2 p Fx ∧
    ∀ γ' w', (∀ b, b < γ2.hs → γ'.bk b = (γ2.enter p Fx).bk b) → γ'.hs = γ2.hs → w'.heap = w2.heap → w'.tape = w2.tape → γ'.ph = some p → γ'.tag 0 = .add 0 0 → γ'.deaf 0 = 0 → γ'.next = 0 → γ'.cnt = γ2.cnt → GInv ty top γ' w' → LV P ty top Post 0 γ' w' g') : LV P ty top Post 0 γ w g := by
  refine lives_step hr s.ng fun γ2 w2 hrl hI hi => ?_
  obtain ⟨s2, e1, e2, e3, e5, e4⟩ := s.rel hrl
  obtain ⟨p, Fx, hB, hK⟩ := B γ2 w2 s2 ⟨by omega, e5, e4⟩ e1 e2 hI
  have hDo := do_enter (P := P) (Post := Post) hI s2.ph hB (mayWake P g = true)
  exact .go g' w2 #[] (γ2.enter p Fx) (hs w2) hDo (hK _ _ (fun _ _ => rfl) rfl rfl rfl rfl (by show upd γ2.tag 0 (Tag.add 0 0) 0 = _; exact upd_same _ _ _) s2.deaf rfl rfl hDo.inv)
theorem solo_goes (s : Solo γ w) (hr : g.status = .running) (h : ∀ w2, w2.heap = w.heap → w2.tape = w.tape → (stepG P true g w2).goes fun g' w' es => Own (γ.S 0) (fun _ => False) w2 w' es ∧
    ∀ γ' w1, w1.heap = w'.heap → w1.tape = w'.tape → Solo γ' w1 → Later2 γ γ' → (∀ b, γ.hs ≤ b → b < w'.heap.size → γ'.bk b = .priv 0) → LV P ty top Post 0 γ' w1 g') : LV P ty top Post 0 γ w g :=
  solo_own s hr fun w2 e1 e2 => by
    obtain ⟨g', w', es, h1, h2, h3⟩ := goes_inv (h w2 e1 e2)
    exact ⟨g', w', es, h1, h2, fun γ' => h3 γ' w' rfl rfl⟩
theorem solo_goes_share (s : Solo γ w) (hr : g.status = .running) (h : ∀ w2, w2.heap = w.heap → w2.tape = w.tape → (stepG P true g w2).goes fun g' w' es => ((∃ o, w'.heap = w2.heap.push o) ∧ w'.tape = w2.tape ∧ outs w' = outs w2 ∧ ∀ e ∈ es, False) ∧
    ∀ γ' w1, w1.heap = w'.heap → w1.tape = w'.tape → Solo γ' w1 → Later2 γ γ' → γ'.bk γ.hs = .shd 0 → LV P ty top Post 0 γ' w1 g') : LV P ty top Post 0 γ w g :=
  solo_share s hr fun w2 e1 e2 => by
    obtain ⟨g', w', es, h1, ⟨⟨o, eo⟩, et, hos, h3⟩, h4⟩ := goes_inv (h w2 e1 e2)
    obtain rfl := array_nil h3
    exact ⟨g', _, h1, by rw [eo]; simp, et, hos, (fun b hb => by rw [eo, Array.getElem?_push, if_neg (Nat.ne_of_lt hb)]), fun γ' => h4 γ' w' rfl rfl⟩
theorem own_push {S F : Nat → Prop} {w w' : World} {o : Obj} {es : Array Event} (e : w'.heap = w.heap.push o) (et : w'.tape = w.tape) (eo : w'.os = w.os) (eu : w'.output = w.output) (he : ∀ e ∈ es, False) : Own S F w w' es :=
  ⟨by rw [e]; simp, et, eo, eu, (fun b hb _ => by rw [e, Array.getElem?_push, if_neg (Nat.ne_of_lt hb)]), fun e h => (he e h).elim⟩
theorem own_alloc {S F : Nat → Prop} (w : World) (o : Obj) {es : Array Event} (he : ∀ e ∈ es, False) : Own S F w (w.alloc o) es :=
  ⟨by show w.heap.size ≤ (w.heap.push o).size; simp, rfl, rfl, rfl, (fun b hb _ => by show (w.heap.push o)[b]? = _; rw [Array.getElem?_push, if_neg (Nat.ne_of_lt hb)]), fun e h => (he e h).elim⟩
theorem own_set {S F : Nat → Prop} (w : World) (a : Addr) (v : Value) (hS : S a.block) {es : Array Event} (he : ∀ e ∈ es, e = ⟨.cell a, true, false⟩) : Own S F w (w.setCell a v) es :=
  ⟨by rw [size_cell]; exact Nat.le_refl _, rfl, rfl, rfl, fun b _ hb => heap_cell_ne _ _ _ fun q => hb (by rw [q]; exact hS), fun e h => .inl ⟨a, by rw [he e h], by rw [he e h], .inl (.inl hS)⟩⟩
theorem heap_set_last {w : World} {A : Array Obj} {v u : Value} {t : TypeId} (h : w.heap = A.push (.cells #[u] t)) : (w.setCell ⟨A.size, 0, none⟩ v).heap = A.push (.cells #[v] t) := by
  refine Array.ext_getElem? fun b => ?_
  by_cases hb : b = A.size
  · subst hb; rw [heap_setCell, if_pos rfl, h]; simp
  · rw [heap_cell_ne _ _ _ hb, h, Array.getElem?_push, Array.getElem?_push, if_neg hb, if_neg hb]
/-- A go statement of a function value without arguments. -/
theorem stepG_gov {main : Bool} {ops : Array Oper} {l : Nat} {rest : List Nat} {o : Oper} {f : FuncId} {x : Operand} {ats : Array TypeId} {caps : Array Value}
    (ho : ops[l]? = some o) (hw : Region.wanted o (yielded ops a.tmps) = true) (hk : b.kind ≠ .early) (hop : o.op = .go { callee := .value x, args := #[], argTypes := ats }) (hx : a.eval x = .func (.func f) #[] caps) :
    stepG P main (G (b.at a (.inRegion ops (l :: rest) :: k)) cs) w = .spawn (G (b.at (a.put o.dst undef) (.inRegion ops rest :: k)) cs) (born P { target := .fn (.func f) caps, args := #[] }) w #[] := by
  have hr : (execOp a.eval o).run P w = .ok (.spawn { target := .fn (.func f) caps, args := #[] }) w := by
    unfold execOp
    simp [hop, resolve, Deferred.ofValue, hx]
  have he : (execOp a.eval o).events P w #[] = #[] := by
    unfold execOp
    simp [hop, resolve, Deferred.ofValue, hx]
  rw [stepG_spawn ho hw hk hr rfl, array_nil (no_listed he)]
end
end Go.Proofs.YtbicafgmfgdckaaDoor
namespace Go.Proofs.YtbicafgmfgdckaaDoor
open Go Go.Conc
section
variable {ty : TypeId} {top : Nat} {γ : Gho} {w : World} {P : Program} {Post : Value → World → Prop} {g : Goroutine} {b : Frame} {a : Act} {v : Value} {main : Bool}
theorem lives_stop (s : Solo γ w) (hr : g.status = .running) (hst : ∀ w2, stepG P true g w2 = .ended (.done v) w2 #[]) (hP : ∀ w2, w2.heap = w.heap → w2.tape = w.tape → Post v w2) : LV P ty top Post 0 γ w g := by
  refine lives_step hr s.ng fun γ2 w2 hrl hI hi => ?_
  obtain ⟨s2, e1, e2, e3, e5, e4⟩ := s.rel hrl
  exact .stop v rfl (hst w2) ⟨hP w2 e1 e2, fun j hj _ => ⟨hj, (hI.free s2.ph).2.1 j hj⟩, fun t hT => over_race hI s2.ph hT⟩
theorem stepG_finish {fn : Func} {todo : List Item} (hn : b.kind = .normal) (hd : a.defers = []) (hf : P.funcs[b.fn]? = some fn) (hr : (results fn a.tmps).run P w = .ok v w) (he : (results fn a.tmps).events P w #[] = #[]) (hi : P.inits.idxOf? b.fn = none) :
    stepG P true (G { b.at a todo with mode := .returning } []) w = .ended (.done v) w #[] := by
  simp [G, stepG, unwind, doReturn, Frame.at, hn, hd, hf, hr, he, hi, seen, GStep.after]
end
end Go.Proofs.YtbicafgmfgdckaaDoor
