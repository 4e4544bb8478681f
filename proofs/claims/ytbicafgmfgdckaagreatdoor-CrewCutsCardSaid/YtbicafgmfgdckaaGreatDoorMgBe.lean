/- A deferred 'close' of a channel. For any program. The crew's pact: a goroutine stands at a communication; the close. For any program. The library's WaitGroup under this program's numbers. A worker's life. The crew's pact: a region that draws its order. For any program. A row is stored into the middle of a block, what it lists. For any program. -/
import Derived.Test.YtbicafgmfgdckaaGreatDoorMgBd
import Derived.Conc.DeferLaws
import Derived.Conc.EventLaws
import Derived.Conc.CrowdComm
import Derived.Conc.EntryLaws
import Derived.Test.YtbicafgmfgdckaaGreatDoorProg
import Derived.Conc.WgLib
import Derived.KernelRfl
import Derived.Conc.WgGenW
import Derived.Walk
import Derived.Conc.CompanyDraw
import Derived.Conc.AppendEvents
import Derived.Deep.MidRow
import Derived.Conc.Crowd
namespace Go.Proofs.YtbicafgmfgdckaaGreatDoor
open Go Go.Conc
section
variable {P : Program} {main : Bool} {b : Frame} {a : Act} {k : List Item} {cs : List Frame} {w : World}
def dclose (ats : Array TypeId) (ty : TypeId) (consts : Array Bool) (v : Value) : Deferred := { target := .builtin .close ats ty consts, args := #[v] }
theorem stepG_defer_close {ops : Array Oper} {i : Nat} {rest : List Nat} {o : Oper} {x : Nat} {ats : Array TypeId} (ho : ops[i]? = some o) (hw : Region.wanted o (yielded ops a.tmps) = true) (hk : b.kind ≠ .early)
  (hop : o.op = .defer { callee := .builtin .close, args := #[.tmp x], argTypes := ats }) :
  stepG P main (G (b.at a (.inRegion ops (i :: rest) :: k)) cs) w = .go (G (b.at (Act.put ⟨a.tmps, dclose ats o.type #[false] (a.eval (.tmp x)) :: a.defers⟩ o.dst undef) (.inRegion ops rest :: k)) cs) w #[] := by
 have hr : (execOp a.eval o).run P w = .ok (.defer (dclose ats o.type #[false] (a.eval (.tmp x)))) w := by
  unfold execOp
  simp [hop, resolve, dclose]
 have he : (execOp a.eval o).events P w #[] = #[] := by
  unfold execOp
  simp [hop, resolve]
 have hfin : (b.at ⟨a.tmps, dclose ats o.type #[false] (a.eval (.tmp x)) :: a.defers⟩ (.inRegion ops (i :: rest) :: k)).finish undef = b.at (Act.put ⟨a.tmps, dclose ats o.type #[false] (a.eval (.tmp x)) :: a.defers⟩ o.dst undef) (.inRegion ops rest :: k) := by rw [Frame.finish_at, ho]; rfl
 have hk' : (b.kind == CallKind.early) = false := by simpa using hk
 rw [stepG_oper ho hw, <- hfin]
 simp [stepG.apply, hr, he, G, Frame.at, hk', GStep.after, seen_none]
theorem stepG_unwind_close {todo : List Item} {ds : List Deferred} {ats : Array TypeId} {ty : TypeId} {consts : Array Bool} {r room s rc : Nat} {buf : Array Value} {tm : Bool} (hd : a.defers = dclose ats ty consts (.chan (some r)) :: ds)
  (h : w.heap[r]? = some (.chan room buf false s rc tm)) :
  stepG P main (G { b.at a todo with mode := .returning } cs) w = .go (G { b.at ⟨a.tmps, ds⟩ todo with mode := .returning } cs) (w.setChan r room buf true s rc tm) #[⟨.obj r, false, true⟩, ⟨.obj r, true, true⟩] := by
 have hr : (builtin .close ats ty consts #[.chan (some r)]).run P w = .ok (.value (.tuple #[])) (w.setChan r room buf true s rc tm) := by
  show (do pure (Next.value (<- Builtin.close_ ats ty #[.chan (some r)])) : Sem Next).run P w = _
  simp [run_close_open ats ty h]
  rfl
 have he : (builtin .close ats ty consts #[.chan (some r)]).events P w #[] = #[⟨.obj r, false, true⟩, ⟨.obj r, true, true⟩] := by
  show (do pure (Next.value (<- Builtin.close_ ats ty #[.chan (some r)])) : Sem Next).events P w #[] = _
  simp [run_close_open ats ty h, events_close_open ats ty h]
 have hs : seen P b.fn #[⟨.obj r, false, true⟩, ⟨.obj r, true, true⟩] = #[⟨.obj r, false, true⟩, ⟨.obj r, true, true⟩] := by
  rw [seen_def, seen_fold_sync _ _ _ _ (fun x hx => by
   simp only [List.mem_cons, List.not_mem_nil, or_false] at hx
   rcases hx with rfl | rfl <;> exact ⟨rfl, fun g h => by cases h⟩)]
  rfl
 simp [G, stepG, unwind, callDeferred, Frame.at, hd, dclose, invoke, hr, he, hs, GStep.after]
theorem stepG_callv {ops : Array Oper} {i : Nat} {rest : List Nat} {o : Oper} {f : FuncId} {fn : Func} {c : Code} {x : Operand} {args : Array Operand} {ats : Array TypeId} {first caps : Array Value}
  (ho : ops[i]? = some o) (hw : Region.wanted o (yielded ops a.tmps) = true) (hk : b.kind ≠ .early) (hop : o.op = .call { callee := .value x, args, argTypes := ats }) (hx : a.eval x = .func (.func f) first caps)
  {vs : Array Value} (hvs : first ++ args.map a.eval ++ caps = vs) (hf : P.funcs[f]? = some fn) (hname : (fn.name == "runtime.NumGoroutine") = false) (hb : fn.body = some c) :
  stepG P main (G (b.at a (.inRegion ops (i :: rest) :: k)) cs) w = .go (G ((base f).at { tmps := vs ++ Array.replicate (fn.ntmps - vs.size) undef, defers := [] } [.code c]) (b.at a (.inRegion ops (i :: rest) :: k) :: cs)) w #[] := by
 subst hvs
 have h1 : ¬ fn.name = "runtime.NumGoroutine" := by simpa using hname
 have hr : (execOp a.eval o).run P w = .ok (.enter f (first ++ args.map a.eval ++ caps)) w := by
  unfold execOp
  simp [hop, resolve, Deferred.ofValue, hx, invoke, callFunc, hf, h1, hb]
 have he : (execOp a.eval o).events P w #[] = #[] := by
  unfold execOp
  simp [hop, resolve, Deferred.ofValue, hx, invoke, callFunc, hf, h1, hb]
 rw [stepG_enter ho hw hk hr, enter_at _ hf hb]
 have : listed P b.fn a o w = #[] := by unfold listed; rw [he]; exact seen_none P _
 rw [this]
theorem stepG_callE {ops : Array Oper} {i : Nat} {rest : List Nat} {o : Oper} {f : FuncId} {fn : Func} {args : Array Operand} {ats : Array TypeId}
  (ho : ops[i]? = some o) (hw : Region.wanted o (yielded ops a.tmps) = true) (hk : b.kind ≠ .early) (hop : o.op = .call { callee := .value (.func f), args, argTypes := ats }) {vs : Array Value} (hvs : args.map a.eval = vs)
  (hf : P.funcs[f]? = some fn) (hname : (fn.name == "runtime.NumGoroutine") = false) (hb : fn.body.isNone = false) :
  stepG P main (G (b.at a (.inRegion ops (i :: rest) :: k)) cs) w = .go (G (Frame.enter P f vs .normal) (b.at a (.inRegion ops (i :: rest) :: k) :: cs)) w #[] := by
 subst hvs
 rw [stepG_enter ho hw hk (run_call_body hop hf hname hb)]
 have : listed P b.fn a o w = #[] := by unfold listed; rw [events_call_body hop hf hname hb]; exact seen_none P _
 rw [this]
end
end Go.Proofs.YtbicafgmfgdckaaGreatDoor
namespace Go.Proofs.YtbicafgmfgdckaaGreatDoor
open Go Go.Conc
open Go.ConcR (KK wgBlock WgAt stA smA rd wr mk DC0)
open Go.ConcN (sumTo upd upd_same upd_ne RelBy PermW WgLive)

section
variable {ty : TypeId} {top : Nat} {γ γ' γ2 : Gho} {p : Ph} {c : Col} {w w' w2 : World} {i j n : Nat} {P : Program} {Post : Value -> World -> Prop} {es : Array Event} {g g' : Goroutine} {b : Frame} {a : Act} {k : List Item} {cs : List Frame}
theorem lives_comm {ops : Array Oper} {l : Nat} {rest : List Nat} {o : Oper} {cases : Array CommCase} {blocking : Bool} {shape : CommShape} (ho : ops[l]? = some o) (hw : Region.wanted o (yielded ops a.tmps) = true) (hk : b.kind ≠ .early) (ht : γ.tag i ≠ .gone)
  (hr : ∀ w2, (execOp a.eval o).run P w2 = .ok (.comm cases blocking shape) w2) (he : ∀ w2, (execOp a.eval o).events P w2 #[] = #[]) (hof : ∀ γ2 w2, Rel i γ w γ2 w2 -> GInv ty top γ2 w2 -> GOffer i γ2 cases blocking)
  (hon : ∀ γ2 w2, Rel i γ w γ2 w2 -> GInv ty top γ2 w2 -> ∀ kk v ok γ3 w3, GResult i γ2 w2 blocking kk v ok γ3 w3 -> GInv ty top γ3 w3 -> LV P ty top Post i γ3 w3 (G (b.at (a.put o.dst (commResult cases shape kk v ok)) (.inRegion ops rest :: k)) cs)) :
  LV P ty top Post i γ w (G (b.at a (.inRegion ops (l :: rest) :: k)) cs) := by
 refine Pact.Lives.comm (cases := cases) (blocking := blocking) (shape := shape) ⟨rfl, fun γ2 w2 hrl hI => ⟨fun q => ?_, ?_, hof γ2 w2 hrl hI⟩, fun γ2 w2 hrl hI kk v ok γ3 w3 hR hI3 => ?_⟩
 ·have e : γ2.tag i ≠ .gone := by rw [hrl.tag]; exact ht
  exact e q.2
 ·rw [stepG_comm ho hw hk (hr w2), array_nil (no_listed (he w2))]
 ·have := hon γ2 w2 hrl hI kk v ok γ3 w3 hR hI3
  have e : (G (b.at a (.inRegion ops (l :: rest) :: k)) cs).finishComm P cases shape kk v ok = G (b.at (a.put o.dst (commResult cases shape kk v ok)) (.inRegion ops rest :: k)) cs := by
   unfold Goroutine.finishComm
   show G ((b.at a (.inRegion ops (l :: rest) :: k)).finish _) cs = _
   rw [Frame.finish_at, ho]
   rfl
  rw [e]
  exact this
theorem lives_close {todo : List Item} {ds : List Deferred} {ats : Array TypeId} {tt : TypeId} {consts : Array Bool} (hd : a.defers = dclose ats tt consts (.chan (some p.jobs)) :: ds) (hp : γ.ph = some p) (hf : p.f = i) (ht : γ.tag i = .feed) (hn : γ.next = p.n \/ γ.stp = true)
  (hK : ∀ γ' w', RelL i γ w γ' w' -> γ'.ph = some p -> γ'.tag i = .shut -> γ'.deaf i = γ.deaf i -> GInv ty top γ' w' -> LV P ty top Post i γ' w' (G { b.at ⟨a.tmps, ds⟩ todo with mode := .returning } cs)) :
  LV P ty top Post i γ w (G { b.at a todo with mode := .returning } cs) := by
 have hg : γ.tag i ≠ .gone := by rw [ht]; simp
 refine lives_step rfl hg fun γ2 w2 hrl hI hi => ?_
 subst hf
 have l := hrl.live hg
 have hp2 := l.ph _ (on_f hp)
 have hC := hI.core _ hp2
 have ht2 : γ2.tag p.f = .feed := hrl.tag.trans ht
 obtain ⟨s, hj⟩ := hC.jobs
 rw [ht2] at hj
 have hDo := do_close (P := P) (Post := Post) hI hp2 ht2 (hn.imp (fun e => (l.feed p (on_f hp) rfl).1.trans e) fun e => l.stp p (on_f hp) e) hj (mayWake P (G { b.at a todo with mode := .returning } cs) = true) (by rfl)
 refine .go _ _ _ _ (stepG_unwind_close hd hj) hDo (hK _ _ (l.trans ?_) hp2 (setTag_at _ _ _) hrl.deaf hDo.inv)
 have hv : vcT (γ2.setTag p.f .shut).tag p = vcT γ2.tag p := vc_out _ hC.fd
 have noph : ∀ {q : Prop}, γ2.ph = none -> q := fun q => by rw [hp2] at q; cases q
 refine ⟨Nat.le_refl _, fun _ _ _ => rfl, fun _ h1 h2 => ⟨h1, h2⟩, fun b hb e => heap_setChan _ _ _ _ _ _ _ _ fun q => ?_, rfl, fun _ h => h.1, fun q => noph q, rfl, fun p' hp' _ => ⟨rfl, ?_⟩, fun _ _ q => noph q, fun _ _ _ _ q => noph q, fun _ _ => Nat.le_refl _, fun _ _ _ => Iff.rfl, fun _ _ h => h⟩
 ·subst q; rw [hC.bjobs] at e; rcases e with e | ⟨m, _, e⟩ <;> cases e
 ·obtain rfl := same_ph hp2 hp'.1
  exact Nat.le_of_eq hv
theorem lives_shut {todo : List Item} {ds : List Deferred} {ats : Array TypeId} {tt : TypeId} {consts : Array Bool} {q : Nat} (hd : a.defers = dclose ats tt consts (.chan (some c.dn)) :: ds) (hp : γ.ph = none) (hc : γ.col = some c) (hf : c.f = i) (hi0 : i ≠ 0) (ht : γ.tag i = .fin) (hdf : γ.deaf i = 0)
  (hq : QuitsD P q 0 (G { b.at ⟨a.tmps, ds⟩ todo with mode := .returning } cs)) :
  LV P ty top Post i γ w (G { b.at a todo with mode := .returning } cs) := by
 have hg : γ.tag i ≠ .gone := by rw [ht]; simp
 refine lives_step rfl hg fun γ2 w2 hrl hI hi => ?_
 subst hf
 have l := hrl.live hg
 have hp2 : γ2.ph = none := l.pn hp (.inl hi0)
 have hc2 : γ2.col = some c := l.col.trans hc
 have hC := hI.coll c hc2
 have ht2 : γ2.tag c.f = .fin := hrl.tag.trans ht
 have hd2 : γ2.deaf c.f = 0 := hrl.deaf.trans hdf
 obtain ⟨s, hj⟩ := hC.dn
 rw [ht2] at hj
 have hDo := do_shut (P := P) (Post := Post) hI hp2 hc2 ht2 hd2 hj (mayWake P (G { b.at a todo with mode := .returning } cs) = true) (by rfl)
 refine .go _ _ _ _ (stepG_unwind_close hd hj) hDo (Pact.Lives.quit (q := q) ?_ ⟨hi0, setTag_at _ _ _⟩)
 show QuitsD P q (γ2.deaf c.f) _
 rw [hd2]; exact hq
structure Kw (i : Nat) (γ γ2 : Gho) : Prop where
 hs : γ.hs <= γ2.hs
 fx : ∀ b, γ.F i b -> γ2.F i b
 ph : ∀ p, γ.on i p -> γ2.ph = some p
 col : γ2.col = γ.col
 next : ∀ p, γ.on i p -> γ.next <= γ2.next
theorem RelL.kw (h : RelL i γ w γ2 w2) : Kw i γ γ2 := ⟨h.hs, fun _ => h.F, h.ph, h.col, h.next⟩
theorem Ext.kw (h : Ext i γ γ2) : Kw i γ γ2 := ⟨h.hs, fun b ⟨h1, m, h2, h3⟩ => ⟨Nat.lt_of_lt_of_le h1 h.hs, m, h2, (h.bk b h1 fun j _ e => by rw [h3] at e; cases e).trans h3⟩, h.ph, h.col, h.next⟩
theorem Kw.refl (i : Nat) (γ : Gho) : Kw i γ γ := ⟨Nat.le_refl _, fun _ h => h, fun _ h => h.1, rfl, fun _ _ => Nat.le_refl _⟩
theorem Kw.F (h : Kw i γ γ2) {b : Nat} (hb : γ.F i b) : γ2.F i b := h.fx b hb
theorem Kw.trans {γ3 : Gho} (h : Kw i γ γ2) (h' : Kw i γ2 γ3) : Kw i γ γ3 :=
 ⟨Nat.le_trans h.hs h'.hs, fun b hb => h'.fx b (h.fx b hb), fun p q => h'.ph p ⟨h.ph p q, q.2⟩, h'.col.trans h.col, fun p q => Nat.le_trans (h.next p q) (h'.next p ⟨h.ph p q, q.2⟩)⟩
theorem kw_pass (γ : Gho) (p : Ph) (h : Nat) : Kw i γ (γ.pass p h) := ⟨Nat.le_refl _, fun _ h => h, fun _ h => h.1, rfl, fun _ _ => Nat.le_succ _⟩
theorem kw_tag (γ : Gho) (k : Nat) (x : Tag) : Kw i γ (γ.setTag k x) := ⟨Nat.le_refl _, fun _ h => h, fun _ h => h.1, rfl, fun _ _ => Nat.le_refl _⟩
theorem kw_put (γ : Gho) (k x : Nat) : Kw i γ (γ.put k x) := ⟨Nat.le_refl _, fun _ h => h, fun _ h => h.1, rfl, fun _ _ => Nat.le_refl _⟩
structure Kept (i : Nat) (γ : Gho) (w : World) (γ2 : Gho) (w2 : World) : Prop where
 hs : γ.hs <= γ2.hs
 bk : ∀ b, b < γ.hs -> (∀ j, j ≠ i -> γ.bk b ≠ .priv j) -> γ2.bk b = γ.bk b
 keep : ∀ b, b < γ.hs -> (γ.bk b = .priv i \/ ∃ m, m <= i /\ γ.bk b = .fix m) -> w2.heap[b]? = w.heap[b]?
 tape : w2.tape = w.tape
 ph : ∀ p, γ.on i p -> γ2.ph = some p
 col : γ2.col = γ.col
 next : ∀ p, γ.on i p -> γ.next <= γ2.next
theorem RelL.kept (h : RelL i γ w γ2 w2) : Kept i γ w γ2 w2 := ⟨h.hs, h.bk, h.keep, h.tape, h.ph, h.col, h.next⟩
theorem Kept.refl (i : Nat) (γ : Gho) (w : World) : Kept i γ w γ w := ⟨Nat.le_refl _, fun _ _ _ => rfl, fun _ _ _ => rfl, rfl, fun _ h => h.1, rfl, fun _ _ => Nat.le_refl _⟩
theorem Kept.F (h : Kept i γ w γ2 w2) {b k : Nat} (hb : γ.F k b) : γ2.F k b := by
 obtain ⟨h1, m, h2, h3⟩ := hb
 exact ⟨Nat.lt_of_lt_of_le h1 h.hs, m, h2, (h.bk b h1 fun j _ e => by rw [h3] at e; cases e).trans h3⟩
theorem fix_cell (hI : GInv ty top γ w) (hp : γ.ph = some p) {b k : Nat} (hb : γ.F k b) {v : Value} {t : TypeId} {m : Nat × Nat} (hH : p.H b = some (.cells #[v] t m)) : w.cell? ⟨b, 0, none⟩ = some v := by
 obtain ⟨h1, n, h2, h3⟩ := hb
 have h := (hI.core _ hp).fix b n h1 h3
 rw [hH] at h
 simp [World.cell?, h]
theorem Kept.trans {γ3 : Gho} {w3 : World} (h : Kept i γ w γ2 w2) (h' : Kept i γ2 w2 γ3 w3) : Kept i γ w γ3 w3 := by
 have e : ∀ b, b < γ.hs -> (γ.bk b = .priv i \/ ∃ m, m <= i /\ γ.bk b = .fix m) -> γ2.bk b = γ.bk b := fun b hb q => h.bk b hb fun j hj e => by rcases q with q | ⟨m, _, q⟩ <;> (rw [q] at e; cases e); exact hj rfl
 refine ⟨Nat.le_trans h.hs h'.hs, fun b hb hj => ?_, fun b hb q => ?_, h'.tape.trans h.tape, fun p q => h'.ph p ⟨h.ph p q, q.2⟩, h'.col.trans h.col, fun p q => Nat.le_trans (h.next p q) (h'.next p ⟨h.ph p q, q.2⟩)⟩
 ·have e1 := h.bk b hb hj
  exact (h'.bk b (Nat.lt_of_lt_of_le hb h.hs) fun j hj' => by rw [e1]; exact hj j hj').trans e1
 ·exact (h'.keep b (Nat.lt_of_lt_of_le hb h.hs) (by rw [e b hb q]; exact q)).trans (h.keep b hb q)
theorem kept_pass (hI : GInv ty top γ w) (hp : γ.ph = some p) (h s : Nat) : Kept i γ w (γ.pass p h) (w.setChan p.jobs 0 #[] false s s false) :=
 ⟨Nat.le_refl _, fun _ _ _ => rfl, fun b _ e => heap_setChan _ _ _ _ _ _ _ _ fun q => (by
  subst q; rw [(hI.core _ hp).bjobs] at e; rcases e with e | ⟨m, _, e⟩ <;> cases e), rfl, fun _ h => h.1, rfl, fun _ _ => Nat.le_succ _⟩
theorem notcoll0 (hI : GInv ty top γ w) (hc : γ.col = some c) (hi : i = 0) {x : Tag} (ht : γ.tag i = x) (hx : x ≠ .coll) : False := by
 subst hi
 exact hx (ht.symm.trans (hI.coll c hc).tag0)
theorem peek_result {kk : Int} {v : Value} {ok : Bool} (h : GResult i γ w false kk v ok γ' w') (hI : GInv ty top γ w) (ht : γ.tag i = .feed) : ok = false /\ γ' = γ /\ w' = w /\ ((kk = -1 /\ v = undef) \/ (kk = 0 /\ γ.stp = true)) := by
 have no : ∀ {x : Tag}, γ.tag i = x -> x ≠ .feed -> False := fun h h' => h' (h.symm.trans ht)
 cases h with
 | job p s _ _ q => exact (no q (by simp)).elim
 | out p _ _ q => exact (no q (by simp)).elim
 | peek p _ _ _ _ h1 h2 h3 h4 h5 => exact ⟨h3, h4, h5, .inl ⟨h1, h2⟩⟩
 | stop p _ _ _ h1 h2 h3 h4 h5 => exact ⟨h2, h4, h5, .inr ⟨h1, h3⟩⟩
 | fed p h s _ _ _ q => cases q
 | took c h x s h1 h2 => exact (notcoll0 hI h1 h2 ht (by simp)).elim
 | home c h1 h2 => exact (notcoll0 hI h1 h2 ht (by simp)).elim
 | gave c x s h1 h2 q => exact (no q (by simp)).elim
theorem feed_result {kk : Int} {v : Value} {ok : Bool} (h : GResult i γ w true kk v ok γ' w') (hI : GInv ty top γ w) (hp : γ.ph = some p) (ht : γ.tag i = .feed) : ok = false /\ ((kk = 0 /\ v = undef /\ ∃ h s, p.b <= h /\ γ.tag h = .idle /\ γ' = γ.pass p h /\ w' = w.setChan p.jobs 0 #[] false s s false) \/ (kk = 1 /\ γ.stp = true /\ γ' = γ /\ w' = w)) := by
 have no : ∀ {x : Tag}, γ.tag i = x -> x ≠ .feed -> False := fun h h' => h' (h.symm.trans ht)
 cases h with
 | job p s _ _ q => exact (no q (by simp)).elim
 | out p _ _ q => exact (no q (by simp)).elim
 | peek p _ _ _ q => cases q
 | stop p _ _ _ h1 h2 h3 h4 h5 => exact ⟨h2, .inr ⟨h1, h3, h4, h5⟩⟩
 | fed p' h s q _ _ _ h1 h2 h3 h4 h5 h6 h7 => obtain rfl := same_ph hp q; exact ⟨h3, .inl ⟨h1, h2, h, s, h4, h5, h6, h7⟩⟩
 | took c h x s h1 h2 => exact (notcoll0 hI h1 h2 ht (by simp)).elim
 | home c h1 h2 => exact (notcoll0 hI h1 h2 ht (by simp)).elim
 | gave c x s h1 h2 q => exact (no q (by simp)).elim
theorem idle_result {b : Bool} {kk : Int} {v : Value} {ok : Bool} (h : GResult i γ w b kk v ok γ' w') (hI : GInv ty top γ w) (hp : γ.ph = some p) (ht : γ.tag i = .idle) :
  (ok = true /\ v = .int .i64 γ.next /\ γ' = γ.pass p i /\ γ.next < p.n /\ ∃ s, w' = w.setChan p.jobs 0 #[] false s s false) \/ (ok = false /\ γ' = γ.setTag i .out /\ w' = w) := by
 have no : ∀ {x : Tag}, γ.tag i = x -> x ≠ .idle -> False := fun h h' => h' (h.symm.trans ht)
 cases h with
 | job p' s q _ _ h1 h2 h3 h4 h5 => obtain rfl := same_ph hp q; exact .inl ⟨h1, h2, h3, h4, s, h5⟩
 | out p _ _ _ h1 h2 h3 => exact .inr ⟨h1, h2, h3⟩
 | peek p _ _ q => exact (no q (by simp)).elim
 | stop p _ _ q => exact (no q (by simp)).elim
 | fed p h s _ _ q => exact (no q (by simp)).elim
 | took c h x s h1 h2 => exact (notcoll0 hI h1 h2 ht (by simp)).elim
 | home c h1 h2 => exact (notcoll0 hI h1 h2 ht (by simp)).elim
 | gave c x s h1 h2 q => exact (no q (by simp)).elim
theorem give_result {b : Bool} {x : Nat} {kk : Int} {v : Value} {ok : Bool} (h : GResult i γ w b kk v ok γ' w') (hI : GInv ty top γ w) (hc : γ.col = some c) (ht : γ.tag i = .give x) : kk = 0 /\ v = undef /\ ok = false /\ γ' = γ.taken i x /\ ∃ s, w' = w.setChan c.dn 0 #[] false s s false := by
 have no : ∀ {y : Tag}, γ.tag i = y -> y ≠ .give x -> False := fun h h' => h' (h.symm.trans ht)
 cases h with
 | job p s _ _ q => exact (no q (by simp)).elim
 | out p _ _ q => exact (no q (by simp)).elim
 | peek p _ _ q => exact (no q (by simp)).elim
 | stop p _ _ q => exact (no q (by simp)).elim
 | fed p h s _ _ q => exact (no q (by simp)).elim
 | took c h x s h1 h2 => exact (notcoll0 hI h1 h2 ht (by simp)).elim
 | home c h1 h2 => exact (notcoll0 hI h1 h2 ht (by simp)).elim
 | gave c' y s q h1 h2 h3 h4 h5 h6 h7 =>
  obtain rfl := same_col hc q
  rw [ht] at h2
  injection h2 with h2
  subst h2
  exact ⟨h3, h4, h5, h6, s, h7⟩
theorem coll_result {b : Bool} {kk : Int} {v : Value} {ok : Bool} (h : GResult 0 γ w b kk v ok γ' w') (hI : GInv ty top γ w) (hc : γ.col = some c) : (ok = true /\ ∃ h x s, kk = 0 /\ γ.tag h = .give x /\ v = γ.gv h /\ x < c.n /\ ¬ γ.done x /\ HandOk γ w c h x /\ γ' = γ.taken h x /\ w' = w.setChan c.dn 0 #[] false s s false) \/ (ok = false /\ (∀ x, x < c.n -> γ.done x) /\ γ' = γ.home /\ w' = w) := by
 have no : ∀ {y : Tag}, γ.tag 0 = y -> y ≠ .coll -> False := fun h h' => h' (h.symm.trans (hI.coll c hc).tag0)
 cases h with
 | job p s _ _ q => exact (no q (by simp)).elim
 | out p _ _ q => exact (no q (by simp)).elim
 | peek p _ _ q => exact (no q (by simp)).elim
 | stop p _ _ q => exact (no q (by simp)).elim
 | fed p h s _ _ q => exact (no q (by simp)).elim
 | took c' h x s q _ h1 h2 h3 h4 h5 hnd h6 h7 h8 => obtain rfl := same_col hc q; exact .inl ⟨h2, h, x, s, h1, h3, h4, h5, hnd, h6, h7, h8⟩
 | home c' q _ h1 h2 h3 h4 => obtain rfl := same_col hc q; exact .inr ⟨h1, h2, h3, h4⟩
 | gave c x s _ q => exact absurd rfl q
theorem lives_loop {D : List Deferred} {K : List Item} (R : Nat -> Array Value -> Gho -> World -> Prop) {m : Nat} {tm : Array Value} (h0 : R m tm γ w)
  (h : ∀ m, (∀ m', m' < m -> ∀ tm γ w, R m' tm γ w -> LV P ty top Post i γ w (G (b.at ⟨tm, D⟩ K) cs)) -> ∀ tm γ w, R m tm γ w -> LV P ty top Post i γ w (G (b.at ⟨tm, D⟩ K) cs)) : LV P ty top Post i γ w (G (b.at ⟨tm, D⟩ K) cs) := by
 induction m using Nat.strongRecOn generalizing tm γ w with
 | _ m ih => exact h m (fun m' hm tm γ w q => ih m' hm q) tm γ w h0
end
end Go.Proofs.YtbicafgmfgdckaaGreatDoor
namespace Go.Proofs.YtbicafgmfgdckaaGreatDoor
open Go
abbrev wgLink : Go.Conc.Lib.WgLink := { add := 32, done := 34, wait := 38, relMerge := 53, disable := 54, enable := 55, inBubble := 56, associate := 57, fatal := 58, uOr := 59, uAdd := 60, raceRead := 61, uLoad := 62, uStore := 63, disassociate := 64, semrelease := 65, acquire := 68, isAssociated := 69, uCas := 70, raceWrite := 71, semacquire := 72, orU64 := 88, addU64 := 89, loadU64 := 90, storeU64 := 91, casU64 := 94, tWgP := 106, tUP := 108, tAssoc := 109, tWg := 88, tAU := 86, tU64 := 84, tUint := 113, tU32 := 22, tPU32 := 114, tPAU := 143, tPU64 := 145, tNoCopy := 68, tANoCopy := 78, tAlign64 := 83 }
theorem wgLib : Go.Conc.Lib.WgLib Tryz.prog wgLink :=
 ⟨Tryz.func32, Tryz.func34, Tryz.func38, Tryz.func53, Tryz.func54, Tryz.func55, Tryz.func56, Tryz.func57, Tryz.func58, Tryz.func59, Tryz.func60, Tryz.func61, Tryz.func62, Tryz.func63, Tryz.func64, Tryz.func65, Tryz.func68, Tryz.func69, Tryz.func70, Tryz.func71, Tryz.func72, Tryz.func88, Tryz.func89, Tryz.func90, Tryz.func91, Tryz.func94, Tryz.underlying106, Tryz.runUnderlying106, Tryz.sizeOf106, Tryz.isAgg106, Tryz.zeroValue106, Tryz.underlying108, Tryz.runUnderlying108, Tryz.sizeOf108, Tryz.isAgg108, Tryz.zeroValue108, Tryz.underlying109, Tryz.runUnderlying109, Tryz.sizeOf109, Tryz.isAgg109, Tryz.zeroValue109, Tryz.underlying88, Tryz.runUnderlying88, Tryz.sizeOf88, Tryz.isAgg88, Tryz.zeroValue88, Tryz.underlying86, Tryz.runUnderlying86, Tryz.sizeOf86, Tryz.isAgg86, Tryz.zeroValue86, Tryz.underlying84, Tryz.runUnderlying84, Tryz.sizeOf84, Tryz.isAgg84, Tryz.zeroValue84, Tryz.underlying113, Tryz.runUnderlying113, Tryz.sizeOf113, Tryz.isAgg113, Tryz.zeroValue113, Tryz.underlying22, Tryz.runUnderlying22, Tryz.sizeOf22, Tryz.isAgg22, Tryz.zeroValue22, Tryz.underlying114, Tryz.runUnderlying114, Tryz.sizeOf114, Tryz.isAgg114, Tryz.zeroValue114, Tryz.underlying143, Tryz.runUnderlying143, Tryz.sizeOf143, Tryz.isAgg143, Tryz.zeroValue143, Tryz.underlying145, Tryz.runUnderlying145, Tryz.sizeOf145, Tryz.isAgg145, Tryz.zeroValue145, Tryz.underlying0, Tryz.runUnderlying0, Tryz.sizeOf0, Tryz.isAgg0, Tryz.zeroValue0, Tryz.underlying3, Tryz.runUnderlying3, Tryz.sizeOf3, Tryz.isAgg3, Tryz.zeroValue3, Tryz.underlying4, Tryz.runUnderlying4, Tryz.sizeOf4, Tryz.isAgg4, Tryz.zeroValue4, Tryz.underlying9, Tryz.runUnderlying9, Tryz.sizeOf9, Tryz.isAgg9, Tryz.zeroValue9, Tryz.underlying20, Tryz.runUnderlying20, Tryz.sizeOf20, Tryz.isAgg20, Tryz.zeroValue20, Tryz.underlying21, Tryz.runUnderlying21, Tryz.sizeOf21, Tryz.isAgg21, Tryz.zeroValue21, (by kernel_rfl), (by kernel_rfl)⟩
end Go.Proofs.YtbicafgmfgdckaaGreatDoor
namespace Go.Proofs.YtbicafgmfgdckaaGreatDoor
open Go Go.Conc Go.Conc.Lib Go.ConcR.Gen
open Go.ConcR (KK wgBlock WgAt stA smA rd wr mk DC0)
open Go.ConcN (sumTo upd upd_same upd_ne RelBy PermW WgLive)
section
variable {top : Nat} {γ γ' γ2 : Gho} {p : Ph} {w w' w2 : World} {i j k n : Nat} {Post : Value -> World -> Prop} {es : Array Event} {g g' : Goroutine}
noncomputable def bot : Frame := { (default : Frame) with fn := Tryz.prog.funcs.size, defers := [], mode := .panicking [goexitEntry] }
def Job (p : Ph) (top : Nat) (Post : Value -> World -> Prop) (i : Nat) (γ : Gho) (w : World) (f : FuncId) (caps : Array Value) : Prop :=
 ∀ x γ1 w1 c cs fn cd, Tryz.prog.funcs[f]? = some fn -> fn.body = some cd -> Kw i γ γ1 -> γ1.ph = some p -> γ1.tag i = .busy x -> γ1.deaf i = 0 -> x < p.n -> GInv wgLink.tWg top γ1 w1 ->
  (∀ γ2 w2, Kw i γ1 γ2 -> γ2.ph = some p -> γ2.tag i = .idle -> γ2.deaf i = 0 -> LV Tryz.prog wgLink.tWg top Post i γ2 w2 (G (c.finish (.bool true)) cs)) ->
  LV Tryz.prog wgLink.tWg top Post i γ1 w1 (G ((base f).at ⟨#[.int .i64 x] ++ caps ++ Array.replicate (fn.ntmps - (#[Value.int .i64 (x : Int)] ++ caps).size) undef, []⟩ [.code cd]) (c :: cs))
def WorkAt (p : Ph) (J D i : Nat) (oc sb : Value) (γ0 : Gho) (w0 : World) (m : Nat) (tm : Array Value) (γ : Gho) (w : World) : Prop :=
 ∃ v5 v7 v8 v9 v10 v11 v12 v13 v14 v15 : Value, m = p.n - γ.next /\ tm = #[.pointer (some ⟨p.wg, 0, none⟩), .pointer (some ⟨J, 0, none⟩), .pointer (some ⟨D, 0, none⟩), oc, sb, v5, .chan (some p.jobs), v7, v8, v9, v10, v11, v12, v13, v14, v15] /\ γ.ph = some p /\ γ.tag i = .idle /\ γ.deaf i = 0 /\ Kw i γ0 γ
theorem quitsTail (T : Array Value) (todo : List Item) : QuitsD Tryz.prog 2 0 (G { (baseD 33).at ⟨T, []⟩ todo with mode := .returning } [bot]) := by
 refine QuitsD.ctl (g' := G bot []) rfl (fun w => ?_) ?_
 ·simp [G, stepG, unwind, doReturn, results, Frame.at, baseD, bot, Tryz.func33, Tryz.f33, seen, GStep.after, goexitEntry]
 refine QuitsD.ctl (g' := { G bot [] with status := .finished }) rfl (fun w => ?_) ⟨rfl, rfl⟩
 simp [G, stepG, unwind, bot, goexitEntry, Frame.catches]
 rfl
set_option maxRecDepth 100000 in
set_option maxHeartbeats 4000000 in
theorem lives_worker {J D : Nat} {f : FuncId} {fn : Func} {cd : Code} {caps : Array Value} {oc sb : Value} {tJ tD : TypeId} {mJ mD : Nat × Nat} (hff : Tryz.prog.funcs[f]? = some fn) (hfb : fn.body = some cd) (hfn : (fn.name == "runtime.NumGoroutine") = false)
  (hp : γ.ph = some p) (hbi : p.b <= i) (hi0 : i ≠ 0) (ht : γ.tag i = .idle) (hd : γ.deaf i = 0) (hJ : γ.F i J) (hJH : p.H J = some (.cells #[.chan (some p.jobs)] tJ mJ)) (hD : γ.F i D) (hDH : p.H D = some (.cells #[.func (.func f) #[] caps] tD mD)) (hdo : Job p top Post i γ w f caps) :
  LV Tryz.prog wgLink.tWg top Post i γ w (G ((baseD 33).at ⟨#[.pointer (some ⟨p.wg, 0, none⟩), .pointer (some ⟨J, 0, none⟩), .pointer (some ⟨D, 0, none⟩), oc, sb] ++ Array.replicate 11 undef, []⟩ [.code (Tryz.f33.body.getD .skip)]) [bot]) := by
 have hg : γ.tag i ≠ .gone := by rw [ht]; simp
 have hs : ¬ (γ.tag i).tied := by rw [ht]; exact fun h => h
 simp only [Tryz.f33, Option.getD_some]
 walk_nrm
 refine lives_ctl rfl hg (fun _ => stepG_seq) ?_
 refine lives_ctl rfl hg (fun _ => stepG_region) ?_
 simp only [List.size_toArray, List.length_cons, List.length_nil, Nat.reduceAdd, Nat.zero_add, List.range, List.range.loop]
 refine lives_ctl rfl hg (fun _ => stepG_defer rfl rfl (by k_ne) rfl) ?_
 try walk_nrm
 refine lives_ctl rfl hg (fun _ => stepG_region_end) ?_
 refine lives_ctl rfl hg (fun _ => stepG_seq) ?_
 refine lives_ctl rfl hg (fun _ => stepG_region) ?_
 simp only [List.size_toArray, List.length_cons, List.length_nil, Nat.reduceAdd, Nat.zero_add, List.range, List.range.loop]
 have hFix := hJ
 refine lives_read rfl hs (fun γV wV hrl hIV => ?_)
 have hcell : wV.cell? ⟨J, 0, none⟩ = some (.chan (some p.jobs)) := fix_cell hIV ((hrl.live hg).ph _ ⟨hp, .inl hi0⟩) ((hrl.live hg).kw.F hJ) hJH
 refine goes_oper_k rfl rfl (by k_ne) (fun W hW => ?_)
 go_simp
 refine hW _ _ ⟨⟨rfl, fun e he => ?_⟩, ?_⟩
 ·have hm := mem_listed he
  simp [go_sem, hcell] at hm
  subst hm
  exact .inl ⟨_, rfl, rfl, .inr ⟨(hrl.live hg).kw.F hFix, rfl⟩⟩
 clear hW hcell
 clear W
 clear hrl hIV
 clear γV wV
 try walk_nrm
 clear hFix
 refine lives_ctl rfl hg (fun _ => stepG_region_end) ?_
 refine lives_ctl rfl hg (fun _ => stepG_block) ?_
 refine lives_ctl rfl hg (fun _ => stepG_loop) ?_
 refine lives_loop (WorkAt p J D i oc sb γ w) (m := p.n - γ.next) ⟨_, _, _, _, _, _, _, _, _, _, rfl, rfl, hp, ht, hd, .refl _ _⟩ fun m ih tm γ1 w1 h => ?_
 clear ht hg hs hp hd
 obtain ⟨v5, v7, v8, v9, v10, v11, v12, v13, v14, v15, rfl, rfl, hp, ht, hd, hkp⟩ := h
 have hg : γ1.tag i ≠ .gone := by rw [ht]; simp
 refine lives_ctl rfl hg (fun _ => stepG_seq) ?_
 refine lives_ctl rfl hg (fun _ => stepG_region) ?_
 simp only [List.size_toArray, List.length_cons, List.length_nil, Nat.reduceAdd, Nat.zero_add, List.range, List.range.loop]
 refine lives_comm (cases := #[rcase p.jobs (.int .i64 0)]) (blocking := true) (shape := .recv true) rfl rfl (by k_ne) hg (fun _ => by kernel_rfl) (fun _ => by kernel_rfl) (fun γ2 w2 hrl hI => .idle p _ ((hrl.live hg).ph _ ⟨hp, .inl hi0⟩) hbi (hrl.tag.trans ht) rfl rfl) fun γ2 w2 hrl hI kk v ok γ3 w3 hR hI3 => ?_
 have hp2 := (hrl.live hg).ph _ ⟨hp, .inl hi0⟩
 have ht2 := hrl.tag.trans ht
 have hd2 := hrl.deaf.trans hd
 have hkp2 := hkp.trans (hrl.live hg).kw
 have hnx2 : γ1.next <= γ2.next := (hrl.live hg).next _ ⟨hp, .inl hi0⟩
 rw [show commResult #[rcase p.jobs (.int .i64 0)] (.recv true) kk v ok = .tuple #[v, .bool ok] from rfl]
 rcases idle_result hR hI hp2 ht2 with ⟨rfl, rfl, rfl, hlt, s, rfl⟩ | ⟨rfl, rfl, rfl⟩
 ·obtain ⟨x, hx⟩ : ∃ x, γ2.next = x := ⟨_, rfl⟩
  have ht3 : (γ2.pass p i).tag i = .busy x := by rw [<- hx]; exact upd_same _ _ _
  have hd3 : (γ2.pass p i).deaf i = 0 := hd2
  have hnx3 : (γ2.pass p i).next = x + 1 := by show γ2.next + 1 = _; rw [hx]
  have hkp3 := hkp2.trans (kw_pass γ2 p i)
  have hp3 : (γ2.pass p i).ph = some p := hp2
  rw [hx] at hlt hnx2 ⊢
  generalize γ2.pass p i = γ4, w2.setChan p.jobs 0 #[] false s s false = w4 at hkp3 ht3 hd3 hnx3 hp3 hI3 ⊢
  clear hR hrl hp2 ht2 hd2 hkp2 hI hx hg hp ht hd hkp
  have hg : γ4.tag i ≠ .gone := by rw [ht3]; simp
  have hs : ¬ (γ4.tag i).tied := by rw [ht3]; exact fun h => h
  walk_nrm
  refine lives_pure rfl hg (fun wV => ?_)
  refine goes_oper_k rfl rfl (by k_ne) (fun W hW => ?_)
  go_simp
  refine hW _ _ ⟨⟨rfl, no_listed (by simp [go_sem])⟩, ?_⟩
  clear hW
  clear W wV
  try walk_nrm
  refine lives_ctl rfl hg (fun _ => stepG_region_end) ?_
  refine lives_ctl rfl hg (fun _ => stepG_seq) ?_
  refine lives_ctl rfl hg (fun _ => stepG_cond (t := true) rfl) ?_
  simp only [if_true, if_false, Bool.false_eq_true, ↓reduceIte]
  refine lives_ctl rfl hg (fun _ => stepG_skip) ?_
  refine lives_ctl rfl hg (fun _ => stepG_block) ?_
  refine lives_ctl rfl hg (fun _ => stepG_seq) ?_
  refine lives_ctl rfl hg (fun _ => stepG_region) ?_
  simp only [List.size_toArray, List.length_cons, List.length_nil, Nat.reduceAdd, Nat.zero_add, List.range, List.range.loop]
  refine lives_pure rfl hg (fun wV => ?_)
  refine goes_oper_k rfl rfl (by k_ne) (fun W hW => ?_)
  go_simp
  refine hW _ _ ⟨⟨rfl, no_listed (by simp [go_sem])⟩, ?_⟩
  clear hW
  clear W wV
  try walk_nrm
  refine lives_pure rfl hg (fun wV => ?_)
  refine goes_oper_k rfl rfl (by k_ne) (fun W hW => ?_)
  go_simp
  refine hW _ _ ⟨⟨rfl, no_listed (by simp [go_sem])⟩, ?_⟩
  clear hW
  clear W wV
  try walk_nrm
  refine lives_ctl rfl hg (fun _ => stepG_region_end) ?_
  refine lives_ctl rfl hg (fun _ => stepG_seq) ?_
  refine lives_ctl rfl hg (fun _ => stepG_region) ?_
  simp only [List.size_toArray, List.length_cons, List.length_nil, Nat.reduceAdd, Nat.zero_add, List.range, List.range.loop]
  have hFix := hkp3.F hD
  refine lives_read rfl hs (fun γV wV hrl hIV => ?_)
  have hcell : wV.cell? ⟨D, 0, none⟩ = some (.func (.func f) #[] caps) := fix_cell hIV ((hrl.live hg).ph _ ⟨hp3, .inl hi0⟩) ((hrl.live hg).kw.F hFix) hDH
  refine goes_oper_k rfl rfl (by k_ne) (fun W hW => ?_)
  go_simp
  refine hW _ _ ⟨⟨rfl, fun e he => ?_⟩, ?_⟩
  ·have hm := mem_listed he
   simp [go_sem, hcell] at hm
   subst hm
   exact .inl ⟨_, rfl, rfl, .inr ⟨(hrl.live hg).kw.F hFix, rfl⟩⟩
  clear hW hcell
  clear W
  clear hrl hIV
  clear γV wV
  try walk_nrm
  refine lives_pure rfl hg (fun wV => ?_)
  refine goes_oper_k rfl rfl (by k_ne) (fun W hW => ?_)
  go_simp
  refine hW _ _ ⟨⟨rfl, no_listed (by simp [go_sem])⟩, ?_⟩
  clear hW
  clear W wV
  try walk_nrm
  refine lives_ctl rfl hg (fun _ => stepG_callv (vs := #[.int .i64 x] ++ caps) rfl rfl (by k_ne) rfl rfl (by simp [Act.eval]) hff hfn hfb) ?_
  refine hdo x γ4 w4 _ _ fn cd hff hfb hkp3 hp3 ht3 hd3 hlt hI3 fun γ5 w5 hkp5 hp5 ht5 hd5 => ?_
  have hlt5 : p.n - γ5.next < p.n - γ1.next := by have := hkp5.next _ ⟨hp3, .inl hi0⟩; omega
  replace hkp5 := hkp3.trans hkp5
  clear hg hs hkp3 hp3 ht3 hd3 hI3 hnx3 hFix
  have hg : γ5.tag i ≠ .gone := by rw [ht5]; simp
  rw [Frame.finish_at]
  walk_nrm
  refine lives_pure rfl hg (fun wV => ?_)
  refine goes_oper_k rfl rfl (by k_ne) (fun W hW => ?_)
  go_simp
  refine hW _ _ ⟨⟨rfl, no_listed (by simp [go_sem])⟩, ?_⟩
  clear hW
  clear W wV
  try walk_nrm
  refine lives_ctl rfl hg (fun _ => stepG_region_end) ?_
  refine lives_ctl rfl hg (fun _ => stepG_cond (t := false) rfl) ?_
  simp only [if_true, if_false, Bool.false_eq_true, ↓reduceIte]
  refine lives_ctl rfl hg (fun _ => stepG_skip) ?_
  refine lives_ctl rfl hg (fun _ => stepG_inBlock) ?_
  refine lives_ctl rfl hg (fun _ => stepG_inLoop) ?_
  exact ih _ hlt5 _ _ _ ⟨_, _, _, _, _, _, _, _, _, _, rfl, rfl, hp5, ht5, hd5, hkp5⟩
 ·have ht3 : (γ2.setTag i .out).tag i = .out := upd_same _ _ _
  have hd3 : (γ2.setTag i .out).deaf i = 0 := hd2
  have hkp3 := hkp2.trans (kw_tag γ2 i .out)
  have hp3 : (γ2.setTag i .out).ph = some p := hp2
  generalize γ2.setTag i .out = γ4 at hkp3 ht3 hd3 hp3 hI3 ⊢
  clear hR hrl hp2 ht2 hd2 hkp2 hI hg hp ht hd hkp hnx2 ih hdo
  have hg : γ4.tag i ≠ .gone := by rw [ht3]; simp
  walk_nrm
  refine lives_pure rfl hg (fun wV => ?_)
  refine goes_oper_k rfl rfl (by k_ne) (fun W hW => ?_)
  go_simp
  refine hW _ _ ⟨⟨rfl, no_listed (by simp [go_sem])⟩, ?_⟩
  clear hW
  clear W wV
  try walk_nrm
  refine lives_ctl rfl hg (fun _ => stepG_region_end) ?_
  refine lives_ctl rfl hg (fun _ => stepG_seq) ?_
  refine lives_ctl rfl hg (fun _ => stepG_cond (t := false) rfl) ?_
  simp only [if_true, if_false, Bool.false_eq_true, ↓reduceIte]
  refine lives_ctl rfl hg (fun _ => stepG_exit rfl) ?_
  refine lives_ctl rfl hg (fun _ => stepG_end) ?_
  refine lives_ctl rfl hg (fun _ => stepG_unwind_enter rfl Tryz.func34 (nm_done wgLink) rfl) ?_
  have hJ4 := hkp3.F hJ
  exact lives_done (qt := 2) wgLib hp3 hbi ht3 hd3 hI3 hJ4 (fix_cell hI3 hp3 hJ4 hJH) rfl (quitsTail _ _)
end
end Go.Proofs.YtbicafgmfgdckaaGreatDoor
namespace Go.Proofs.YtbicafgmfgdckaaGreatDoor
open Go Go.Conc
section
variable {ty : TypeId} {top : Nat} {γ γ' γ2 : Gho} {p : Ph} {w w' w2 : World} {i j n : Nat} {P : Program} {Post : Value -> World -> Prop} {es : Array Event} {g g' : Goroutine} {b : Frame} {a : Act} {k : List Item} {cs : List Frame} {ops : Array Oper} {D : List Deferred}
theorem lives_draw {id : Nat} (hm : P.follows .mixedOrders = true) (ht : ¬ (γ.tag i).tied) (h : ∀ t, LV P ty top Post i γ w (G (b.at a (.inRegion ops (Region.linearise.go .any ops ops.size t (Array.replicate ops.size false) []) :: k)) cs)) :
  LV P ty top Post i γ w (G (b.at a (.code (.region id ops true) :: k)) cs) := by
 refine lives_own rfl ht fun γ2 w2 hrl hI => ⟨_, _, _, stepG_region_draw, ⟨Nat.le_refl _, rfl, rfl, rfl, fun _ _ _ => rfl, fun e he => by simp at he⟩, ?_⟩
 simp only [Region.schedule, hm, Bool.true_or, if_true]
 exact (h _).rely (hrl.trans ((rel_self_grown hI.hs).trans (Rel.at _ _ _ _)))
theorem lives_any (J : Nat -> Array Bool -> Array Value -> Gho -> World -> Prop)
  (hnil : ∀ listed T γ w, J 0 listed T γ w -> LV P ty top Post i γ w (G (b.at ⟨T, D⟩ (.inRegion ops [] :: k)) cs))
  (hne : ∀ m listed T γ w, J (m + 1) listed T γ w -> Region.ready .any ops listed ≠ [])
  (hst : ∀ m listed T γ w, J (m + 1) listed T γ w -> ∀ l ∈ Region.ready .any ops listed, ∀ rest, (∀ T' γ' w', J m (listed.setIfInBounds l true) T' γ' w' -> LV P ty top Post i γ' w' (G (b.at ⟨T', D⟩ (.inRegion ops rest :: k)) cs)) ->
   LV P ty top Post i γ w (G (b.at ⟨T, D⟩ (.inRegion ops (l :: rest) :: k)) cs)) :
  ∀ m t listed T γ w, J m listed T γ w -> LV P ty top Post i γ w (G (b.at ⟨T, D⟩ (.inRegion ops (Region.linearise.go .any ops m t listed []) :: k)) cs) := by
 intro m
 induction m with
 | zero => intro t listed T γ w h; exact hnil _ _ _ _ h
 | succ m ih =>
  intro t listed T γ w h
  have h0 := hne m _ _ _ _ h
  simp only [Region.linearise.go]
  change LV P ty top Post i γ w (G (b.at ⟨T, D⟩ (.inRegion ops (match (Region.ready .any ops listed)[t % (Region.ready .any ops listed).length]? with
   | some i => Region.linearise.go .any ops m (t / (Region.ready .any ops listed).length) (listed.setIfInBounds i true) [i]
   | none => [].reverse) :: k)) cs)
  cases hi : (Region.ready .any ops listed)[t % (Region.ready .any ops listed).length]? with
  | none =>
   exfalso
   cases hr : Region.ready .any ops listed with
   | nil => exact h0 hr
   | cons x xs =>
    rw [hr] at hi
    have hlt : t % (x :: xs).length < (x :: xs).length := Nat.mod_lt _ (by simp)
    simp at hi
    simp at hlt
    omega
  | some l =>
   simp only []
   rw [linearise_go_acc, List.reverse_singleton, List.singleton_append]
   exact hst m _ _ _ _ h l (List.mem_of_getElem? hi) _ fun T' γ' w' h' => ih _ _ _ _ _ h'
end
end Go.Proofs.YtbicafgmfgdckaaGreatDoor
namespace Go.Proofs.YtbicafgmfgdckaaGreatDoor
open Go Go.Conc
section
variable {P : Program}
theorem storeCells_ev (g o : Nat) (t : TypeId) : ∀ (vs : List Value) (i : Nat) (cur : Array Value) (w : World) (es : Array Event), w.heap[g]? = some (.cells cur t (0, 0)) -> o + i + vs.length <= cur.size -> (∀ v ∈ vs, v.oneCell' = true) ->
  ∀ ev ∈ (storeCells ⟨g, o, none⟩ vs i).events P w es, ev ∈ es \/ ∃ j, j < vs.length /\ ev = ⟨.cell ⟨g, o + i + j, none⟩, true, false⟩
 | [], _, _, _, _, _, _, _ => fun ev h => .inl (by simpa [storeCells] using h)
 | v :: rest, i, cur, w, es, hg, hl, h1 => fun ev h => by
  have hi : o + i < cur.size := by simp at hl; omega
  have hadd : (⟨g, o, none⟩ : Addr).add i = ⟨g, o + i, none⟩ := by unfold Addr.add; split <;> simp_all
  have hcell : w.cell? ⟨g, o + i, none⟩ = some cur[o + i] := by simp [World.cell?, hg, hi]
  have hfro : w.frozen? ⟨g, o + i, none⟩ = false := by simp [World.frozen?, hg]
  have hst : (store ((⟨g, o, none⟩ : Addr).add i) v).run P w = .ok () (w.setRow g (cur.setIfInBounds (o + i) v)) := by
   rw [hadd, run_store P w _ v _ (h1 v (by simp)), hcell]
   simp [hfro, setCell_eq_setRow w g (o + i) cur t (0, 0) v hg]
  have hev : (store ((⟨g, o, none⟩ : Addr).add i) v).events P w es = es.push ⟨.cell ⟨g, o + i, none⟩, true, false⟩ := by
   rw [hadd, events_store P w es _ v _ (h1 v (by simp)), hcell]
   simp only [hfro, Bool.false_eq_true, if_false]
   rfl
  simp only [storeCells, Sem.events_bind, hst, Result.evThen_ok, hev] at h
  rcases storeCells_ev g o t rest (i + 1) (cur.setIfInBounds (o + i) v) (w.setRow g (cur.setIfInBounds (o + i) v)) _ (setRow_heap w g cur _ t _ hg) (by simp at hl ⊢; omega) (fun x hx => h1 x (by simp [hx])) ev h with h | ⟨j, hj, h⟩
  ·rcases Array.mem_push.1 h with h | rfl
   ·exact .inl h
   ·exact .inr ⟨0, by simp, rfl⟩
  ·exact .inr ⟨j + 1, by simp; omega, by rw [h, show o + (i + 1) + j = o + i + (j + 1) by omega]⟩
theorem exec_store_row {a : Act} {op : Oper} {ty t : TypeId} {x y : Operand} {g o : Nat} {vs : List Value} {cur : Array Value} {w : World} (ho : op.op = .store ty x y) (hx : a.eval x = .pointer (some ⟨g, o, none⟩)) (hy : a.eval y = .agg vs.toArray)
  (hi : (P.info? ty).map (·.size) = some vs.length) (hg : w.heap[g]? = some (.cells cur t (0, 0))) (hl : o + vs.length <= cur.size) (h1 : ∀ v ∈ vs, v.oneCell' = true) :
  (execOp a.eval op).run P w = .ok .skip (w.setRow g (cur.toList.take o ++ vs ++ cur.toList.drop (o + vs.length)).toArray) /\ ∀ ev ∈ (execOp a.eval op).events P w #[], ∃ j, j < vs.length /\ ev = ⟨.cell ⟨g, o + j, none⟩, true, false⟩ := by
 have hsz : ∀ w, (sizeOf ty).run P w = .ok vs.length w := fun w => by
  cases hq : P.info? ty with
  | none => simp [hq] at hi
  | some i =>
   simp [hq] at hi
   simp [sizeOf, typeInfo, hq, hi]
 have hse : ∀ w es, (sizeOf ty).events P w es = es := fun w es => by simp
 have hr := run_storeCells_at (P := P) g o t vs 0 cur w hg (by omega) h1
 have he := storeCells_ev (P := P) g o t vs 0 cur w #[] hg (by omega) h1
 have hc : (Value.agg vs.toArray).cells = vs.toArray := rfl
 constructor
 ·unfold execOp
  simp only [ho, hx, hy, Instr.storeAt, Instr.sureAddr, storeVar, hc, Sem.run_bind, Sem.run_pure, Result.andThen_ok, hsz, List.size_toArray, ne_eq, not_true_eq_false, if_false, hr]
  simp
 ·intro ev h
  unfold execOp at h
  simp only [ho, hx, hy, Instr.storeAt, Instr.sureAddr, storeVar, hc, Sem.events_bind, Sem.events_pure, Sem.run_bind, Sem.run_pure, Result.andThen_ok, Result.evThen_ok, hsz, hse, List.size_toArray, ne_eq, not_true_eq_false, if_false, hr] at h
  rcases he ev (by simpa using h) with h | ⟨j, hj, h⟩
  ·simp at h
  ·exact ⟨j, hj, by simpa using h⟩
theorem splice_in (A vs : List Value) (o j : Nat) (hl : o + vs.length <= A.length) (hj : j < vs.length) : (A.take o ++ vs ++ A.drop (o + vs.length))[o + j]? = vs[j]? := by
 rw [List.append_assoc, List.getElem?_append_right (by simp; omega), List.length_take, Nat.min_eq_left (by omega), List.getElem?_append_left (by omega)]
 congr 1; omega
theorem splice_out (A vs : List Value) (o k : Nat) (hl : o + vs.length <= A.length) (hk : k < o \/ o + vs.length <= k) : (A.take o ++ vs ++ A.drop (o + vs.length))[k]? = A[k]? := by
 rcases hk with hk | hk
 ·rw [List.append_assoc, List.getElem?_append_left (by simp; omega), List.getElem?_take, if_pos hk]
 ·rw [List.getElem?_append_right (by simp; omega), List.getElem?_drop]
  congr 1
  simp
  omega
theorem splice_length (A vs : List Value) (o : Nat) (hl : o + vs.length <= A.length) : (A.take o ++ vs ++ A.drop (o + vs.length)).length = A.length := by
 simp; omega
end
end Go.Proofs.YtbicafgmfgdckaaGreatDoor
