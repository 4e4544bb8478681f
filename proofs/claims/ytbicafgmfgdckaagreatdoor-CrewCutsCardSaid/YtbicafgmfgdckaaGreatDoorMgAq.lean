/- What a run draws: another tape with the same draws gives the same run. For any program. One step of a lone run, and of its alike goroutine. For any program. A lone run that ends on every tape: its steps are a tree without an endless branch; a panic cannot lie on it. For any program. A lone run that ends on every tape: the tree of its steps is well founded. For any program. A goroutine that computes by itself, in company: what stands may be read, its own blocks may be written. LONE CONTRACTS HOLD THERE. For any program. -/
import Derived.Test.YtbicafgmfgdckaaGreatDoorMgAp
namespace Go.Proofs.YtbicafgmfgdckaaGreatDoor
open Go

def re (w : World) (T : Nat -> Question -> Nat) (d : Nat) : World := { w with tape := T, drawn := d }
@[simp] theorem re_re (w : World) (T T' : Nat -> Question -> Nat) (d d' : Nat) : re (re w T d) T' d' = re w T' d' := rfl
theorem re_self (w : World) : re w w.tape w.drawn = w := rfl
@[simp] theorem re_drawn (w : World) (T : Nat -> Question -> Nat) (d : Nat) : (re w T d).drawn = d := rfl
@[simp] theorem re_tape (w : World) (T : Nat -> Question -> Nat) (d : Nat) : (re w T d).tape = T := rfl
@[simp] theorem re_heap (w : World) (T : Nat -> Question -> Nat) (d : Nat) : (re w T d).heap = w.heap := rfl
theorem WR.re {gs : Nat} {F : Nat -> Prop} {ρ : Ren} {w w' : World} (h : WR gs F ρ w w') (T : Nat -> Question -> Nat) (d : Nat) : WR gs F ρ (re w T d) (re w' T d) := ⟨rfl, rfl, h.fn, h.inj, h.low, h.glob, h.gsize, h.plain, h.block⟩
def Same2 (w w1 : World) (T : Nat -> Question -> Nat) (d : Nat) : Prop := ∀ i, w.drawn + i < w1.drawn -> T (d + i) = w.tape (w.drawn + i)
theorem run_SR_tape {α β : Type} {X : Ren -> α -> β -> Prop} {F : Nat -> Prop} (p : Program) {ρ : Ren} {s : Sem α} {s' : Sem β} (h : SR p X ρ s s') : ∀ (w w' : World) (es : Array Event), WR p.globals.size F ρ w w' ->
  ∀ x w1 es1, s.runT p w es = (.ok x w1, es1) -> w.drawn <= w1.drawn /\ w1.tape = w.tape /\ ∀ T d, Same2 w w1 T d -> s.runT p (re w T d) es = (.ok x (re w1 T (d + (w1.drawn - w.drawn))), es1) := by
 induction h with
 | pure h =>
  intro w w' es hw x w1 es1 e
  simp only [Sem.runT, Prod.mk.injEq, Result.ok.injEq] at e
  obtain ⟨⟨rfl, rfl⟩, rfl⟩ := e
  exact ⟨Nat.le_refl _, rfl, fun T d _ => by simp [Sem.runT]⟩
 | @load ρ a a' k k' hA _ ih =>
  intro w w' es hw x w1 es1 e
  have hc : ∀ T d, (re w T d).cell? a = w.cell? a := fun _ _ => rfl
  rcases hw.cell hA with ⟨h1, h2⟩ | ⟨v, v', h1, h2, hv⟩
  ·simp only [Sem.runT, h1, hw.farLoad hA] at e
   simp at e
  ·simp only [Sem.runT, h1] at e
   obtain ⟨r1, r2, r3⟩ := ih v v' hv w w' _ hw x w1 es1 e
   exact ⟨r1, r2, fun T d hT => by simp only [Sem.runT, hc, h1]; exact r3 T d hT⟩
 | @store ρ a a' v v' k k' hA hv _ ih =>
  intro w w' es hw x w1 es1 e
  by_cases hva : (∃ c, v = .agg c) \/ (∃ c, v = .tuple c)
  ·rcases hva with ⟨c, rfl⟩ | ⟨c, rfl⟩ <;> simp [Sem.runT] at e
  ·have st : ∀ W : World, (Sem.store .plain a v k).runT p W es = match W.cell? a with
     | some _ => if W.frozen? a then (.halt (.unsupported (.unsafePointer "a write to bytes that a string shares")) W, es) else k.runT p (W.setCell a v) (es.push ⟨.cell a, true, Mode.plain == .atomic⟩)
     | none => match W.farStore p a v (Mode.plain == .atomic) with
      | .ok (w, touched) => k.runT p w (es ++ touched.toArray.map (⟨.cell ·, true, Mode.plain == .atomic⟩))
      | .error h => (.halt h W, es) := fun W => by
    cases v <;> first | rfl | exact (hva (.inl ⟨_, rfl⟩)).elim | exact (hva (.inr ⟨_, rfl⟩)).elim
   rw [st] at e
   have hc : ∀ T d, (re w T d).cell? a = w.cell? a := fun _ _ => rfl
   have hf : ∀ T d, (re w T d).frozen? a = w.frozen? a := fun _ _ => rfl
   rcases hw.cell hA with ⟨h1, h2⟩ | ⟨u, u', h1, h2, hu⟩
   ·rw [h1] at e
    dsimp only at e
    rw [hw.farStore hA] at e
    simp at e
   ·rw [h1] at e
    dsimp only at e
    split at e
    ·simp at e
    ·rename_i hfr
     obtain ⟨r1, r2, r3⟩ := ih (w.setCell a v) (w'.setCell a' v') _ (hw.set hA hv) x w1 es1 e
     refine ⟨r1, r2, fun T d hT => ?_⟩
     rw [st, hc, h1]
     dsimp only
     rw [hf, if_neg hfr]
     exact r3 T d hT
 | @new ρ cs cs' t k k' hc _ ih =>
  intro w w' es hw x w1 es1 e
  simp only [Sem.runT] at e
  obtain ⟨r1, r2, r3⟩ := ih w.heap.size w'.heap.size hw.gsize _ _ _ (hw.push (o := .cells cs t) (o' := .cells cs' t) hw.lt (.inl ⟨_, _, _, rfl⟩) fun b hf => ⟨rfl, hc, fun q => (hf q).elim, fun _ => ⟨rfl, rfl⟩⟩) x w1 es1 e
  exact ⟨r1, r2, fun T d hT => by simp only [Sem.runT]; exact r3 T d hT⟩
 | @number ρ a a' l k k' hc _ ih =>
  intro w w' es hw x w1 es1 e
  simp only [Sem.runT] at e
  obtain ⟨r1, r2, r3⟩ := ih w.heap.size w'.heap.size hw.gsize _ _ _ (hw.push (o := .number a l) (o' := .number a' l) hw.lt (.inr ⟨_, _, rfl⟩) fun b _ => ⟨rfl, hc⟩) x w1 es1 e
  exact ⟨r1, r2, fun T d hT => by simp only [Sem.runT]; exact r3 T d hT⟩
 | @getObj ρ r r' k k' hr _ ih =>
  intro w w' es hw x w1 es1 e
  obtain ⟨o, o', q1, q2, q3⟩ := hw.block _ _ hr
  simp only [Sem.runT, q1] at e
  cases o <;> cases o' <;> first | exact q3.elim | skip
  ·simp at e
  ·rename_i a l a' l'
   obtain ⟨rfl, ha⟩ := q3
   obtain ⟨r1, r2, r3⟩ := ih a a' l ha w w' _ hw x w1 es1 e
   exact ⟨r1, r2, fun T d hT => by simp only [Sem.runT, re_heap, q1]; exact r3 T d hT⟩
 | @shape ρ r r' k k' hr _ ih =>
  intro w w' es hw x w1 es1 e
  simp only [Sem.runT] at e
  obtain ⟨r1, r2, r3⟩ := ih _ w w' es hw x w1 es1 e
  exact ⟨r1, r2, fun T d hT => by simp only [Sem.runT]; exact r3 T d hT⟩
 | @choose ρ q k k' _ ih =>
  intro w w' es hw x w1 es1 e
  simp only [Sem.runT] at e
  by_cases hq : q.forced = true
  ·rw [if_pos hq] at e
   obtain ⟨r1, r2, r3⟩ := ih _ w w' es hw x w1 es1 e
   exact ⟨r1, r2, fun T d hT => by simp only [Sem.runT]; rw [if_pos hq]; exact r3 T d hT⟩
  ·rw [if_neg hq] at e
   obtain ⟨r1, r2, r3⟩ := ih _ _ _ es hw.draw x w1 es1 e
   dsimp only at r1 r2
   refine ⟨by omega, r2, fun T d hT => ?_⟩
   simp only [Sem.runT]
   rw [if_neg hq]
   have h0 := hT 0 (by omega)
   simp only [Nat.add_zero] at h0
   have h1 := r3 T (d + 1) fun i hi => by
    have := hT (i + 1) (by dsimp only at hi; omega)
    show T (d + 1 + i) = w.tape (w.drawn + 1 + i)
    rw [Nat.add_assoc, Nat.add_comm 1 i, this, Nat.add_assoc, Nat.add_comm 1 i]
   have e1 : (re w T d).tape (re w T d).drawn q = w.tape w.drawn q := by
    show T d q = _
    rw [h0]
   rw [e1]
   have e2 : d + 1 + (w1.drawn - (w.drawn + 1)) = d + (w1.drawn - w.drawn) := by omega
   dsimp only at h1
   rw [e2] at h1
   exact h1
 | @program ρ k k' _ ih =>
  intro w w' es hw x w1 es1 e
  simp only [Sem.runT] at e
  obtain ⟨r1, r2, r3⟩ := ih w w' es hw x w1 es1 e
  exact ⟨r1, r2, fun T d hT => by simp only [Sem.runT]; exact r3 T d hT⟩
 | @mark ρ m k k' hm _ ih =>
  intro w w' es hw x w1 es1 e
  simp only [Sem.runT] at e
  obtain ⟨r1, r2, r3⟩ := ih w w' _ hw x w1 es1 e
  exact ⟨r1, r2, fun T d hT => by simp only [Sem.runT]; exact r3 T d hT⟩
 | halt hd =>
  intro w w' es hw x w1 es1 e
  simp [Sem.runT] at e
 | loadVoid h =>
  intro w w' es hw x w1 es1 e
  obtain ⟨_, e2⟩ := void_load p hw h _ es
  rw [e2] at e
  simp at e
 | storeVoid h =>
  intro w w' es hw x w1 es1 e
  obtain ⟨_, _, e2⟩ := void_store p hw h _ _ es
  rw [e2] at e
  simp at e
 | dead h =>
  intro w w' es hw x w1 es1 e
  obtain ⟨h', w2, es2, e2, hd⟩ := h w es
  rw [e2] at e
  simp at e
end Go.Proofs.YtbicafgmfgdckaaGreatDoor
namespace Go.Proofs.YtbicafgmfgdckaaGreatDoor
open Go Go.Conc

section
variable {P : Program} {G : Nat -> Bool} {fs : List Nat} {K : List Item} {ρ σ : Ren} {r r' r1 : Rec} {l l' : List Rec} {w w' w1 : World} {F : Nat -> Prop}
theorem ctl_none (hi : ∀ it ∈ r.todo, okItem P G fs it = true) (h : ctl r = none) :
  (∃ c a b k, r.todo = .code (.cond c a b) :: k /\ ∀ t, r.eval c ≠ .bool t) \/ (∃ id k, r.todo = .code (.exit id) :: k /\ exitTo id k = none) \/ (∃ id ops k, r.todo = .code (.region id ops true) :: k) \/
  (∃ ops i tl k o, r.todo = .inRegion ops (i :: tl) :: k /\ ops[i]? = some o /\ Region.wanted o (yielded ops r.tmps) = true) := by
 obtain ⟨fn, tmps, todo, ret⟩ := r
 dsimp only at hi ⊢
 cases todo with
 | nil => cases h
 | cons it k =>
  have hit := hi it (by simp)
  cases it with
  | code c =>
   cases c with
   | cond c a b =>
    refine .inl ⟨c, a, b, k, rfl, fun t e => ?_⟩
    simp only [ctl, e] at h
    cases h
   | exit id =>
    refine .inr (.inl ⟨id, k, rfl, ?_⟩)
    simpa [ctl] using h
   | region id ops d =>
    cases d with
    | true => exact .inr (.inr (.inl ⟨id, ops, k, rfl⟩))
    | false => cases h
   | _ => first | (cases h; done) | (cases hit; done)
  | inRegion ops t =>
   cases t with
   | nil => cases h
   | cons i tl =>
    refine .inr (.inr (.inr ?_))
    simp only [ctl] at h
    split at h
    ·rename_i hw
     cases ho : ops[i]? with
     | none => rw [ho] at hw; cases hw
     | some o => rw [ho] at hw; exact ⟨ops, i, tl, k, o, rfl, ho, hw⟩
    ·cases h
  | _ => first | (cases h; done) | (cases hit; done)
def Moves (P : Program) (r : Rec) (l : List Rec) (w : World) (r1 : Rec) (l1 : List Rec) (w1 : World) : Prop :=
 w.drawn <= w1.drawn /\ w1.tape = w.tape /\ ∃ e0, ∀ T d, Same2 w w1 T d -> ∀ main base, stepG P main (Conc.G r.fr (l.map Rec.fr ++ base)) (re w T d) = .go (Conc.G r1.fr (l1.map Rec.fr ++ base)) (re w1 T (d + (w1.drawn - w.drawn))) e0
def Doomed (P : Program) (r : Rec) (l : List Rec) (w : World) : Prop := ∀ base, (∃ v w2 es, stepG P true (Conc.G r.fr (l.map Rec.fr ++ base)) w = .go (Conc.G (r.fr.raise [{ v, recovered := false }]) (l.map Rec.fr ++ base)) w2 es) \/
 ∃ o w2 es, stepG P true (Conc.G r.fr (l.map Rec.fr ++ base)) w = .ended o w2 es
def Both (P : Program) (G : Nat -> Bool) (fs : List Nat) (K : List Item) (F : Nat -> Prop) (ρ : Ren) (r r' : Rec) (l l' : List Rec) (w w' : World) : Prop :=
 ∃ r1 l1 w1 r1' l1' w1' ρ1 es, Moves P r l w r1 l1 w1 /\ (∀ main base, stepG P main (Conc.G r'.fr (l'.map Rec.fr ++ base)) w' = .go (Conc.G r1'.fr (l1'.map Rec.fr ++ base)) w1' es) /\
  RR P G fs (botK K l1) ρ1 r1 r1' /\ LR P G fs K ρ1 l1 l1' /\ WR P.globals.size F ρ1 w1 w1' /\ Left F ρ ρ1 w w' w1 w1' /\ ∀ e ∈ es, EvR F ρ1 e
theorem moves_still (h : ∀ main base (w : World), stepG P main (Conc.G r.fr (l.map Rec.fr ++ base)) w = .go (Conc.G r1.fr (l'.map Rec.fr ++ base)) w #[]) : Moves P r l w r1 l' w :=
 ⟨Nat.le_refl _, rfl, #[], fun T d _ main base => by rw [Nat.sub_self, Nat.add_zero]; exact h main base _⟩
theorem fr_at (hr : r.ret = false) : r.fr = r.fr.at ⟨r.tmps, []⟩ r.todo := by
 obtain ⟨fn, tmps, todo, ret⟩ := r
 dsimp only at hr
 subst hr
 rfl
theorem oper_step {ops : Array Oper} {i : Nat} {tl : List Nat} {k : List Item} {o : Oper} (hr : r.ret = false) (ht : r.todo = .inRegion ops (i :: tl) :: k) (ho : ops[i]? = some o) (hw : Region.wanted o (yielded ops r.tmps) = true) (main : Bool) (base : List Frame) (w : World) :
  stepG P main (Conc.G r.fr base) w = stepG.apply P true r.fr base none (execOp r.eval o) w := by
 have e := fr_at hr
 rw [ht] at e
 have e2 : (Act.mk r.tmps []).eval = r.eval := by funext x; cases x <;> rfl
 rw [e, stepG_oper (a := ⟨r.tmps, []⟩) ho hw, e2]
theorem rec_enter (P : Program) (f : FuncId) (as : Array Value) : Frame.enter P f as .normal = Rec.fr ⟨f, (Frame.enter P f as .normal).tmps, (Frame.enter P f as .normal).todo, false⟩ := rfl
theorem rr_enter {f : FuncId} (hb : okBody P G fs f = true) {as as' : Array Value} (h : VsR ρ as as') : RR P G fs [] ρ ⟨f, (Frame.enter P f as .normal).tmps, (Frame.enter P f as .normal).todo, false⟩ ⟨f, (Frame.enter P f as' .normal).tmps, (Frame.enter P f as' .normal).todo, false⟩ := by
 refine ⟨rfl, by simp [Frame.enter], rfl, ?_, fun it hit => ?_, head_of hb⟩
 ·show VsR ρ (as ++ Array.replicate _ undef) (as' ++ Array.replicate _ undef)
  rw [h.size]
  refine h.append ⟨rfl, fun i h1 h2 => ?_⟩
  simp only [Array.getElem_replicate]
  exact vr_undef
 ·simp only [Frame.enter, List.mem_singleton] at hit
  subst hit
  unfold okBody at hb
  cases hf : P.funcs[f]? with
  | none => rw [hf] at hb; cases hb
  | some fn =>
   rw [hf] at hb
   dsimp only at hb
   cases hc : fn.body with
   | none => rw [hc] at hb; cases hb
   | some c =>
    rw [hc] at hb
    simp only [Bool.and_eq_true] at hb
    simpa [okItem, hc] using hb.1
theorem sim_op (hfs : ∀ f, fs.contains f = true -> okBody P G fs f = true) (h : RR P G fs (botK K l) ρ r r') (hl : LR P G fs K ρ l l') (hw : WR P.globals.size F ρ w w') (hG : ∀ g, G g = true -> ρ g g) (hr : r.ret = false)
  {ops : Array Oper} {i : Nat} {tl : List Nat} {k : List Item} {o : Oper} (ht : r.todo = .inRegion ops (i :: tl) :: k) (ho : ops[i]? = some o) (hwa : Region.wanted o (yielded ops r.tmps) = true) :
  Both P G fs K F ρ r r' l l' w w' \/ Doomed P r l w := by
 have hit := h.items (.inRegion ops (i :: tl)) (by rw [ht]; simp)
 have hoo : okOp P G o.op = true /\ okTo fs o.op = true := by
  unfold okItem okOps at hit
  rw [Array.all_eq_true] at hit
  obtain ⟨hi, e⟩ := Array.getElem?_eq_some_iff.1 ho
  have := hit i hi
  rw [e, Bool.and_eq_true] at this
  exact this
 have hr' : r'.ret = false := h.ret ▸ hr
 have hne : r.todo ≠ [] := by rw [ht]; simp
 have ht' : r'.todo = .inRegion ops (i :: tl) :: (k ++ botK K l) := by rw [h.todo, ht]; rfl
 have hwa' : Region.wanted o (yielded ops r'.tmps) = true := by rw [<- h.yielded]; exact hwa
 have hsr := sr_exec (fs := fs) hw.glob (P := P) (o := o) hoo.1 hoo.2 (h.eval hG)
 have s1 := fun main base W => oper_step (P := P) hr ht ho hwa main base W
 have s2 := fun main base W => oper_step (P := P) hr' ht' ho hwa' main base W
 cases hrun : (execOp r.eval o).runT P w #[] with
 | mk res es1 =>
  cases res with
  | halt hh w1 =>
   right
   intro base
   have hd := run_SR_halt P hsr w w' #[] hw hh w1 es1 hrun
   rw [s1 true _ w]
   exact apply_dull hrun hd
  | ok x w1 =>
   left
   obtain ⟨ρ1, x', w1', new, r1, r2, r3, r4, r5⟩ := run_SR P hsr w w' #[] #[] hw x w1 es1 hrun
   rw [Array.empty_append] at r1
   obtain ⟨q1, q2, q3⟩ := run_SR_tape P hsr w w' #[] hw x w1 es1 hrun
   have hev : ∀ f, ∀ e ∈ seen P f new, EvR F ρ1 e := fun f e he => r5 e (seen_mem he)
   have hm := h.mono r4.le
   have hlm := hl.mono r4.le
   cases r2 with
   | @value v v' hv =>
    refine ⟨r.finish v, l, w1, r'.finish v', l', w1', ρ1, seen P r'.fr.fn new, ⟨q1, q2, seen P r.fr.fn es1, fun T d hT main base => ?_⟩, fun main base => ?_, hm.finish hv hne, hlm, r3, r4, hev r'.fr.fn⟩
    ·rw [s1, apply_value rfl (q3 T d hT), finish_fr r v h.head]
    ·rw [s2, apply_value rfl r1, finish_fr r' v' (h.head' hne)]
   | skip =>
    refine ⟨r.finish undef, l, w1, r'.finish undef, l', w1', ρ1, seen P r'.fr.fn new, ⟨q1, q2, seen P r.fr.fn es1, fun T d hT main base => ?_⟩, fun main base => ?_, hm.finish vr_undef hne, hlm, r3, r4, hev r'.fr.fn⟩
    ·rw [s1, apply_skip rfl (q3 T d hT), finish_fr r undef h.head]
    ·rw [s2, apply_skip rfl r1, finish_fr r' undef (h.head' hne)]
   | @enter f as as' hf hv =>
    refine ⟨_, r :: l, w1, _, r' :: l', w1', ρ1, seen P r'.fr.fn new, ⟨q1, q2, seen P r.fr.fn es1, fun T d hT main base => ?_⟩, fun main base => ?_, rr_enter (hfs f hf) hv, .cons hm hr hne hlm, r3, r4, hev r'.fr.fn⟩
    ·rw [s1, apply_enter rfl (show r.fr.todo = _ from ht) (q3 T d hT), rec_enter]
     rfl
    ·rw [s2, apply_enter rfl (show r'.fr.todo = _ from ht') r1, rec_enter]
     rfl
theorem sim_draw (h : RR P G fs (botK K l) ρ r r') (hl : LR P G fs K ρ l l') (hw : WR P.globals.size F ρ w w') (hr : r.ret = false) {id : Nat} {ops : Array Oper} {k : List Item} (ht : r.todo = .code (.region id ops true) :: k) :
  Both P G fs K F ρ r r' l l' w w' := by
 have hr' : r'.ret = false := h.ret ▸ hr
 have ht' : r'.todo = .code (.region id ops true) :: (k ++ botK K l) := by rw [h.todo, ht]; rfl
 have hit := h.items (.code (.region id ops true)) (by rw [ht]; simp)
 have step : ∀ (q : Rec) (main : Bool) (base : List Frame) (W : World) (k : List Item), q.ret = false -> q.todo = .code (.region id ops true) :: k ->
   stepG P main (Conc.G q.fr base) W = .go (Conc.G (Rec.fr { q with todo := .inRegion ops (Region.schedule (P.follows .mixedOrders) ops (W.tape W.drawn (.order q.fn id))) :: k }) base) { W with drawn := W.drawn + 1 } #[] := by
  intro q main base W k h1 h2
  obtain ⟨fn, tmps, todo, ret⟩ := q
  dsimp only at h1 h2
  subst h1 h2
  simp [Conc.G, stepG, stepG.exec, Rec.fr, choose, Sem.run, Question.forced, Question.cut, bind, Sem.bind, pure]
 have hit2 : ∀ T : List Nat, ∀ it ∈ (Item.inRegion ops T :: k), okItem P G fs it = true := fun T it hi => by
  rcases List.mem_cons.1 hi with e | hi
  ·subst e; exact hit
  ·exact h.items it (by rw [ht]; simp [hi])
 refine ⟨{ r with todo := .inRegion ops (Region.schedule (P.follows .mixedOrders) ops (w.tape w.drawn (.order r.fn id))) :: k }, l, { w with drawn := w.drawn + 1 }, { r' with todo := .inRegion ops (Region.schedule (P.follows .mixedOrders) ops (w.tape w.drawn (.order r.fn id))) :: (k ++ botK K l) }, l', { w' with drawn := w'.drawn + 1 }, ρ, #[], ⟨Nat.le_succ _, rfl, #[], fun T d hT main base => ?_⟩, fun main base => ?_, ⟨h.fn, rfl, h.ret, h.tmps, hit2 _, h.body⟩, hl, hw.draw, ⟨Ren.le_refl _, Nat.le_refl _, Nat.le_refl _, rfl, rfl, rfl, fun _ _ _ => rfl, fun _ _ q => .inl q, fun e q => ⟨e, q⟩⟩, fun e he => by simp at he⟩
 ·rw [step r main _ _ _ hr ht]
  have e0 := hT 0 (by simp)
  simp only [Nat.add_zero] at e0
  have e1 : (re w T d).tape (re w T d).drawn (.order r.fn id) = w.tape w.drawn (.order r.fn id) := by show T d _ = _; rw [e0]
  rw [e1]
  have e2 : d + (({ w with drawn := w.drawn + 1 } : World).drawn - w.drawn) = d + 1 := by show d + (w.drawn + 1 - w.drawn) = d + 1; omega
  rw [e2]
  rfl
 ·rw [step r' main _ _ _ hr' ht', <- hw.tape, <- hw.drawn, <- h.fn]
theorem rec_body (h : okHead P r.fn = true) : ∃ fn, P.funcs[r.fn]? = some fn /\ True := by
 unfold okHead at h
 cases hf : P.funcs[r.fn]? with
 | none => rw [hf] at h; cases h
 | some fn => exact ⟨fn, rfl, trivial⟩
theorem rec_init (h : okHead P r.fn = true) : P.inits.idxOf? r.fn = none := by
 unfold okHead at h
 cases hf : P.funcs[r.fn]? with
 | none => rw [hf] at h; cases h
 | some fn =>
  rw [hf] at h
  simpa using h
theorem ret_step (hr : r.ret = true) {fn : Func} (hf : P.funcs[r.fn]? = some fn) (main : Bool) (base : List Frame) (w : World) : stepG P main (Conc.G r.fr base) w =
  GStep.after (seen P r.fn ((results fn r.tmps).runT P w #[]).2) (match ((results fn r.tmps).runT P w #[]).1 with
   | .ok v w => doReturn P main r.fr base none v w
   | .halt (.stuck s) w => .ended (.stuck s (r.fr.pos P)) w
   | .halt _ w => .ended (.stuck "return: the result variables cannot be read" (r.fr.pos P)) w) := by
 obtain ⟨fn, tmps, todo, ret⟩ := r
 dsimp only at hr hf
 subst hr
 simp only [Conc.G, stepG, Rec.fr, unwind, hf, if_true]
 rfl
theorem sim_ret {q q' : Rec} (h : RR P G fs [] ρ r r') (hc : RR P G fs (botK K l) ρ q q') (hq : q.ret = false) (hqt : q.todo ≠ []) (hl : LR P G fs K ρ l l') (hw : WR P.globals.size F ρ w w') (hr : r.ret = true) :
  Both P G fs K F ρ r r' (q :: l) (q' :: l') w w' \/ Doomed P r (q :: l) w := by
 have hr' : r'.ret = true := h.ret ▸ hr
 obtain ⟨fn, hf, hok⟩ := rec_body h.body
 have hf' : P.funcs[r'.fn]? = some fn := h.fn ▸ hf
 have hsr := sr_results (P := P) (fn := fn) h.tmps
 have hq' : q'.ret = false := hc.ret ▸ hq
 have ret : ∀ (x y : Rec) (main : Bool) (base : List Frame) (v : Value) (W : World), headOk P G fs y -> doReturn P main x.fr (y.fr :: base) none v W = .go (Conc.G (y.finish v).fr base) W #[] := by
  intro x y main base v W hy
  simp only [doReturn, Rec.fr, Conc.G]
  have := finish_fr (P := P) (G := G) (fs := fs) y v hy
  simp only [Rec.fr] at this
  rw [this]
 have s1 := fun main base W => ret_step (P := P) hr hf main base W
 have s2 := fun main base W => ret_step (P := P) hr' hf' main base W
 cases hrun : (results fn r.tmps).runT P w #[] with
 | mk res es1 =>
  cases res with
  | halt hh w1 =>
   right
   intro base
   right
   rw [s1 true _ w, hrun]
   cases hh <;> exact ⟨_, _, _, rfl⟩
  | ok v w1 =>
   left
   obtain ⟨ρ1, v', w1', new, r1, r2, r3, r4, r5⟩ := run_SR P hsr w w' #[] #[] hw v w1 es1 hrun
   rw [Array.empty_append] at r1
   obtain ⟨q1, q2, q3⟩ := run_SR_tape P hsr w w' #[] hw v w1 es1 hrun
   have hcm := hc.mono r4.le
   have aft : ∀ (es : Array Event) (g : Goroutine) (W : World), GStep.after es (.go g W #[]) = .go g W es := fun es g W => by simp [GStep.after]
   refine ⟨q.finish v, l, w1, q'.finish v', l', w1', ρ1, seen P r'.fn new, ⟨q1, q2, seen P r.fn es1, fun T d hT main base => ?_⟩, fun main base => ?_, hcm.finish r2 hqt, hl.mono r4.le, r3, r4, fun e he => r5 e (seen_mem he)⟩
   ·rw [s1, q3 T d hT]
    dsimp only
    rw [List.map_cons, List.cons_append, ret r q main _ v _ hc.head, aft]
   ·rw [s2, r1]
    dsimp only
    rw [List.map_cons, List.cons_append, ret r' q' main _ v' _ (hc.head' hqt), aft]
theorem sim_step (hfs : ∀ f, fs.contains f = true -> okBody P G fs f = true) (h : RR P G fs (botK K l) ρ r r') (hl : LR P G fs K ρ l l') (hw : WR P.globals.size F ρ w w') (hG : ∀ g, G g = true -> ρ g g) (hne : r.ret = true -> l ≠ []) (hst : r.todo ≠ [] \/ botK K l = []) :
  Both P G fs K F ρ r r' l l' w w' \/ Doomed P r l w := by
 cases hr : r.ret with
 | true =>
  cases hl with
  | nil => exact absurd rfl (hne hr)
  | cons hc hq hqt hl => exact sim_ret h hc hq hqt hl hw hr
 | false =>
  have hr' : r'.ret = false := h.ret ▸ hr
  cases hc : ctl r with
  | some r1 =>
   left
   obtain ⟨r1', e1, e2⟩ := ctl_rel h hG hst hc
   have hhd : headOk P G fs r' := by
    rcases hst with q | q
    ·exact h.head' q
    ·intro it e
     rw [h.todo, q, List.append_nil] at e
     exact h.head it e
   exact ⟨r1, l, w, r1', l', w', ρ, #[], moves_still fun main base W => ctl_step hr h.head hc main _ W, fun main base => ctl_step hr' hhd e1 main _ w', e2, hl, hw, .refl, fun e he => by simp at he⟩
  | none =>
   have stop : ∀ {it : Item} {k : List Item}, r.todo = it :: k -> (∀ base : List Frame, ∃ o w2 es, stepG.exec P true true r.fr base none w = .ended o w2 es) -> Doomed P r l w := fun {it k} e hh base => by
    right
    have : stepG P true (Conc.G r.fr (l.map Rec.fr ++ base)) w = stepG.exec P true true r.fr (l.map Rec.fr ++ base) none w := by
     simp [stepG, Conc.G, Rec.fr, hr]
    rw [this]
    exact hh _
   rcases ctl_none h.items hc with ⟨c, a, b, k, ht, hb⟩ | ⟨id, k, ht, he⟩ | ⟨id, ops, k, ht⟩ | ⟨ops, i, tl, k, o, ht, ho, hwa⟩
   ·right
    refine stop ht fun base => ?_
    have ht2 : r.fr.todo = .code (.cond c a b) :: k := ht
    have he := congrFun (Rec.eval_fr r) c
    unfold stepG.exec
    rw [ht2]
    dsimp only
    rw [he]
    cases hv : r.eval c with
    | bool t => exact absurd hv (hb t)
    | _ => exact ⟨_, _, _, rfl⟩
   ·right
    refine stop ht fun base => ?_
    have ht2 : r.fr.todo = .code (.exit id) :: k := ht
    unfold stepG.exec
    rw [ht2]
    dsimp only
    rw [he]
    exact ⟨_, _, _, rfl⟩
   ·exact .inl (sim_draw h hl hw hr ht)
   ·exact sim_op hfs h hl hw hG hr ht ho hwa
end
end Go.Proofs.YtbicafgmfgdckaaGreatDoor
namespace Go.Proofs.YtbicafgmfgdckaaGreatDoor
open Go Go.Conc

def catcher : Frame := { fn := 0, tmps := #[], todo := [], defers := [{ target := .nil, args := #[] }], mode := .run, kind := .normal }
structure LSt where
 r : Rec
 l : List Rec
 w : World
def LSt.out (x : LSt) : Prop := x.r.ret = true /\ x.l = []
def Nxt (P : Program) (y x : LSt) : Prop := ¬ x.out /\ ∃ T d, Moves P x.r x.l (re x.w T d) y.r y.l y.w
abbrev Tape := Nat -> Question -> Nat
def Reach (P : Program) (base : List Frame) (R : Frame -> World -> Prop) (x : LSt) : Prop := ∀ (T : Tape) (d : Nat), ∃ (T2 : Tape) (d2 : Nat), (∀ i, T2 (d2 + i) = T (d + i)) /\ ∃ n fr w1, runN P n (lone x.r.fr (x.l.map Rec.fr ++ base) (re x.w T2 d2)) = .next (lone fr base w1) /\ fr.mode = .returning /\ R fr w1
section
variable {P : Program} {R : Frame -> World -> Prop} {x y : LSt}
theorem lone_go {fr fr' : Frame} {cs cs' : List Frame} {w w' : World} {es : Array Event} (h : stepG P true (Conc.G fr cs) w = .go (Conc.G fr' cs') w' es) : step P (lone fr cs w) = .next (lone fr' cs' w') :=
 step_lone_go (by
  show (stepG P true (Conc.G fr cs) w).bare = _
  rw [h]; rfl)
theorem moves_step {r r1 : Rec} {l l1 : List Rec} {w w1 : World} (h : Moves P r l w r1 l1 w1) {T : Nat -> Question -> Nat} {d : Nat} (hT : Same2 w w1 T d) (base : List Frame) :
  step P (lone r.fr (l.map Rec.fr ++ base) (re w T d)) = .next (lone r1.fr (l1.map Rec.fr ++ base) (re w1 T (d + (w1.drawn - w.drawn)))) := by
 obtain ⟨_, _, e0, h⟩ := h
 exact lone_go (h T d hT true base)
theorem runN_succ {n : Nat} {m m1 : Machine} (h : step P m = .next m1) : runN P (n + 1) m = runN P n m1 := by simp [runN, h]
theorem runN_ended {n : Nat} {m m2 : Machine} {o : Outcome} {w : World} (h : step P m = .ended o w) (e : runN P n m = .next m2) : m2 = m := by
 cases n with
 | zero => simp [runN] at e; exact e.symm
 | succ n => simp [runN, h] at e
def Rec.bad (r : Rec) (chain : List PanicEntry) : Frame := { r.fr with mode := .panicking chain }
theorem raise_bad (r : Rec) (chain : List PanicEntry) : r.fr.raise chain = r.bad chain := by
 obtain ⟨fn, tmps, todo, ret⟩ := r
 cases ret <;> rfl
theorem bad_run : ∀ (l : List Rec) (r : Rec) (chain : List PanicEntry) (w : World), okHead P r.fn = true -> (∀ q ∈ l, okHead P q.fn = true) -> ∀ n fr w1, runN P n (lone (r.bad chain) (l.map Rec.fr ++ [catcher]) w) = .next (lone fr [catcher] w1) -> fr.mode ≠ .returning := by
 intro l
 induction l with
 | nil =>
  intro r chain w hr hl n fr w1 e
  have hs : step P (lone (r.bad chain) ([].map Rec.fr ++ [catcher]) w) = .next (lone (catcher.raise chain) [] w) := by
   obtain ⟨fn, hf, _⟩ := rec_body (r := r) hr
   refine lone_go (es := #[]) ?_
   simp [stepG, Conc.G, Rec.bad, Rec.fr, unwind, Frame.catches, hf]
  have hs2 : ∃ o w2, step P (lone (catcher.raise chain) [] w) = .ended o w2 := by
   exact ⟨_, _, step_lone_ended rfl⟩
  obtain ⟨o, w2, hs2⟩ := hs2
  cases n with
  | zero =>
   simp only [runN, Stepped.next.injEq, lone, Machine.mk.injEq] at e
   intro hm
   have := e.2.1
   simp only [Array.mk.injEq, List.cons.injEq, Goroutine.mk.injEq] at this
   rw [<- this.1.1] at hm
   cases hm
  | succ n =>
   rw [runN_succ hs] at e
   have := runN_ended hs2 e
   simp [lone] at this
 | cons q l ih =>
  intro r chain w hr hl n fr w1 e
  have hs : step P (lone (r.bad chain) ((q :: l).map Rec.fr ++ [catcher]) w) = .next (lone (q.bad chain) (l.map Rec.fr ++ [catcher]) w) := by
   obtain ⟨fn, hf, _⟩ := rec_body (r := r) hr
   refine lone_go (es := #[]) ?_
   rw [<- raise_bad q chain]
   simp [stepG, Conc.G, Rec.bad, Rec.fr, unwind, Frame.catches, hf]
  cases n with
  | zero =>
   simp only [runN, Stepped.next.injEq, lone, Machine.mk.injEq] at e
   intro hm
   have := e.2.1
   simp only [Array.mk.injEq, List.cons.injEq, Goroutine.mk.injEq] at this
   rw [<- this.1.1] at hm
   cases hm
  | succ n =>
   rw [runN_succ hs] at e
   exact ih q chain w (hl q (by simp)) (fun y hy => hl y (by simp [hy])) n fr w1 e
theorem not_doomed {r : Rec} {l : List Rec} {w : World} (hr : okHead P r.fn = true) (hl : ∀ q ∈ l, okHead P q.fn = true) (ho : ¬ (r.ret = true /\ l = [])) {n : Nat} {fr : Frame} {w1 : World}
  (e : runN P n (lone r.fr (l.map Rec.fr ++ [catcher]) w) = .next (lone fr [catcher] w1)) (hm : fr.mode = .returning) : ¬ Doomed P r l w := by
 intro hd
 cases n with
 | zero =>
  simp only [runN, Stepped.next.injEq, lone, Machine.mk.injEq] at e
  have := e.2.1
  simp only [Array.mk.injEq, List.cons.injEq, Goroutine.mk.injEq] at this
  refine ho ⟨?_, ?_⟩
  ·rw [<- this.1.1] at hm
   cases hr' : r.ret with
   | true => rfl
   | false => rw [show r.fr.mode = .run by simp [Rec.fr, hr']] at hm; cases hm
  ·have h2 := this.1.2.1
   have := congrArg List.length h2
   simp at this
   exact this
 | succ n =>
  rcases hd [catcher] with ⟨v, w2, es, h⟩ | ⟨o, w2, es, h⟩
  ·rw [runN_succ (lone_go h), raise_bad] at e
   exact bad_run l r _ w2 hr hl n fr w1 e hm
  ·have hs : step P (lone r.fr (l.map Rec.fr ++ [catcher]) w) = .ended o w2 := step_lone_ended (by
    show (stepG P true (Conc.G r.fr (l.map Rec.fr ++ [catcher])) w).bare = _
    rw [h]; rfl)
   simp [runN, hs] at e
end
end Go.Proofs.YtbicafgmfgdckaaGreatDoor
namespace Go.Proofs.YtbicafgmfgdckaaGreatDoor
open Go Go.Conc

section
variable {P : Program} {R : Frame -> World -> Prop} {x y : LSt} {base : List Frame}
theorem out_of_zero {r : Rec} {l : List Rec} {w w1 : World} {fr : Frame} (e : runN P 0 (lone r.fr (l.map Rec.fr ++ base) w) = .next (lone fr base w1)) (hm : fr.mode = .returning) : (r.ret = true /\ l = []) /\ r.fr = fr /\ w = w1 := by
 simp only [runN, Stepped.next.injEq, lone, Machine.mk.injEq] at e
 have := e.2.1
 simp only [Array.mk.injEq, List.cons.injEq, Goroutine.mk.injEq] at this
 refine ⟨⟨?_, ?_⟩, this.1.1, e.1⟩
 ·rw [<- this.1.1] at hm
  cases hr' : r.ret with
  | true => rfl
  | false => rw [show r.fr.mode = .run by simp [Rec.fr, hr']] at hm; cases hm
 ·have h2 := congrArg List.length this.1.2.1
  simp at h2
  exact h2
theorem reach_move (hx : Reach P base R x) (hout : ¬ x.out) {T0 : Tape} {d0 : Nat} (h : Moves P x.r x.l (re x.w T0 d0) y.r y.l y.w) : Reach P base R y := by
 intro T d
 obtain ⟨T2, d2, hT, n, fr, w1, e, hm, hR⟩ := hx (fun p q => if p < y.w.drawn - d0 then T0 (d0 + p) q else T (d + (p - (y.w.drawn - d0))) q) 0
 have hle : d0 <= y.w.drawn := h.1
 have hs : Same2 (re x.w T0 d0) y.w T2 d2 := fun i hi => by
  have hi' : d0 + i < y.w.drawn := hi
  rw [hT i]
  funext q
  show (if 0 + i < y.w.drawn - d0 then T0 (d0 + (0 + i)) q else _) = T0 (d0 + i) q
  rw [if_pos (by omega), Nat.zero_add]
 have hst := moves_step h hs base
 cases n with
 | zero => exact absurd (out_of_zero e hm).1 hout
 | succ n =>
  rw [runN_succ (show step P (lone x.r.fr (x.l.map Rec.fr ++ base) (re x.w T2 d2)) = _ from hst)] at e
  refine ⟨T2, d2 + (y.w.drawn - d0), fun i => ?_, n, fr, w1, e, hm, hR⟩
  rw [Nat.add_assoc, hT]
  funext q
  show (if 0 + (y.w.drawn - d0 + i) < y.w.drawn - d0 then _ else T (d + (0 + (y.w.drawn - d0 + i) - (y.w.drawn - d0))) q) = T (d + i) q
  rw [if_neg (by omega)]
  congr 2
  omega
theorem chain_of {α : Type} {S : α -> α -> Prop} {a : α} (h : ¬ Acc S a) : ∃ f : Nat -> α, f 0 = a /\ ∀ k, S (f (k + 1)) (f k) := by
 have next : ∀ p : { b : α // ¬ Acc S b }, ∃ q : { b : α // ¬ Acc S b }, S q.1 p.1 := fun p => Classical.byContradiction fun hn => p.2 (.intro _ fun y hy => Classical.byContradiction fun hy' => hn ⟨⟨y, hy'⟩, hy⟩)
 let g : Nat -> { b : α // ¬ Acc S b } := fun n => Nat.rec ⟨a, h⟩ (fun _ p => (next p).choose) n
 exact ⟨fun n => (g n).1, rfl, fun k => (next (g k)).choose_spec⟩
theorem mono_le {c : Nat -> Nat} (h : ∀ k, c k <= c (k + 1)) : ∀ {i j : Nat}, i <= j -> c i <= c j := by
 intro i j hij
 induction hij with
 | refl => exact Nat.le_refl _
 | step _ ih => exact Nat.le_trans ih (h _)
noncomputable def glue (T : Nat -> Tape) (d c : Nat -> Nat) : Tape := fun p => open Classical in if h : ∃ k, c k <= p /\ p < c (k + 1) then T h.choose (d h.choose + (p - c h.choose)) else T 0 p
theorem glue_at {T : Nat -> Tape} {d c : Nat -> Nat} (hc : ∀ k, c k <= c (k + 1)) {k i : Nat} (h : c k + i < c (k + 1)) : glue T d c (c k + i) = T k (d k + i) := by
 have hex : ∃ k', c k' <= c k + i /\ c k + i < c (k' + 1) := ⟨k, by omega, h⟩
 unfold glue
 rw [dif_pos hex]
 have e : hex.choose = k := by
  obtain ⟨h1, h2⟩ := hex.choose_spec
  rcases Nat.lt_trichotomy hex.choose k with hl | hl | hl
  ·have := mono_le hc (show hex.choose + 1 <= k from hl); omega
  ·exact hl
  ·have := mono_le hc (show k + 1 <= hex.choose from hl); omega
 rw [e]
 congr 1
 omega
theorem acc_of (hx : ∀ (T : Tape) (d : Nat), ∃ n fr w1, runN P n (lone x.r.fr (x.l.map Rec.fr ++ base) (re x.w T d)) = .next (lone fr base w1) /\ fr.mode = .returning) : Acc (Nxt P) x := by
 refine Classical.byContradiction fun hn => ?_
 obtain ⟨f, h0, hf⟩ := chain_of hn
 have hT : ∀ k, ∃ p : Tape × Nat, ¬ (f k).out /\ Moves P (f k).r (f k).l (re (f k).w p.1 p.2) (f (k + 1)).r (f (k + 1)).l (f (k + 1)).w := fun k => by
  obtain ⟨h1, T, d, h2⟩ := hf k
  exact ⟨(T, d), h1, h2⟩
 let T : Nat -> Tape := fun k => (hT k).choose.1
 let d : Nat -> Nat := fun k => (hT k).choose.2
 have hm : ∀ k, ¬ (f k).out /\ Moves P (f k).r (f k).l (re (f k).w (T k) (d k)) (f (k + 1)).r (f (k + 1)).l (f (k + 1)).w := fun k => (hT k).choose_spec
 let c : Nat -> Nat := fun k => Nat.rec 0 (fun k p => p + ((f (k + 1)).w.drawn - d k)) k
 have hc1 : ∀ k, c (k + 1) = c k + ((f (k + 1)).w.drawn - d k) := fun k => rfl
 have hc : ∀ k, c k <= c (k + 1) := fun k => by rw [hc1]; omega
 have hst : ∀ k, step P (lone (f k).r.fr ((f k).l.map Rec.fr ++ base) (re (f k).w (glue T d c) (c k))) = .next (lone (f (k + 1)).r.fr ((f (k + 1)).l.map Rec.fr ++ base) (re (f (k + 1)).w (glue T d c) (c (k + 1)))) := fun k => by
  refine moves_step (hm k).2 (fun i hi => ?_) base
  have hi' : d k + i < (f (k + 1)).w.drawn := hi
  exact glue_at hc (by rw [hc1]; omega)
 have hrun : ∀ k n, runN P (k + n) (lone (f 0).r.fr ((f 0).l.map Rec.fr ++ base) (re (f 0).w (glue T d c) (c 0))) = runN P n (lone (f k).r.fr ((f k).l.map Rec.fr ++ base) (re (f k).w (glue T d c) (c k))) := fun k => by
  induction k with
  | zero => intro n; rw [Nat.zero_add]
  | succ k ih =>
   intro n
   rw [Nat.add_assoc, Nat.add_comm 1 n, ih (n + 1), runN_succ (hst k)]
 obtain ⟨n, fr, w1, e, hmode⟩ := hx (glue T d c) (c 0)
 rw [<- h0] at e
 have := hrun n 0
 rw [Nat.add_zero, e] at this
 exact (hm n).1 (out_of_zero this.symm hmode).1
theorem out_stops {r : Rec} (hb : okHead P r.fn = true) (hr : r.ret = true) (w : World) : ∃ o w2, step P (lone r.fr [] w) = .ended o w2 := by
 obtain ⟨fn, hf, _⟩ := rec_body hb
 have hi := rec_init hb
 have hs := ret_step (P := P) hr hf true [] w
 have key : ∃ o w2 es, stepG P true (Conc.G r.fr []) w = .ended o w2 es := by
  rw [hs]
  cases hrun : (results fn r.tmps).runT P w #[] with
  | mk res es1 =>
   cases res with
   | halt hh w1 => cases hh <;> exact ⟨_, _, _, rfl⟩
   | ok v w1 =>
    have : doReturn P true r.fr [] none v w1 = .ended (.done v) w1 #[] := by
     obtain ⟨f, tmps, todo, ret⟩ := r
     simp only [doReturn, Rec.fr, Bool.not_true, Bool.false_eq_true, if_false]
     dsimp only at hi
     rw [hi]
    dsimp only
    rw [this]
    exact ⟨_, _, _, rfl⟩
 obtain ⟨o, w2, es, h⟩ := key
 exact ⟨o, w2, step_lone_ended (by
  show (stepG P true (Conc.G r.fr []) w).bare = _
  rw [h]; rfl)⟩
theorem reach_out (hb : okHead P x.r.fn = true) (hx : Reach P [] R x) (ho : x.out) : ∃ T d, R x.r.fr (re x.w T d) := by
 obtain ⟨T2, d2, _, n, fr, w1, e, hm, hR⟩ := hx (fun _ _ => 0) 0
 obtain ⟨h1, h2⟩ := ho
 cases n with
 | zero =>
  obtain ⟨_, e1, e2⟩ := out_of_zero e hm
  exact ⟨T2, d2, by rw [e1, e2]; exact hR⟩
 | succ n =>
  rw [h2] at e
  obtain ⟨o, w2, hs⟩ := out_stops hb h1 (re x.w T2 d2)
  have : runN P (n + 1) (lone x.r.fr (List.map Rec.fr [] ++ []) (re x.w T2 d2)) = .ended o w2 := by
   simp only [List.map_nil, List.append_nil, runN, hs]
  rw [this] at e
  cases e
end
end Go.Proofs.YtbicafgmfgdckaaGreatDoor
namespace Go.Proofs.YtbicafgmfgdckaaGreatDoor
open Go Go.Conc

structure Rely (S F : Nat -> Prop) (w w2 : World) : Prop where
 size : w.heap.size <= w2.heap.size
 tape : w2.tape = w.tape
 keep : ∀ b, S b \/ F b -> w2.heap[b]? = w.heap[b]?
def EvS (S F : Nat -> Prop) (e : Event) : Prop := (∃ ad, e.loc = .cell ad /\ e.sync = false /\ (S ad.block \/ (F ad.block /\ e.write = false))) \/ (∃ m, e.loc = .mark m /\ m.mute' = true) \/ (∃ r, e.loc = .obj r /\ (S r \/ F r) /\ e.write = false /\ e.sync = false)
def grow (S : Nat -> Prop) (w w1 : World) : Nat -> Prop := fun b => S b \/ (w.heap.size <= b /\ b < w1.heap.size)
structure Own (S F : Nat -> Prop) (w w1 : World) (es : Array Event) : Prop where
 size : w.heap.size <= w1.heap.size
 tape : w1.tape = w.tape
 os : w1.os = w.os
 output : w1.output = w.output
 old : ∀ b, b < w.heap.size -> ¬ S b -> w1.heap[b]? = w.heap[b]?
 ev : ∀ e ∈ es, EvS (grow S w w1) F e
inductive Way (P : Program) (main : Bool) (F : Nat -> Prop) (K : (Nat -> Prop) -> Goroutine -> World -> Prop) : (Nat -> Prop) -> Goroutine -> World -> Prop
 | stop {S : Nat -> Prop} {g : Goroutine} {w : World} (h : K S g w) : Way P main F K S g w
 | step {S : Nat -> Prop} {g : Goroutine} {w : World} (hg : g.status = .running) (h : ∀ w2, Rely S F w w2 -> ∃ g1 w3 es, stepG P main g w2 = .go g1 w3 es /\ Own S F w2 w3 es)
   (k : ∀ w2 g1 w3 es, Rely S F w w2 -> stepG P main g w2 = .go g1 w3 es -> Way P main F K (grow S w2 w3) g1 w3) : Way P main F K S g w
section
variable {P : Program} {main : Bool} {F S S1 S2 : Nat -> Prop} {K K2 : (Nat -> Prop) -> Goroutine -> World -> Prop} {w w1 w2 w3 : World} {g g1 : Goroutine} {es es2 : Array Event}
theorem Way.bind (h : Way P main F K S g w) (hk : ∀ S g w, K S g w -> Way P main F K2 S g w) : Way P main F K2 S g w := by
 induction h with
 | stop h => exact hk _ _ _ h
 | step hg h _ ih => exact .step hg h ih
end
section
variable {P : Program} {G : Nat -> Bool} {fs : List Nat} {ρ ρ0 : Ren} {main : Bool} {F S : Nat -> Prop} {base : List Frame}
def Ends (P : Program) (G : Nat -> Bool) (fs : List Nat) (F : Nat -> Prop) (base : List Frame) (R : Frame -> World -> Prop) (ρ0 : Ren) (S : Nat -> Prop) (g : Goroutine) (W : World) : Prop :=
 ∃ (x : LSt) (ρ : Ren) (r' : Rec), x.out /\ RR P G fs [] ρ x.r r' /\ g = Conc.G r'.fr base /\ WR P.globals.size F ρ (re x.w W.tape W.drawn) W /\ (∀ a b, ρ a b -> S b \/ F b) /\ ρ0.le ρ /\ ∃ T d, R x.r.fr (re x.w T d)
theorem wr_rely {gs : Nat} {w W W2 : World} (h : WR gs F ρ (re w W.tape W.drawn) W) (hS : ∀ a b, ρ a b -> S b \/ F b) (hr : Rely S F W W2) : WR gs F ρ (re w W2.tape W2.drawn) W2 := by
 refine ⟨rfl, rfl, h.fn, h.inj, fun b hb => Nat.lt_of_lt_of_le (h.low b hb) hr.size, h.glob, h.gsize, h.plain, fun a b q => ?_⟩
 rw [hr.keep b (hS a b q)]
 exact h.block a b q
theorem lr_body {K : List Item} {l l' : List Rec} (h : LR P G fs K ρ l l') : ∀ q ∈ l, okHead P q.fn = true := by
 induction h with
 | nil => intro q h; simp at h
 | cons h hr _ _ ih =>
  intro q hq
  rcases List.mem_cons.1 hq with e | hq
  ·subst e; exact h.body
  ·exact ih q hq
theorem left_grow {ρ1 : Ren} {w w1 W2 W3 : World} (hS : ∀ a b, ρ a b -> S b \/ F b) (h : Left F ρ ρ1 w W2 w1 W3) (hlt : ∀ a b, ρ1 a b -> b < W3.heap.size) : ∀ a b, ρ1 a b -> grow S W2 W3 b \/ F b := fun a b q => by
 rcases h.new a b q with q2 | ⟨_, q2⟩
 ·exact (hS a b q2).imp .inl id
 ·exact .inl (.inr ⟨q2, hlt a b q⟩)
theorem own_of_left {ρ1 : Ren} {w w1 W2 W3 : World} {es : Array Event} (hS : ∀ a b, ρ a b -> S b \/ F b) (h : Left F ρ ρ1 w W2 w1 W3) (hlt : ∀ a b, ρ1 a b -> b < W3.heap.size) (he : ∀ e ∈ es, EvR F ρ1 e) : Own S F W2 W3 es := by
 refine ⟨h.size', h.tape, h.os, h.output, fun b hb hnS => h.old b hb fun a q => (hS a b q).resolve_left hnS, fun e hin => ?_⟩
 have hS1 := left_grow hS h hlt
 rcases he e hin with ⟨ad, a, e1, e2, e3, e4⟩ | hm | ⟨q, a, e1, e2, e3⟩
 ·refine .inl ⟨ad, e1, e3, ?_⟩
  rcases hS1 a ad.block e2 with q | q
  ·exact .inl q
  ·cases hwr : e.write with
   | false => exact .inr ⟨q, rfl⟩
   | true => exact absurd q (e4 hwr)
 ·exact .inr (.inl hm)
 ·exact .inr (.inr ⟨q, e1, hS1 a q e2, e3⟩)
theorem way_sim (hfs : ∀ f, fs.contains f = true -> okBody P G fs f = true) {R : Frame -> World -> Prop} {x : LSt} (hacc : Acc (Nxt P) x) :
  ∀ {ρ : Ren} {r' : Rec} {l' : List Rec} {W : World} {S : Nat -> Prop}, RR P G fs [] ρ x.r r' -> LR P G fs [] ρ x.l l' -> WR P.globals.size F ρ (re x.w W.tape W.drawn) W -> (∀ g, G g = true -> ρ g g) -> (∀ a b, ρ a b -> S b \/ F b) -> ρ0.le ρ ->
   Reach P [catcher] (fun _ _ => True) x -> Reach P [] R x ->
   Way P main F (Ends P G fs F base R ρ0) S (Conc.G r'.fr (l'.map Rec.fr ++ base)) W := by
 induction hacc with
 | intro x _ ih => ?_
 intro ρ r' l' W S h hl hw hG hS hle hR1 hR2
 by_cases hout : x.out
 ·refine .stop ?_
  have e : l' = [] := by
   have := hout.2
   rw [this] at hl
   cases hl
   rfl
  subst e
  exact ⟨x, ρ, r', hout, h, rfl, hw, hS, hle, reach_out h.body hR2 hout⟩
 have h' : RR P G fs (botK [] x.l) ρ x.r r' := by rw [botK_nil]; exact h
 have both : ∀ W2, Rely S F W W2 -> Both P G fs [] F ρ x.r r' x.l l' (re x.w W2.tape W2.drawn) W2 := by
  intro W2 hr
  have hw2 := wr_rely hw hS hr
  have hne : x.r.ret = true -> x.l ≠ [] := fun e1 e2 => hout ⟨e1, e2⟩
  rcases sim_step hfs h' hl hw2 hG hne (.inr (botK_nil _)) with hb | hd
  ·exact hb
  ·exfalso
   obtain ⟨T2, d2, hT, n, fr, w1, e, hm, _⟩ := hR1 W2.tape W2.drawn
   have hnd := not_doomed h.body (lr_body hl) hout e hm
   have hw3 : WR P.globals.size F ρ (re x.w T2 d2) (re W2 T2 d2) := hw2.re T2 d2
   rcases sim_step hfs h' hl hw3 hG hne (.inr (botK_nil _)) with hb | hd3
   ·obtain ⟨r1, l1, w1, _, _, _, _, _, ⟨_, _, e0, hmv⟩, _⟩ := hb
    have hst := hmv W2.tape W2.drawn (fun i _ => (hT i).symm) true [catcher]
    rcases hd [catcher] with ⟨v, w4, es, hx⟩ | ⟨o, w4, es, hx⟩
    ·have e1 := hst.symm.trans hx
     simp only [GStep.go.injEq, Conc.G, Goroutine.mk.injEq] at e1
     have e2 := congrArg Frame.mode e1.1.1
     rw [raise_bad] at e2
     simp only [Rec.bad, Rec.fr] at e2
     split at e2 <;> cases e2
    ·have e1 := hst.symm.trans hx
     cases e1
   ·exact hnd hd3
 refine .step rfl (fun W2 hr => ?_) fun W2 g1 W3 es hr hst => ?_
 ·obtain ⟨r1, l1, w1, r1', l1', w1', ρ1, es, b1, b2, b3, b4, b5, b6, b7⟩ := both W2 hr
  exact ⟨_, w1', es, b2 main base, own_of_left hS b6 (fun a b q => (b5.lt a b q).2) b7⟩
 ·obtain ⟨r1, l1, w1, r1', l1', w1', ρ1, es', b1, b2, b3, b4, b5, b6, b7⟩ := both W2 hr
  have e1 := (b2 main base).symm.trans hst
  simp only [GStep.go.injEq] at e1
  obtain ⟨rfl, rfl, rfl⟩ := e1
  have e2 : re w1 w1'.tape w1'.drawn = w1 := by rw [<- b5.tape, <- b5.drawn]; rfl
  refine ih ⟨r1, l1, w1⟩ ⟨hout, _, _, b1⟩ (by rw [botK_nil] at b3; exact b3) b4 (by rw [e2]; exact b5) (fun g hg => b6.le _ _ (hG g hg)) (left_grow hS b6 fun a b q => (b5.lt a b q).2) (Ren.le_trans hle b6.le) (reach_move hR1 hout b1) (reach_move hR2 hout b1)
end
end Go.Proofs.YtbicafgmfgdckaaGreatDoor
