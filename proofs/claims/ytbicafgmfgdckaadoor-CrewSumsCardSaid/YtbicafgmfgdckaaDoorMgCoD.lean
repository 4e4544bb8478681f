/- Steps of one goroutine at alike records are alike. For any program. One goroutine's steps in alike worlds, with alike records and callers: alike again, or a panic. For any program. One step of a lone run, and of its alike goroutine. For any program. A lone run that ends on every tape: its steps are a tree without an endless branch; a panic cannot lie on it. For any program. A lone run that ends on every tape: the tree of its steps is well founded. For any program. A goroutine that computes by itself, in company: what stands may be read, its own blocks may be written. LONE CONTRACTS HOLD THERE. For any program. A LONE CONTRACT, IN COMPANY. For any program. A goroutine by itself, nobody else turning the heap: LONE RUNS HOLD THERE, under the same numbers of blocks. From any code on. For any program. A lone world out of the company's: what may be touched is kept where it is alike to itself, all else says nothing. For any program. -/
import Derived.Test.YtbicafgmfgdckaaDoorMgCoC
import Derived.Test.YtbicafgmfgdckaaDoorMgCoA
import Derived.Conc.Own
namespace Go.Proofs.YtbicafgmfgdckaaDoor
open Go Go.Conc

/-- Callees, code, bodies that are looked through. -/
def okOps (P : Program) (G : Nat → Bool) (fs : List Nat) (ops : Array Oper) : Bool := ops.all fun o => okOp P G o.op && okTo fs o.op
def okCode (P : Program) (G : Nat → Bool) (fs : List Nat) : Code → Bool
  | .skip | .ret | .label _ | .exit _ => true
  | .seq a b => okCode P G fs a && okCode P G fs b
  | .cond c a b => okX G c && okCode P G fs a && okCode P G fs b
  | .block _ c | .loop c | .scope c => okCode P G fs c
  | .region _ ops _ => okOps P G fs ops
  | _ => false
def okItem (P : Program) (G : Nat → Bool) (fs : List Nat) : Item → Bool
  | .code c | .inLoop c | .inScope c => okCode P G fs c
  | .inBlock _ => true
  | .inRegion ops _ => okOps P G fs ops
  | _ => false
def okBody (P : Program) (G : Nat → Bool) (fs : List Nat) (f : FuncId) : Bool := match P.funcs[f]? with
  | some fn => (match fn.body with | some c => okCode P G fs c | none => false) && (P.inits.idxOf? f).isNone
  | none => false
def okHead (P : Program) (f : FuncId) : Bool := match P.funcs[f]? with
  | some _ => (P.inits.idxOf? f).isNone
  | none => false
theorem head_of {P : Program} {G : Nat → Bool} {fs : List Nat} {f : FuncId} (h : okBody P G fs f = true) : okHead P f = true := by
  unfold okBody at h
  unfold okHead
  cases hf : P.funcs[f]? with
  | none => rw [hf] at h; cases h
  | some fn => rw [hf] at h; simp only [Bool.and_eq_true] at h; exact h.2
/-- A frame that calls and computes alone. -/
structure Rec where
  fn : FuncId
  tmps : Array Value
  todo : List Item
  ret : Bool
def Rec.fr (r : Rec) : Frame := { fn := r.fn, tmps := r.tmps, todo := r.todo, defers := [], mode := if r.ret then .returning else .run, kind := .normal }
def Rec.eval (r : Rec) : Operand → Value
  | .tmp t => r.tmps.getD t undef
  | .const v => v
  | .global g => .pointer (some ⟨g, 0, none⟩)
  | .func f => .func (.func f) #[] #[]
theorem Rec.eval_fr (r : Rec) : r.fr.eval = r.eval := by funext x; cases x <;> rfl
def Rec.finish (r : Rec) (v : Value) : Rec := match r.todo with
  | .inRegion ops (i :: rest) :: k => { r with tmps := (match (ops[i]?).bind (·.dst) with | some d => r.tmps.setIfInBounds d v | none => r.tmps), todo := .inRegion ops rest :: k }
  | _ => r
structure RR (P : Program) (G : Nat → Bool) (fs : List Nat) (ρ : Ren) (r r' : Rec) : Prop where
  fn : r.fn = r'.fn
  todo : r.todo = r'.todo
  ret : r.ret = r'.ret
  tmps : VsR ρ r.tmps r'.tmps
  items : ∀ it ∈ r.todo, okItem P G fs it = true
  body : okHead P r.fn = true
section
variable {P : Program} {G : Nat → Bool} {fs : List Nat} {ρ σ : Ren} {r r' r1 : Rec}
theorem RR.mono (h : RR P G fs ρ r r') (k : ρ.le σ) : RR P G fs σ r r' := ⟨h.fn, h.todo, h.ret, h.tmps.mono k, h.items, h.body⟩
theorem vr_undef : VR ρ undef undef := .tuple rfl fun i h => by simp at h
theorem VsR.getD {cs cs' : Array Value} (h : VsR ρ cs cs') (i : Nat) : VR ρ (cs.getD i undef) (cs'.getD i undef) := by
  rw [Array.getD_eq_getD_getElem?, Array.getD_eq_getD_getElem?]
  rcases h.get i with ⟨e1, e2⟩ | ⟨v, v', e1, e2, hv⟩
  · rw [e1, e2]; exact vr_undef
  · rw [e1, e2]; exact hv
theorem RR.eval (h : RR P G fs ρ r r') (hG : ∀ g, G g = true → ρ g g) : EvalR G ρ r.eval r'.eval := by
  refine ⟨fun x hx => ?_, fun v => ⟨rfl, rfl⟩, fun f => ⟨rfl, rfl⟩⟩
  cases x with
  | tmp t => exact h.tmps.getD t
  | const v => exact vr_pureC hx
  | global g => exact .ptr ⟨hG g hx, rfl, rfl⟩
  | func f => exact .func f rfl fun i h => by simp at h
theorem VR.bool_eq {v v' : Value} (h : VR ρ v v') : (∃ b, v = .bool b ∧ v' = .bool b) ∨ ((∀ b, v ≠ .bool b) ∧ ∀ b, v' ≠ .bool b) := by
  cases h <;> first | exact .inl ⟨_, rfl, rfl⟩ | (right; constructor <;> intro b e <;> cases e; done) | (rename_i q; right; exact ⟨(fun b e => by cases e), (fun b e => by subst e; exact absurd q (by simp [oneV]))⟩)
theorem RR.yielded (h : RR P G fs ρ r r') (ops : Array Oper) : yielded ops r.tmps = yielded ops r'.tmps := by
  funext j
  unfold Go.yielded
  cases hd : (ops[j]?).bind (·.dst) with
  | none => rfl
  | some d =>
    show (match r.tmps[d]? with | some (.bool b) => some b | _ => none) = (match r'.tmps[d]? with | some (.bool b) => some b | _ => none)
    rcases h.tmps.get d with ⟨e1, e2⟩ | ⟨v, v', e1, e2, hv⟩
    · rw [e1, e2]
    · rw [e1, e2]
      cases hv with
      | nilIface _ q => cases v' <;> first | rfl | (cases q; done)
      | _ => rfl
theorem RR.finish (h : RR P G fs ρ r r') {v v' : Value} (hv : VR ρ v v') : RR P G fs ρ (r.finish v) (r'.finish v') := by
  unfold Rec.finish
  rw [← h.todo]
  split
  · rename_i ops i rest k hk
    refine ⟨h.fn, rfl, h.ret, ?_, fun it hit => ?_, h.body⟩
    · dsimp only
      cases (ops[i]?).bind (·.dst) with
      | none => exact h.tmps
      | some d => exact h.tmps.set d hv
    · rcases List.mem_cons.1 hit with e | hit
      · subst e
        exact h.items (.inRegion ops (i :: rest)) (by rw [hk]; simp)
      · exact h.items it (by rw [hk]; simp [hit])
  · exact h
theorem finish_fr (r : Rec) (v : Value) (hi : ∀ it ∈ r.todo, okItem P G fs it = true) : r.fr.finish v = (r.finish v).fr := by
  unfold Rec.finish Frame.finish
  have ht : r.fr.todo = r.todo := rfl
  rw [ht]
  cases hk : r.todo with
  | nil => rfl
  | cons it k =>
    have := hi it (by rw [hk]; simp)
    cases it <;> first | (cases this; done) | rfl | skip
    rename_i ops todo
    cases todo with
    | nil => rfl
    | cons i rest =>
      dsimp only
      cases (ops[i]?).bind (·.dst) <;> rfl
/-- The moves that look at no memory. -/
def ctl (r : Rec) : Option Rec :=
  match r.todo with
  | [] => some { r with ret := true }
  | .code .ret :: _ => some { r with ret := true }
  | .code .skip :: k => some { r with todo := k }
  | .code (.label _) :: k => some { r with todo := k }
  | .inBlock _ :: k => some { r with todo := k }
  | .inScope _ :: k => some { r with todo := k }
  | .code (.seq a b) :: k => some { r with todo := .code a :: .code b :: k }
  | .code (.cond c a b) :: k => (match r.eval c with | .bool t => some { r with todo := .code (if t then a else b) :: k } | _ => none)
  | .code (.block id body) :: k => some { r with todo := .code body :: .inBlock id :: k }
  | .code (.loop body) :: k => some { r with todo := .code body :: .inLoop body :: k }
  | .inLoop body :: k => some { r with todo := .code body :: .inLoop body :: k }
  | .code (.scope body) :: k => some { r with todo := .code body :: .inScope body :: k }
  | .code (.exit id) :: k => (exitTo id k).map fun k' => { r with todo := k' }
  | .code (.region _ ops false) :: k => some { r with todo := .inRegion ops (List.range ops.size) :: k }
  | .inRegion _ [] :: k => some { r with todo := k }
  | .inRegion ops (i :: _) :: _ => if ((ops[i]?).map (Region.wanted · (yielded ops r.tmps))).getD false then none else some (r.finish undef)
  | _ => none
theorem ctl_step (hr : r.ret = false) (hi : ∀ it ∈ r.todo, okItem P G fs it = true) (h : ctl r = some r1) (main : Bool) (base : List Frame) (w : World) : stepG P main (Conc.G r.fr base) w = .go (Conc.G r1.fr base) w #[] := by
  have hfin := finish_fr (P := P) (G := G) (fs := fs) r undef hi
  obtain ⟨fn, tmps, todo, ret⟩ := r
  dsimp only at hr
  subst hr
  unfold ctl at h
  dsimp only at h
  split at h <;> first
    | (injection h with h; subst h; simp [Conc.G, stepG, stepG.exec, Rec.fr]; done)
    | skip
  · rename_i c a b k
    have he := congrFun (Rec.eval_fr ⟨fn, tmps, .code (.cond c a b) :: k, false⟩) c
    split at h
    · rename_i t ht
      injection h with h
      subst h
      rw [ht] at he
      simp only [Rec.fr, Bool.false_eq_true, if_false] at he
      simp [Conc.G, stepG, stepG.exec, Rec.fr, he]
    · cases h
  · rename_i id k
    cases hk : exitTo id k with
    | none => rw [hk] at h; cases h
    | some k' =>
      rw [hk] at h
      injection h with h
      subst h
      simp [Conc.G, stepG, stepG.exec, Rec.fr, hk]
  · rename_i ops i tl k
    split at h
    · cases h
    · rename_i hw
      injection h with h
      subst h
      have e : stepG P main (Conc.G (Rec.fr ⟨fn, tmps, .inRegion ops (i :: tl) :: k, false⟩) base) w = .go (Conc.G ((Rec.fr ⟨fn, tmps, .inRegion ops (i :: tl) :: k, false⟩).finish undef) base) w #[] := by
        simp only [Conc.G, stepG, stepG.exec, Rec.fr, Bool.false_eq_true, if_false]
        rw [if_neg hw]
      rw [e, hfin]
  · cases h
theorem exitTo_mem {id : Nat} : ∀ {k k' : List Item}, exitTo id k = some k' → ∀ it ∈ k', it ∈ k
  | [], _, h, _, _ => by simp [exitTo] at h
  | x :: k, k', h, it, hit => by
    unfold exitTo at h
    split at h
    · rename_i e
      injection e with e1 e2
      subst e2
      split at h
      · injection h with h
        subst h
        exact List.mem_cons_of_mem _ hit
      · exact List.mem_cons_of_mem _ (exitTo_mem h it hit)
    · rename_i e
      injection e with e1 e2
      subst e2
      exact List.mem_cons_of_mem _ (exitTo_mem h it hit)
    · rename_i e; cases e
theorem ctl_rel (h : RR P G fs ρ r r') (hG : ∀ g, G g = true → ρ g g) (hc : ctl r = some r1) : ∃ r1', ctl r' = some r1' ∧ RR P G fs ρ r1 r1' := by
  have hy := h.yielded
  have hf := h.finish (vr_undef (ρ := ρ))
  have hev := h.eval hG
  obtain ⟨h1, h2, h3, h4, h5, h6⟩ := h
  obtain ⟨fn, tmps, todo, ret⟩ := r
  obtain ⟨fn', tmps', todo', ret'⟩ := r'
  dsimp only at h1 h2 h3 h4 h5 h6
  subst h1 h2 h3
  unfold ctl at hc ⊢
  dsimp only at hc ⊢
  split at hc <;> first
    | (injection hc with hc
       subst hc
       refine ⟨_, rfl, rfl, rfl, rfl, h4, ?_, h6⟩
       simp only [List.forall_mem_cons, okItem, okCode, Bool.and_eq_true] at h5 ⊢
       simp_all
       done)
    | skip
  · rename_i c a b k
    simp only [List.forall_mem_cons, okItem, okCode, Bool.and_eq_true] at h5
    have hcx := hev.at_ c h5.1.1.1
    split at hc
    · rename_i t ht
      injection hc with hc
      subst hc
      rw [ht] at hcx
      rcases hcx.bool_eq with ⟨u, e1, e2⟩ | ⟨e1, _⟩
      · injection e1 with e1
        subst e1
        rw [e2]
        refine ⟨_, rfl, rfl, rfl, rfl, h4, ?_, h6⟩
        simp only [List.forall_mem_cons, okItem]
        refine ⟨?_, h5.2⟩
        cases t with
        | true => exact h5.1.1.2
        | false => exact h5.1.2
      · exact absurd rfl (e1 t)
    · cases hc
  · rename_i id k
    cases hk : exitTo id k with
    | none => rw [hk] at hc; cases hc
    | some k' =>
      rw [hk] at hc
      injection hc with hc
      subst hc
      exact ⟨_, rfl, rfl, rfl, rfl, h4, fun it hit => h5 it (List.mem_cons_of_mem _ (exitTo_mem hk it hit)), h6⟩
  · rename_i ops i tl k
    rw [← hy ops]
    split at hc
    · cases hc
    · rename_i hw
      injection hc with hc
      subst hc
      rw [if_neg hw]
      exact ⟨_, rfl, hf⟩
  · cases hc
end
end Go.Proofs.YtbicafgmfgdckaaDoor
namespace Go.Proofs.YtbicafgmfgdckaaDoor
open Go Go.Conc

section
variable {P : Program} {fr : Frame} {cs : List Frame} {s : Sem Next} {w w1 : World} {es : Array Event}
theorem run_of {h : Result Next} (e : s.runT P w #[] = (h, es)) : s.run P w = h ∧ s.events P w #[] = es := by
  refine ⟨?_, ?_⟩
  · rw [← Sem.runT_fst P s w #[], e]
  · unfold Sem.events; rw [e]
theorem apply_value {v : Value} (hk : fr.kind = .normal) (h : s.runT P w #[] = (.ok (.value v) w1, es)) : stepG.apply P true fr cs none s w = .go (Conc.G (fr.finish v) cs) w1 (seen P fr.fn es) := by
  obtain ⟨e1, e2⟩ := run_of h
  simp [stepG.apply, e1, e2, hk, GStep.after, Conc.G]
theorem apply_skip (hk : fr.kind = .normal) (h : s.runT P w #[] = (.ok .skip w1, es)) : stepG.apply P true fr cs none s w = .go (Conc.G (fr.finish undef) cs) w1 (seen P fr.fn es) := by
  obtain ⟨e1, e2⟩ := run_of h
  simp [stepG.apply, e1, e2, hk, GStep.after, Conc.G]
theorem apply_enter {f : FuncId} {as : Array Value} {ops : Array Oper} {t : List Nat} {k : List Item} (hk : fr.kind = .normal) (ht : fr.todo = .inRegion ops t :: k) (h : s.runT P w #[] = (.ok (.enter f as) w1, es)) : stepG.apply P true fr cs none s w = .go (Conc.G (Frame.enter P f as .normal) (fr :: cs)) w1 (seen P fr.fn es) := by
  obtain ⟨e1, e2⟩ := run_of h
  simp [stepG.apply, e1, e2, hk, GStep.after, Conc.G, ht]
theorem apply_dull {h' : Halt} (h : s.runT P w #[] = (.halt h' w1, es)) (hd : dull h' = true) : (∃ v w2 es', stepG.apply P true fr cs none s w = .go (Conc.G (fr.raise [{ v, recovered := false }]) cs) w2 es') ∨ ∃ o w2 es2, stepG.apply P true fr cs none s w = .ended o w2 es2 := by
  obtain ⟨e1, e2⟩ := run_of h
  cases h' with
  | panic v => left; refine ⟨v, w1, ?_⟩; simp only [stepG.apply, Sem.runT_eq, e1, if_true, GStep.after, Conc.G]; exact ⟨_, rfl⟩
  | stuck why => right; simp only [stepG.apply, Sem.runT_eq, e1, if_true, GStep.after]; exact ⟨_, _, _, rfl⟩
  | unsupported u => cases u <;> first | (cases hd; done) | (right; simp only [stepG.apply, Sem.runT_eq, e1, if_true, GStep.after]; exact ⟨_, _, _, rfl⟩)
  | _ => cases hd
theorem seen_mem {f : FuncId} {es : Array Event} {e : Event} (h : e ∈ seen P f es) : e ∈ es := by
  unfold seen at h
  dsimp only at h
  rw [← Array.foldl_toList] at h
  have key : ∀ (l : List Event) (q : Bool × Array Event), e ∈ (l.foldl (fun (q : Bool × Array Event) e => match e.loc with
      | .mark (.extern f) => ((P.funcs[f]?).any (·.norace), q.2)
      | _ => (q.1, if q.1 && !e.sync then q.2 else q.2.push e)) q).2 → e ∈ q.2 ∨ e ∈ l := by
    intro l
    induction l with
    | nil => intro q h; exact .inl h
    | cons a l ih =>
      intro q h
      rw [List.foldl_cons] at h
      rcases ih _ h with h | h
      · split at h
        · exact .inl h
        · dsimp only at h
          split at h
          · exact .inl h
          · rcases Array.mem_push.1 h with h | h
            · exact .inl h
            · subst h; exact .inr (by simp)
      · exact .inr (by simp [h])
  rcases key es.toList _ h with h | h
  · simp at h
  · simpa using h
end
/-- Callers alike. -/
inductive LR (P : Program) (G : Nat → Bool) (fs : List Nat) (ρ : Ren) : List Rec → List Rec → Prop
  | nil : LR P G fs ρ [] []
  | cons {r r' : Rec} {l l' : List Rec} (h : RR P G fs ρ r r') (hr : r.ret = false) (k : LR P G fs ρ l l') : LR P G fs ρ (r :: l) (r' :: l')
section
variable {P : Program} {G : Nat → Bool} {fs : List Nat} {ρ σ : Ren}
theorem LR.mono {l l' : List Rec} (h : LR P G fs ρ l l') (k : ρ.le σ) : LR P G fs σ l l' := by
  induction h with
  | nil => exact .nil
  | cons q hr _ ih => exact .cons (q.mono k) hr ih
/-- Results. -/
theorem sr_resultList {ts ts' : Array Value} (h : VsR ρ ts ts') : ∀ (l : List ResultVar) (σ : Ren), ρ.le σ → SR P LsR σ
      (l.mapM fun (r : ResultVar) => (match r with | .tmp t => pure (ts.getD t undef) | .cell a t => do loadVar t (← asAddr (ts.getD a undef)) : Sem Value))
      (l.mapM fun (r : ResultVar) => (match r with | .tmp t => pure (ts'.getD t undef) | .cell a t => do loadVar t (← asAddr (ts'.getD a undef)) : Sem Value))
  | [], σ, _ => by rw [List.mapM_nil, List.mapM_nil]; exact SR.pure .nil
  | r :: l, σ, hl => by
    rw [List.mapM_cons, List.mapM_cons]
    have one : SR P VR σ (match r with | .tmp t => pure (ts.getD t undef) | .cell a t => do loadVar t (← asAddr (ts.getD a undef)) : Sem Value) (match r with | .tmp t => pure (ts'.getD t undef) | .cell a t => do loadVar t (← asAddr (ts'.getD a undef)) : Sem Value) := by
      cases r with
      | tmp t => exact SR.pure ((h.mono hl).getD t)
      | cell a t => exact (sr_asAddr ((h.mono hl).getD a)).bind' fun _ _ _ _ ha => sr_loadVar t ha
    refine one.bind' fun σ2 v v' hl2 hv => ?_
    refine (sr_resultList h l σ2 (Ren.le_trans hl hl2)).bind' fun τ a b hl3 q => ?_
    exact SR.pure (.cons (hv.mono hl3) q)
theorem sr_results {fn : Func} {ts ts' : Array Value} (h : VsR ρ ts ts') : SR P VR ρ (results fn ts) (results fn ts') := by
  unfold results
  rw [Array.mapM_eq_mapM_toList, Array.mapM_eq_mapM_toList]
  have key := sr_resultList (P := P) h fn.results.toList ρ (Ren.le_refl _)
  refine SR.bind' (X := fun σ a b => VsR σ a b) (SR.bind' key fun σ a b hl q => SR.pure q.array) fun σ vs vs' hl q => ?_
  refine SR.pure ?_
  by_cases e : vs.size = 1
  · rw [dif_pos e, dif_pos (q.size ▸ e)]
    exact q.at_ 0 (by omega) (by rw [← q.size]; omega)
  · rw [dif_neg e, dif_neg (fun e2 => e (q.size.trans e2))]
    exact .tuple q.size q.at_
end
end Go.Proofs.YtbicafgmfgdckaaDoor
namespace Go.Proofs.YtbicafgmfgdckaaDoor
open Go Go.Conc

section
variable {P : Program} {G : Nat → Bool} {fs : List Nat} {ρ σ : Ren} {r r' r1 : Rec} {l l' : List Rec} {w w' w1 : World} {F : Nat → Prop}
theorem ctl_none (hi : ∀ it ∈ r.todo, okItem P G fs it = true) (h : ctl r = none) :
    (∃ c a b k, r.todo = .code (.cond c a b) :: k ∧ ∀ t, r.eval c ≠ .bool t) ∨ (∃ id k, r.todo = .code (.exit id) :: k ∧ exitTo id k = none) ∨ (∃ id ops k, r.todo = .code (.region id ops true) :: k) ∨
    (∃ ops i tl k o, r.todo = .inRegion ops (i :: tl) :: k ∧ ops[i]? = some o ∧ Region.wanted o (yielded ops r.tmps) = true) := by
  obtain ⟨fn, tmps, todo, ret⟩ := r
  dsimp only at hi ⊢
  cases todo with
  | nil => cases h
  | cons it k =>
    have hit := hi it (by simp)
    cases it with
    | code c =>
      cases c with
      | cond c a b =>
        refine .inl ⟨c, a, b, k, rfl, fun t e => ?_⟩
        simp only [ctl, e] at h
        cases h
      | exit id =>
        refine .inr (.inl ⟨id, k, rfl, ?_⟩)
        simpa [ctl] using h
      | region id ops d =>
        cases d with
        | true => exact .inr (.inr (.inl ⟨id, ops, k, rfl⟩))
        | false => cases h
      | _ => first | (cases h; done) | (cases hit; done)
    | inRegion ops t =>
      cases t with
      | nil => cases h
      | cons i tl =>
        refine .inr (.inr (.inr ?_))
        simp only [ctl] at h
        split at h
        · rename_i hw
          cases ho : ops[i]? with
          | none => rw [ho] at hw; cases hw
          | some o => rw [ho] at hw; exact ⟨ops, i, tl, k, o, rfl, ho, hw⟩
        · cases h
    | _ => first | (cases h; done) | (cases hit; done)
/-- A step of the lone run, whatever the tape holds elsewhere. -/
def Moves (P : Program) (r : Rec) (l : List Rec) (w : World) (r1 : Rec) (l1 : List Rec) (w1 : World) : Prop :=
  w.drawn ≤ w1.drawn ∧ w1.tape = w.tape ∧ ∃ e0, ∀ T d, Same2 w w1 T d → ∀ main base, stepG P main (Conc.G r.fr (l.map Rec.fr ++ base)) (re w T d) = .go (Conc.G r1.fr (l1.map Rec.fr ++ base)) (re w1 T (d + (w1.drawn - w.drawn))) e0
/-- The lone run panics, or ends there. -/
def Doomed (P : Program) (r : Rec) (l : List Rec) (w : World) : Prop := ∀ base, (∃ v w2 es, stepG P true (Conc.G r.fr (l.map Rec.fr ++ base)) w = .go (Conc.G (r.fr.raise [{ v, recovered := false }]) (l.map Rec.fr ++ base)) w2 es) ∨
  ∃ o w2 es, stepG P true (Conc.G r.fr (l.map Rec.fr ++ base)) w = .ended o w2 es
/-- A step of both. -/
def Both (P : Program) (G : Nat → Bool) (fs : List Nat) (F : Nat → Prop) (ρ : Ren) (r r' : Rec) (l l' : List Rec) (w w' : World) : Prop :=
  ∃ r1 l1 w1 r1' l1' w1' ρ1 es, Moves P r l w r1 l1 w1 ∧ (∀ main base, stepG P main (Conc.G r'.fr (l'.map Rec.fr ++ base)) w' = .go (Conc.G r1'.fr (l1'.map Rec.fr ++ base)) w1' es) ∧
    RR P G fs ρ1 r1 r1' ∧ LR P G fs ρ1 l1 l1' ∧ WR P.globals.size F ρ1 w1 w1' ∧ Left F ρ ρ1 w w' w1 w1' ∧ ∀ e ∈ es, EvR F ρ1 e
theorem moves_still (h : ∀ main base (w : World), stepG P main (Conc.G r.fr (l.map Rec.fr ++ base)) w = .go (Conc.G r1.fr (l'.map Rec.fr ++ base)) w #[]) : Moves P r l w r1 l' w :=
  ⟨Nat.le_refl _, rfl, #[], fun T d _ main base => by rw [Nat.sub_self, Nat.add_zero]; exact h main base _⟩
theorem fr_at (hr : r.ret = false) : r.fr = r.fr.at ⟨r.tmps, []⟩ r.todo := by
  obtain ⟨fn, tmps, todo, ret⟩ := r
  dsimp only at hr
  subst hr
  rfl
theorem oper_step {ops : Array Oper} {i : Nat} {tl : List Nat} {k : List Item} {o : Oper} (hr : r.ret = false) (ht : r.todo = .inRegion ops (i :: tl) :: k) (ho : ops[i]? = some o) (hw : Region.wanted o (yielded ops r.tmps) = true) (main : Bool) (base : List Frame) (w : World) :
    stepG P main (Conc.G r.fr base) w = stepG.apply P true r.fr base none (execOp r.eval o) w := by
  have e := fr_at hr
  rw [ht] at e
  have e2 : (Act.mk r.tmps []).eval = r.eval := by funext x; cases x <;> rfl
  rw [e, stepG_oper (a := ⟨r.tmps, []⟩) ho hw, e2]
theorem rec_enter (P : Program) (f : FuncId) (as : Array Value) : Frame.enter P f as .normal = Rec.fr ⟨f, (Frame.enter P f as .normal).tmps, (Frame.enter P f as .normal).todo, false⟩ := rfl
theorem rr_enter {f : FuncId} (hb : okBody P G fs f = true) {as as' : Array Value} (h : VsR ρ as as') : RR P G fs ρ ⟨f, (Frame.enter P f as .normal).tmps, (Frame.enter P f as .normal).todo, false⟩ ⟨f, (Frame.enter P f as' .normal).tmps, (Frame.enter P f as' .normal).todo, false⟩ := by
  refine ⟨rfl, rfl, rfl, ?_, fun it hit => ?_, head_of hb⟩
  · show VsR ρ (as ++ Array.replicate _ undef) (as' ++ Array.replicate _ undef)
    rw [h.size]
    refine h.append ⟨rfl, fun i h1 h2 => ?_⟩
    simp only [Array.getElem_replicate]
    exact vr_undef
  · simp only [Frame.enter, List.mem_singleton] at hit
    subst hit
    unfold okBody at hb
    cases hf : P.funcs[f]? with
    | none => rw [hf] at hb; cases hb
    | some fn =>
      rw [hf] at hb
      dsimp only at hb
      cases hc : fn.body with
      | none => rw [hc] at hb; cases hb
      | some c =>
        rw [hc] at hb
        simp only [Bool.and_eq_true] at hb
        simpa [okItem, hc] using hb.1
theorem sim_op (hfs : ∀ f, fs.contains f = true → okBody P G fs f = true) (h : RR P G fs ρ r r') (hl : LR P G fs ρ l l') (hw : WR P.globals.size F ρ w w') (hG : ∀ g, G g = true → ρ g g) (hr : r.ret = false)
    {ops : Array Oper} {i : Nat} {tl : List Nat} {k : List Item} {o : Oper} (ht : r.todo = .inRegion ops (i :: tl) :: k) (ho : ops[i]? = some o) (hwa : Region.wanted o (yielded ops r.tmps) = true) :
    Both P G fs F ρ r r' l l' w w' ∨ Doomed P r l w := by
  have hit := h.items (.inRegion ops (i :: tl)) (by rw [ht]; simp)
  have hoo : okOp P G o.op = true ∧ okTo fs o.op = true := by
    unfold okItem okOps at hit
    rw [Array.all_eq_true] at hit
    obtain ⟨hi, e⟩ := Array.getElem?_eq_some_iff.1 ho
    have := hit i hi
    rw [e, Bool.and_eq_true] at this
    exact this
  have hr' : r'.ret = false := h.ret ▸ hr
  have ht' : r'.todo = .inRegion ops (i :: tl) :: k := h.todo ▸ ht
  have hwa' : Region.wanted o (yielded ops r'.tmps) = true := by rw [← h.yielded]; exact hwa
  have hsr := sr_exec (fs := fs) hw.glob (P := P) (o := o) hoo.1 hoo.2 (h.eval hG)
  have s1 := fun main base W => oper_step (P := P) hr ht ho hwa main base W
  have s2 := fun main base W => oper_step (P := P) hr' ht' ho hwa' main base W
  cases hrun : (execOp r.eval o).runT P w #[] with
  | mk res es1 =>
    cases res with
    | halt hh w1 =>
      right
      intro base
      have hd := run_SR_halt P hsr w w' #[] hw hh w1 es1 hrun
      rw [s1 true _ w]
      exact apply_dull hrun hd
    | ok x w1 =>
      left
      obtain ⟨ρ1, x', w1', new, r1, r2, r3, r4, r5⟩ := run_SR P hsr w w' #[] #[] hw x w1 es1 hrun
      rw [Array.empty_append] at r1
      obtain ⟨q1, q2, q3⟩ := run_SR_tape P hsr w w' #[] hw x w1 es1 hrun
      have hev : ∀ f, ∀ e ∈ seen P f new, EvR F ρ1 e := fun f e he => r5 e (seen_mem he)
      have hm := h.mono r4.le
      have hlm := hl.mono r4.le
      cases r2 with
      | @value v v' hv =>
        refine ⟨r.finish v, l, w1, r'.finish v', l', w1', ρ1, seen P r'.fr.fn new, ⟨q1, q2, seen P r.fr.fn es1, fun T d hT main base => ?_⟩, fun main base => ?_, hm.finish hv, hlm, r3, r4, hev r'.fr.fn⟩
        · rw [s1, apply_value rfl (q3 T d hT), finish_fr r v h.items]
        · rw [s2, apply_value rfl r1, finish_fr r' v' (h.todo ▸ h.items)]
      | skip =>
        refine ⟨r.finish undef, l, w1, r'.finish undef, l', w1', ρ1, seen P r'.fr.fn new, ⟨q1, q2, seen P r.fr.fn es1, fun T d hT main base => ?_⟩, fun main base => ?_, hm.finish vr_undef, hlm, r3, r4, hev r'.fr.fn⟩
        · rw [s1, apply_skip rfl (q3 T d hT), finish_fr r undef h.items]
        · rw [s2, apply_skip rfl r1, finish_fr r' undef (h.todo ▸ h.items)]
      | @enter f as as' hf hv =>
        refine ⟨_, r :: l, w1, _, r' :: l', w1', ρ1, seen P r'.fr.fn new, ⟨q1, q2, seen P r.fr.fn es1, fun T d hT main base => ?_⟩, fun main base => ?_, rr_enter (hfs f hf) hv, .cons hm hr hlm, r3, r4, hev r'.fr.fn⟩
        · rw [s1, apply_enter rfl (show r.fr.todo = _ from ht) (q3 T d hT), rec_enter]
          rfl
        · rw [s2, apply_enter rfl (show r'.fr.todo = _ from ht') r1, rec_enter]
          rfl
theorem sim_draw (h : RR P G fs ρ r r') (hl : LR P G fs ρ l l') (hw : WR P.globals.size F ρ w w') (hr : r.ret = false) {id : Nat} {ops : Array Oper} {k : List Item} (ht : r.todo = .code (.region id ops true) :: k) :
    Both P G fs F ρ r r' l l' w w' := by
  have hr' : r'.ret = false := h.ret ▸ hr
  have ht' : r'.todo = .code (.region id ops true) :: k := h.todo ▸ ht
  have hit := h.items (.code (.region id ops true)) (by rw [ht]; simp)
  have step : ∀ (q : Rec) (main : Bool) (base : List Frame) (W : World), q.ret = false → q.todo = .code (.region id ops true) :: k →
      stepG P main (Conc.G q.fr base) W = .go (Conc.G (Rec.fr { q with todo := .inRegion ops (Region.schedule (P.follows .mixedOrders) ops (W.tape W.drawn (.order q.fn id))) :: k }) base) { W with drawn := W.drawn + 1 } #[] := by
    intro q main base W h1 h2
    obtain ⟨fn, tmps, todo, ret⟩ := q
    dsimp only at h1 h2
    subst h1 h2
    simp [Conc.G, stepG, stepG.exec, Rec.fr, choose, Sem.run, Question.forced, Question.cut, bind, Sem.bind, pure]
  have hit2 : ∀ T : List Nat, ∀ it ∈ (Item.inRegion ops T :: k), okItem P G fs it = true := fun T it hi => by
    rcases List.mem_cons.1 hi with e | hi
    · subst e; exact hit
    · exact h.items it (by rw [ht]; simp [hi])
  refine ⟨{ r with todo := .inRegion ops (Region.schedule (P.follows .mixedOrders) ops (w.tape w.drawn (.order r.fn id))) :: k }, l, { w with drawn := w.drawn + 1 }, { r' with todo := .inRegion ops (Region.schedule (P.follows .mixedOrders) ops (w.tape w.drawn (.order r.fn id))) :: k }, l', { w' with drawn := w'.drawn + 1 }, ρ, #[], ⟨Nat.le_succ _, rfl, #[], fun T d hT main base => ?_⟩, fun main base => ?_, ⟨h.fn, rfl, h.ret, h.tmps, hit2 _, h.body⟩, hl, hw.draw, ⟨Ren.le_refl _, Nat.le_refl _, Nat.le_refl _, rfl, rfl, rfl, fun _ _ _ => rfl, fun _ _ q => .inl q, fun e q => ⟨e, q⟩⟩, fun e he => by simp at he⟩
  · rw [step r main _ _ hr ht]
    have e0 := hT 0 (by simp)
    simp only [Nat.add_zero] at e0
    have e1 : (re w T d).tape (re w T d).drawn (.order r.fn id) = w.tape w.drawn (.order r.fn id) := by show T d _ = _; rw [e0]
    rw [e1]
    have e2 : d + (({ w with drawn := w.drawn + 1 } : World).drawn - w.drawn) = d + 1 := by show d + (w.drawn + 1 - w.drawn) = d + 1; omega
    rw [e2]
    rfl
  · rw [step r' main _ _ hr' ht', ← hw.tape, ← hw.drawn, ← h.fn]
theorem rec_body (h : okHead P r.fn = true) : ∃ fn, P.funcs[r.fn]? = some fn ∧ True := by
  unfold okHead at h
  cases hf : P.funcs[r.fn]? with
  | none => rw [hf] at h; cases h
  | some fn => exact ⟨fn, rfl, trivial⟩
theorem rec_init (h : okHead P r.fn = true) : P.inits.idxOf? r.fn = none := by
  unfold okHead at h
  cases hf : P.funcs[r.fn]? with
  | none => rw [hf] at h; cases h
  | some fn =>
    rw [hf] at h
    simpa using h
theorem ret_step (hr : r.ret = true) {fn : Func} (hf : P.funcs[r.fn]? = some fn) (main : Bool) (base : List Frame) (w : World) : stepG P main (Conc.G r.fr base) w =
    GStep.after (seen P r.fn ((results fn r.tmps).runT P w #[]).2) (match ((results fn r.tmps).runT P w #[]).1 with
      | .ok v w => doReturn P main r.fr base none v w
      | .halt (.stuck s) w => .ended (.stuck s (r.fr.pos P)) w
      | .halt _ w => .ended (.stuck "return: the result variables cannot be read" (r.fr.pos P)) w) := by
  obtain ⟨fn, tmps, todo, ret⟩ := r
  dsimp only at hr hf
  subst hr
  simp only [Conc.G, stepG, Rec.fr, unwind, hf, if_true]
  rfl
theorem sim_ret {q q' : Rec} (h : RR P G fs ρ r r') (hc : RR P G fs ρ q q') (hq : q.ret = false) (hl : LR P G fs ρ l l') (hw : WR P.globals.size F ρ w w') (hr : r.ret = true) :
    Both P G fs F ρ r r' (q :: l) (q' :: l') w w' ∨ Doomed P r (q :: l) w := by
  have hr' : r'.ret = true := h.ret ▸ hr
  obtain ⟨fn, hf, hok⟩ := rec_body h.body
  have hf' : P.funcs[r'.fn]? = some fn := h.fn ▸ hf
  have hsr := sr_results (P := P) (fn := fn) h.tmps
  have hq' : q'.ret = false := hc.ret ▸ hq
  have ret : ∀ (x y : Rec) (main : Bool) (base : List Frame) (v : Value) (W : World), (∀ it ∈ y.todo, okItem P G fs it = true) → doReturn P main x.fr (y.fr :: base) none v W = .go (Conc.G (y.finish v).fr base) W #[] := by
    intro x y main base v W hy
    simp only [doReturn, Rec.fr, Conc.G]
    have := finish_fr (P := P) (G := G) (fs := fs) y v hy
    simp only [Rec.fr] at this
    rw [this]
  have s1 := fun main base W => ret_step (P := P) hr hf main base W
  have s2 := fun main base W => ret_step (P := P) hr' hf' main base W
  cases hrun : (results fn r.tmps).runT P w #[] with
  | mk res es1 =>
    cases res with
    | halt hh w1 =>
      right
      intro base
      right
      rw [s1 true _ w, hrun]
      cases hh <;> exact ⟨_, _, _, rfl⟩
    | ok v w1 =>
      left
      obtain ⟨ρ1, v', w1', new, r1, r2, r3, r4, r5⟩ := run_SR P hsr w w' #[] #[] hw v w1 es1 hrun
      rw [Array.empty_append] at r1
      obtain ⟨q1, q2, q3⟩ := run_SR_tape P hsr w w' #[] hw v w1 es1 hrun
      have hcm := hc.mono r4.le
      have aft : ∀ (es : Array Event) (g : Goroutine) (W : World), GStep.after es (.go g W #[]) = .go g W es := fun es g W => by simp [GStep.after]
      refine ⟨q.finish v, l, w1, q'.finish v', l', w1', ρ1, seen P r'.fn new, ⟨q1, q2, seen P r.fn es1, fun T d hT main base => ?_⟩, fun main base => ?_, hcm.finish r2, hl.mono r4.le, r3, r4, fun e he => r5 e (seen_mem he)⟩
      · rw [s1, q3 T d hT]
        dsimp only
        rw [List.map_cons, List.cons_append, ret r q main _ v _ hc.items, aft]
      · rw [s2, r1]
        dsimp only
        rw [List.map_cons, List.cons_append, ret r' q' main _ v' _ (hc.todo ▸ hc.items), aft]
/-- A STEP OF A LONE RUN: the alike goroutine does the like, whoever stands beside it; or the lone run panics. -/
theorem sim_step (hfs : ∀ f, fs.contains f = true → okBody P G fs f = true) (h : RR P G fs ρ r r') (hl : LR P G fs ρ l l') (hw : WR P.globals.size F ρ w w') (hG : ∀ g, G g = true → ρ g g) (hne : r.ret = true → l ≠ []) :
    Both P G fs F ρ r r' l l' w w' ∨ Doomed P r l w := by
  cases hr : r.ret with
  | true =>
    cases hl with
    | nil => exact absurd rfl (hne hr)
    | cons hc hq hl => exact sim_ret h hc hq hl hw hr
  | false =>
    have hr' : r'.ret = false := h.ret ▸ hr
    cases hc : ctl r with
    | some r1 =>
      left
      obtain ⟨r1', e1, e2⟩ := ctl_rel h hG hc
      exact ⟨r1, l, w, r1', l', w', ρ, #[], moves_still fun main base W => ctl_step hr h.items hc main _ W, fun main base => ctl_step hr' (h.todo ▸ h.items) e1 main _ w', e2, hl, hw, .refl, fun e he => by simp at he⟩
    | none =>
      have stop : ∀ {it : Item} {k : List Item}, r.todo = it :: k → (∀ base : List Frame, ∃ o w2 es, stepG.exec P true true r.fr base none w = .ended o w2 es) → Doomed P r l w := fun {it k} e hh base => by
        right
        have : stepG P true (Conc.G r.fr (l.map Rec.fr ++ base)) w = stepG.exec P true true r.fr (l.map Rec.fr ++ base) none w := by
          simp [stepG, Conc.G, Rec.fr, hr]
        rw [this]
        exact hh _
      rcases ctl_none h.items hc with ⟨c, a, b, k, ht, hb⟩ | ⟨id, k, ht, he⟩ | ⟨id, ops, k, ht⟩ | ⟨ops, i, tl, k, o, ht, ho, hwa⟩
      · right
        refine stop ht fun base => ?_
        have ht2 : r.fr.todo = .code (.cond c a b) :: k := ht
        have he := congrFun (Rec.eval_fr r) c
        unfold stepG.exec
        rw [ht2]
        dsimp only
        rw [he]
        cases hv : r.eval c with
        | bool t => exact absurd hv (hb t)
        | _ => exact ⟨_, _, _, rfl⟩
      · right
        refine stop ht fun base => ?_
        have ht2 : r.fr.todo = .code (.exit id) :: k := ht
        unfold stepG.exec
        rw [ht2]
        dsimp only
        rw [he]
        exact ⟨_, _, _, rfl⟩
      · exact .inl (sim_draw h hl hw hr ht)
      · exact sim_op hfs h hl hw hG hr ht ho hwa
end
end Go.Proofs.YtbicafgmfgdckaaDoor
namespace Go.Proofs.YtbicafgmfgdckaaDoor
open Go Go.Conc

/-- What stands below a lone run: it lets no panic through, and says nothing on. -/
def catcher : Frame := { fn := 0, tmps := #[], todo := [], defers := [{ target := .nil, args := #[] }], mode := .run, kind := .normal }
structure LSt where
  r : Rec
  l : List Rec
  w : World
/-- A lone run at its end. -/
def LSt.out (x : LSt) : Prop := x.r.ret = true ∧ x.l = []
def Nxt (P : Program) (y x : LSt) : Prop := ¬ x.out ∧ ∃ T d, Moves P x.r x.l (re x.w T d) y.r y.l y.w
abbrev Tape := Nat → Question → Nat
/-- The lone run comes to its end, whatever is drawn from here on. -/
def Reach (P : Program) (base : List Frame) (R : Frame → World → Prop) (x : LSt) : Prop := ∀ (T : Tape) (d : Nat), ∃ (T2 : Tape) (d2 : Nat), (∀ i, T2 (d2 + i) = T (d + i)) ∧ ∃ n fr w1, runN P n (lone x.r.fr (x.l.map Rec.fr ++ base) (re x.w T2 d2)) = .next (lone fr base w1) ∧ fr.mode = .returning ∧ R fr w1
section
variable {P : Program} {R : Frame → World → Prop} {x y : LSt}
theorem lone_go {fr fr' : Frame} {cs cs' : List Frame} {w w' : World} {es : Array Event} (h : stepG P true (Conc.G fr cs) w = .go (Conc.G fr' cs') w' es) : step P (lone fr cs w) = .next (lone fr' cs' w') :=
  step_lone_go (by
    show (stepG P true (Conc.G fr cs) w).bare = _
    rw [h]; rfl)
theorem moves_step {r r1 : Rec} {l l1 : List Rec} {w w1 : World} (h : Moves P r l w r1 l1 w1) {T : Nat → Question → Nat} {d : Nat} (hT : Same2 w w1 T d) (base : List Frame) :
    step P (lone r.fr (l.map Rec.fr ++ base) (re w T d)) = .next (lone r1.fr (l1.map Rec.fr ++ base) (re w1 T (d + (w1.drawn - w.drawn)))) := by
  obtain ⟨_, _, e0, h⟩ := h
  exact lone_go (h T d hT true base)
theorem runN_succ {n : Nat} {m m1 : Machine} (h : step P m = .next m1) : runN P (n + 1) m = runN P n m1 := by simp [runN, h]
theorem runN_ended {n : Nat} {m m2 : Machine} {o : Outcome} {w : World} (h : step P m = .ended o w) (e : runN P n m = .next m2) : m2 = m := by
  cases n with
  | zero => simp [runN] at e; exact e.symm
  | succ n => simp [runN, h] at e
/-! ### a panic goes through to the catcher -/
def Rec.bad (r : Rec) (chain : List PanicEntry) : Frame := { r.fr with mode := .panicking chain }
theorem raise_bad (r : Rec) (chain : List PanicEntry) : r.fr.raise chain = r.bad chain := by
  obtain ⟨fn, tmps, todo, ret⟩ := r
  cases ret <;> rfl
theorem bad_run : ∀ (l : List Rec) (r : Rec) (chain : List PanicEntry) (w : World), okHead P r.fn = true → (∀ q ∈ l, okHead P q.fn = true) → ∀ n fr w1, runN P n (lone (r.bad chain) (l.map Rec.fr ++ [catcher]) w) = .next (lone fr [catcher] w1) → fr.mode ≠ .returning := by
  intro l
  induction l with
  | nil =>
    intro r chain w hr hl n fr w1 e
    have hs : step P (lone (r.bad chain) ([].map Rec.fr ++ [catcher]) w) = .next (lone (catcher.raise chain) [] w) := by
      obtain ⟨fn, hf, _⟩ := rec_body (r := r) hr
      refine lone_go (es := #[]) ?_
      simp [stepG, Conc.G, Rec.bad, Rec.fr, unwind, Frame.catches, hf]
    have hs2 : ∃ o w2, step P (lone (catcher.raise chain) [] w) = .ended o w2 := by
      exact ⟨_, _, step_lone_ended rfl⟩
    obtain ⟨o, w2, hs2⟩ := hs2
    cases n with
    | zero =>
      simp only [runN, Stepped.next.injEq, lone, Machine.mk.injEq] at e
      intro hm
      have := e.2.1
      simp only [Array.mk.injEq, List.cons.injEq, Goroutine.mk.injEq] at this
      rw [← this.1.1] at hm
      cases hm
    | succ n =>
      rw [runN_succ hs] at e
      have := runN_ended hs2 e
      simp [lone] at this
  | cons q l ih =>
    intro r chain w hr hl n fr w1 e
    have hs : step P (lone (r.bad chain) ((q :: l).map Rec.fr ++ [catcher]) w) = .next (lone (q.bad chain) (l.map Rec.fr ++ [catcher]) w) := by
      obtain ⟨fn, hf, _⟩ := rec_body (r := r) hr
      refine lone_go (es := #[]) ?_
      rw [← raise_bad q chain]
      simp [stepG, Conc.G, Rec.bad, Rec.fr, unwind, Frame.catches, hf]
    cases n with
    | zero =>
      simp only [runN, Stepped.next.injEq, lone, Machine.mk.injEq] at e
      intro hm
      have := e.2.1
      simp only [Array.mk.injEq, List.cons.injEq, Goroutine.mk.injEq] at this
      rw [← this.1.1] at hm
      cases hm
    | succ n =>
      rw [runN_succ hs] at e
      exact ih q chain w (hl q (by simp)) (fun y hy => hl y (by simp [hy])) n fr w1 e
theorem not_doomed {r : Rec} {l : List Rec} {w : World} (hr : okHead P r.fn = true) (hl : ∀ q ∈ l, okHead P q.fn = true) (ho : ¬ (r.ret = true ∧ l = [])) {n : Nat} {fr : Frame} {w1 : World}
    (e : runN P n (lone r.fr (l.map Rec.fr ++ [catcher]) w) = .next (lone fr [catcher] w1)) (hm : fr.mode = .returning) : ¬ Doomed P r l w := by
  intro hd
  cases n with
  | zero =>
    simp only [runN, Stepped.next.injEq, lone, Machine.mk.injEq] at e
    have := e.2.1
    simp only [Array.mk.injEq, List.cons.injEq, Goroutine.mk.injEq] at this
    refine ho ⟨?_, ?_⟩
    · rw [← this.1.1] at hm
      cases hr' : r.ret with
      | true => rfl
      | false => rw [show r.fr.mode = .run by simp [Rec.fr, hr']] at hm; cases hm
    · have h2 := this.1.2.1
      have := congrArg List.length h2
      simp at this
      exact this
  | succ n =>
    rcases hd [catcher] with ⟨v, w2, es, h⟩ | ⟨o, w2, es, h⟩
    · rw [runN_succ (lone_go h), raise_bad] at e
      exact bad_run l r _ w2 hr hl n fr w1 e hm
    · have hs : step P (lone r.fr (l.map Rec.fr ++ [catcher]) w) = .ended o w2 := step_lone_ended (by
        show (stepG P true (Conc.G r.fr (l.map Rec.fr ++ [catcher])) w).bare = _
        rw [h]; rfl)
      simp [runN, hs] at e
end
end Go.Proofs.YtbicafgmfgdckaaDoor
namespace Go.Proofs.YtbicafgmfgdckaaDoor
open Go Go.Conc

section
variable {P : Program} {R : Frame → World → Prop} {x y : LSt} {base : List Frame}
theorem out_of_zero {r : Rec} {l : List Rec} {w w1 : World} {fr : Frame} (e : runN P 0 (lone r.fr (l.map Rec.fr ++ base) w) = .next (lone fr base w1)) (hm : fr.mode = .returning) : (r.ret = true ∧ l = []) ∧ r.fr = fr ∧ w = w1 := by
  simp only [runN, Stepped.next.injEq, lone, Machine.mk.injEq] at e
  have := e.2.1
  simp only [Array.mk.injEq, List.cons.injEq, Goroutine.mk.injEq] at this
  refine ⟨⟨?_, ?_⟩, this.1.1, e.1⟩
  · rw [← this.1.1] at hm
    cases hr' : r.ret with
    | true => rfl
    | false => rw [show r.fr.mode = .run by simp [Rec.fr, hr']] at hm; cases hm
  · have h2 := congrArg List.length this.1.2.1
    simp at h2
    exact h2
theorem reach_move (hx : Reach P base R x) (hout : ¬ x.out) {T0 : Tape} {d0 : Nat} (h : Moves P x.r x.l (re x.w T0 d0) y.r y.l y.w) : Reach P base R y := by
  intro T d
  obtain ⟨T2, d2, hT, n, fr, w1, e, hm, hR⟩ := hx (fun p q => if p < y.w.drawn - d0 then T0 (d0 + p) q else T (d + (p - (y.w.drawn - d0))) q) 0
  have hle : d0 ≤ y.w.drawn := h.1
  have hs : Same2 (re x.w T0 d0) y.w T2 d2 := fun i hi => by
    have hi' : d0 + i < y.w.drawn := hi
    rw [hT i]
    funext q
    show (if 0 + i < y.w.drawn - d0 then T0 (d0 + (0 + i)) q else _) = T0 (d0 + i) q
    rw [if_pos (by omega), Nat.zero_add]
  have hst := moves_step h hs base
  cases n with
  | zero => exact absurd (out_of_zero e hm).1 hout
  | succ n =>
    rw [runN_succ (show step P (lone x.r.fr (x.l.map Rec.fr ++ base) (re x.w T2 d2)) = _ from hst)] at e
    refine ⟨T2, d2 + (y.w.drawn - d0), fun i => ?_, n, fr, w1, e, hm, hR⟩
    rw [Nat.add_assoc, hT]
    funext q
    show (if 0 + (y.w.drawn - d0 + i) < y.w.drawn - d0 then _ else T (d + (0 + (y.w.drawn - d0 + i) - (y.w.drawn - d0))) q) = T (d + i) q
    rw [if_neg (by omega)]
    congr 2
    omega
/-- An endless branch. -/
theorem chain_of {α : Type} {S : α → α → Prop} {a : α} (h : ¬ Acc S a) : ∃ f : Nat → α, f 0 = a ∧ ∀ k, S (f (k + 1)) (f k) := by
  have next : ∀ p : { b : α // ¬ Acc S b }, ∃ q : { b : α // ¬ Acc S b }, S q.1 p.1 := fun p => Classical.byContradiction fun hn => p.2 (.intro _ fun y hy => Classical.byContradiction fun hy' => hn ⟨⟨y, hy'⟩, hy⟩)
  let g : Nat → { b : α // ¬ Acc S b } := fun n => Nat.rec ⟨a, h⟩ (fun _ p => (next p).choose) n
  exact ⟨fun n => (g n).1, rfl, fun k => (next (g k)).choose_spec⟩
theorem mono_le {c : Nat → Nat} (h : ∀ k, c k ≤ c (k + 1)) : ∀ {i j : Nat}, i ≤ j → c i ≤ c j := by
  intro i j hij
  induction hij with
  | refl => exact Nat.le_refl _
  | step _ ih => exact Nat.le_trans ih (h _)
/-- One tape out of many. -/
noncomputable def glue (T : Nat → Tape) (d c : Nat → Nat) : Tape := fun p => open Classical in if h : ∃ k, c k ≤ p ∧ p < c (k + 1) then T h.choose (d h.choose + (p - c h.choose)) else T 0 p
theorem glue_at {T : Nat → Tape} {d c : Nat → Nat} (hc : ∀ k, c k ≤ c (k + 1)) {k i : Nat} (h : c k + i < c (k + 1)) : glue T d c (c k + i) = T k (d k + i) := by
  have hex : ∃ k', c k' ≤ c k + i ∧ c k + i < c (k' + 1) := ⟨k, by omega, h⟩
  unfold glue
  rw [dif_pos hex]
  have e : hex.choose = k := by
    obtain ⟨h1, h2⟩ := hex.choose_spec
    rcases Nat.lt_trichotomy hex.choose k with hl | hl | hl
    · have := mono_le hc (show hex.choose + 1 ≤ k from hl); omega
    · exact hl
    · have := mono_le hc (show k + 1 ≤ hex.choose from hl); omega
  rw [e]
  congr 1
  omega
theorem acc_of (hx : ∀ (T : Tape) (d : Nat), ∃ n fr w1, runN P n (lone x.r.fr (x.l.map Rec.fr ++ base) (re x.w T d)) = .next (lone fr base w1) ∧ fr.mode = .returning) : Acc (Nxt P) x := by
  refine Classical.byContradiction fun hn => ?_
  obtain ⟨f, h0, hf⟩ := chain_of hn
  have hT : ∀ k, ∃ p : Tape × Nat, ¬ (f k).out ∧ Moves P (f k).r (f k).l (re (f k).w p.1 p.2) (f (k + 1)).r (f (k + 1)).l (f (k + 1)).w := fun k => by
    obtain ⟨h1, T, d, h2⟩ := hf k
    exact ⟨(T, d), h1, h2⟩
  let T : Nat → Tape := fun k => (hT k).choose.1
  let d : Nat → Nat := fun k => (hT k).choose.2
  have hm : ∀ k, ¬ (f k).out ∧ Moves P (f k).r (f k).l (re (f k).w (T k) (d k)) (f (k + 1)).r (f (k + 1)).l (f (k + 1)).w := fun k => (hT k).choose_spec
  let c : Nat → Nat := fun k => Nat.rec 0 (fun k p => p + ((f (k + 1)).w.drawn - d k)) k
  have hc1 : ∀ k, c (k + 1) = c k + ((f (k + 1)).w.drawn - d k) := fun k => rfl
  have hc : ∀ k, c k ≤ c (k + 1) := fun k => by rw [hc1]; omega
  have hst : ∀ k, step P (lone (f k).r.fr ((f k).l.map Rec.fr ++ base) (re (f k).w (glue T d c) (c k))) = .next (lone (f (k + 1)).r.fr ((f (k + 1)).l.map Rec.fr ++ base) (re (f (k + 1)).w (glue T d c) (c (k + 1)))) := fun k => by
    refine moves_step (hm k).2 (fun i hi => ?_) base
    have hi' : d k + i < (f (k + 1)).w.drawn := hi
    exact glue_at hc (by rw [hc1]; omega)
  have hrun : ∀ k n, runN P (k + n) (lone (f 0).r.fr ((f 0).l.map Rec.fr ++ base) (re (f 0).w (glue T d c) (c 0))) = runN P n (lone (f k).r.fr ((f k).l.map Rec.fr ++ base) (re (f k).w (glue T d c) (c k))) := fun k => by
    induction k with
    | zero => intro n; rw [Nat.zero_add]
    | succ k ih =>
      intro n
      rw [Nat.add_assoc, Nat.add_comm 1 n, ih (n + 1), runN_succ (hst k)]
  obtain ⟨n, fr, w1, e, hmode⟩ := hx (glue T d c) (c 0)
  rw [← h0] at e
  have := hrun n 0
  rw [Nat.add_zero, e] at this
  exact (hm n).1 (out_of_zero this.symm hmode).1
/-- A lone run at its end, with nobody below, goes no further. -/
theorem out_stops {r : Rec} (hb : okHead P r.fn = true) (hr : r.ret = true) (w : World) : ∃ o w2, step P (lone r.fr [] w) = .ended o w2 := by
  obtain ⟨fn, hf, _⟩ := rec_body hb
  have hi := rec_init hb
  have hs := ret_step (P := P) hr hf true [] w
  have key : ∃ o w2 es, stepG P true (Conc.G r.fr []) w = .ended o w2 es := by
    rw [hs]
    cases hrun : (results fn r.tmps).runT P w #[] with
    | mk res es1 =>
      cases res with
      | halt hh w1 => cases hh <;> exact ⟨_, _, _, rfl⟩
      | ok v w1 =>
        have : doReturn P true r.fr [] none v w1 = .ended (.done v) w1 #[] := by
          obtain ⟨f, tmps, todo, ret⟩ := r
          simp only [doReturn, Rec.fr, Bool.not_true, Bool.false_eq_true, if_false]
          dsimp only at hi
          rw [hi]
        dsimp only
        rw [this]
        exact ⟨_, _, _, rfl⟩
  obtain ⟨o, w2, es, h⟩ := key
  exact ⟨o, w2, step_lone_ended (by
    show (stepG P true (Conc.G r.fr []) w).bare = _
    rw [h]; rfl)⟩
theorem reach_out (hb : okHead P x.r.fn = true) (hx : Reach P [] R x) (ho : x.out) : ∃ T d, R x.r.fr (re x.w T d) := by
  obtain ⟨T2, d2, _, n, fr, w1, e, hm, hR⟩ := hx (fun _ _ => 0) 0
  obtain ⟨h1, h2⟩ := ho
  cases n with
  | zero =>
    obtain ⟨_, e1, e2⟩ := out_of_zero e hm
    exact ⟨T2, d2, by rw [e1, e2]; exact hR⟩
  | succ n =>
    rw [h2] at e
    obtain ⟨o, w2, hs⟩ := out_stops hb h1 (re x.w T2 d2)
    have : runN P (n + 1) (lone x.r.fr (List.map Rec.fr [] ++ []) (re x.w T2 d2)) = .ended o w2 := by
      simp only [List.map_nil, List.append_nil, runN, hs]
    rw [this] at e
    cases e
end
end Go.Proofs.YtbicafgmfgdckaaDoor
namespace Go.Proofs.YtbicafgmfgdckaaDoor
open Go Go.Conc

/-- What it suffers: its own blocks (S) and the fixed ones (F) stand. -/
structure Rely (S F : Nat → Prop) (w w2 : World) : Prop where
  size : w.heap.size ≤ w2.heap.size
  tape : w2.tape = w.tape
  keep : ∀ b, S b ∨ F b → w2.heap[b]? = w.heap[b]?
def EvS (S F : Nat → Prop) (e : Event) : Prop := (∃ ad, e.loc = .cell ad ∧ e.sync = false ∧ (S ad.block ∨ (F ad.block ∧ e.write = false))) ∨ (∃ m, e.loc = .mark m ∧ m.mute' = true) ∨ (∃ r, e.loc = .obj r ∧ (S r ∨ F r) ∧ e.write = false ∧ e.sync = false)
/-- Its own blocks, once it has made new ones. -/
def grow (S : Nat → Prop) (w w1 : World) : Nat → Prop := fun b => S b ∨ (w.heap.size ≤ b ∧ b < w1.heap.size)
/-- What it does. -/
structure Own (S F : Nat → Prop) (w w1 : World) (es : Array Event) : Prop where
  size : w.heap.size ≤ w1.heap.size
  tape : w1.tape = w.tape
  os : w1.os = w.os
  output : w1.output = w.output
  old : ∀ b, b < w.heap.size → ¬ S b → w1.heap[b]? = w.heap[b]?
  ev : ∀ e ∈ es, EvS (grow S w w1) F e
inductive Way (P : Program) (main : Bool) (F : Nat → Prop) (K : (Nat → Prop) → Goroutine → World → Prop) : (Nat → Prop) → Goroutine → World → Prop
  | stop {S : Nat → Prop} {g : Goroutine} {w : World} (h : K S g w) : Way P main F K S g w
  | step {S : Nat → Prop} {g : Goroutine} {w : World} (hg : g.status = .running) (h : ∀ w2, Rely S F w w2 → ∃ g1 w3 es, stepG P main g w2 = .go g1 w3 es ∧ Own S F w2 w3 es)
      (k : ∀ w2 g1 w3 es, Rely S F w w2 → stepG P main g w2 = .go g1 w3 es → Way P main F K (grow S w2 w3) g1 w3) : Way P main F K S g w
section
variable {P : Program} {main : Bool} {F S S1 S2 : Nat → Prop} {K K2 : (Nat → Prop) → Goroutine → World → Prop} {w w1 w2 w3 : World} {g g1 : Goroutine} {es es2 : Array Event}
theorem Rely.refl (S F : Nat → Prop) (w : World) : Rely S F w w := ⟨Nat.le_refl _, rfl, fun _ _ => rfl⟩
theorem Rely.trans (h : Rely S F w w1) (k : Rely S F w1 w2) : Rely S F w w2 := ⟨Nat.le_trans h.size k.size, k.tape.trans h.tape, fun b hb => (k.keep b hb).trans (h.keep b hb)⟩
theorem Way.rely (hK : ∀ S g w w2, K S g w → Rely S F w w2 → K S g w2) (h : Way P main F K S g w) (hr : Rely S F w w2) : Way P main F K S g w2 := by
  cases h with
  | stop h => exact .stop (hK _ _ _ _ h hr)
  | step hg h k => exact .step hg (fun w3 hr2 => h w3 (hr.trans hr2)) fun w3 g1 w4 es hr2 => k w3 g1 w4 es (hr.trans hr2)
theorem Way.bind (h : Way P main F K S g w) (hk : ∀ S g w, K S g w → Way P main F K2 S g w) : Way P main F K2 S g w := by
  induction h with
  | stop h => exact hk _ _ _ h
  | step hg h _ ih => exact .step hg h ih
end
section
variable {P : Program} {G : Nat → Bool} {fs : List Nat} {ρ ρ0 : Ren} {main : Bool} {F S : Nat → Prop} {base : List Frame}
/-- At the end of a run that a lone one is alike to. -/
def Ends (P : Program) (G : Nat → Bool) (fs : List Nat) (F : Nat → Prop) (base : List Frame) (R : Frame → World → Prop) (ρ0 : Ren) (S : Nat → Prop) (g : Goroutine) (W : World) : Prop :=
  ∃ (x : LSt) (ρ : Ren) (r' : Rec), x.out ∧ RR P G fs ρ x.r r' ∧ g = Conc.G r'.fr base ∧ WR P.globals.size F ρ (re x.w W.tape W.drawn) W ∧ (∀ a b, ρ a b → S b ∨ F b) ∧ ρ0.le ρ ∧ ∃ T d, R x.r.fr (re x.w T d)
theorem wr_rely {gs : Nat} {w W W2 : World} (h : WR gs F ρ (re w W.tape W.drawn) W) (hS : ∀ a b, ρ a b → S b ∨ F b) (hr : Rely S F W W2) : WR gs F ρ (re w W2.tape W2.drawn) W2 := by
  refine ⟨rfl, rfl, h.fn, h.inj, fun b hb => Nat.lt_of_lt_of_le (h.low b hb) hr.size, h.glob, h.gsize, h.plain, fun a b q => ?_⟩
  rw [hr.keep b (hS a b q)]
  exact h.block a b q
theorem Ends.rely {R : Frame → World → Prop} {g : Goroutine} {W W2 : World} (h : Ends P G fs F base R ρ0 S g W) (hr : Rely S F W W2) : Ends P G fs F base R ρ0 S g W2 := by
  obtain ⟨x, ρ, r', h1, h2, h3, h4, h5, h6⟩ := h
  exact ⟨x, ρ, r', h1, h2, h3, wr_rely h4 h5 hr, h5, h6⟩
theorem lr_body {l l' : List Rec} (h : LR P G fs ρ l l') : ∀ q ∈ l, okHead P q.fn = true := by
  induction h with
  | nil => intro q h; simp at h
  | cons h hr _ ih =>
    intro q hq
    rcases List.mem_cons.1 hq with e | hq
    · subst e; exact h.body
    · exact ih q hq
theorem left_grow {ρ1 : Ren} {w w1 W2 W3 : World} (hS : ∀ a b, ρ a b → S b ∨ F b) (h : Left F ρ ρ1 w W2 w1 W3) (hlt : ∀ a b, ρ1 a b → b < W3.heap.size) : ∀ a b, ρ1 a b → grow S W2 W3 b ∨ F b := fun a b q => by
  rcases h.new a b q with q2 | ⟨_, q2⟩
  · exact (hS a b q2).imp .inl id
  · exact .inl (.inr ⟨q2, hlt a b q⟩)
theorem own_of_left {ρ1 : Ren} {w w1 W2 W3 : World} {es : Array Event} (hS : ∀ a b, ρ a b → S b ∨ F b) (h : Left F ρ ρ1 w W2 w1 W3) (hlt : ∀ a b, ρ1 a b → b < W3.heap.size) (he : ∀ e ∈ es, EvR F ρ1 e) : Own S F W2 W3 es := by
  refine ⟨h.size', h.tape, h.os, h.output, fun b hb hnS => h.old b hb fun a q => (hS a b q).resolve_left hnS, fun e hin => ?_⟩
  have hS1 := left_grow hS h hlt
  rcases he e hin with ⟨ad, a, e1, e2, e3, e4⟩ | hm | ⟨q, a, e1, e2, e3⟩
  · refine .inl ⟨ad, e1, e3, ?_⟩
    rcases hS1 a ad.block e2 with q | q
    · exact .inl q
    · cases hwr : e.write with
      | false => exact .inr ⟨q, rfl⟩
      | true => exact absurd q (e4 hwr)
  · exact .inr (.inl hm)
  · exact .inr (.inr ⟨q, e1, hS1 a q e2, e3⟩)
theorem way_sim (hfs : ∀ f, fs.contains f = true → okBody P G fs f = true) {R : Frame → World → Prop} {x : LSt} (hacc : Acc (Nxt P) x) :
    ∀ {ρ : Ren} {r' : Rec} {l' : List Rec} {W : World} {S : Nat → Prop}, RR P G fs ρ x.r r' → LR P G fs ρ x.l l' → WR P.globals.size F ρ (re x.w W.tape W.drawn) W → (∀ g, G g = true → ρ g g) → (∀ a b, ρ a b → S b ∨ F b) → ρ0.le ρ →
      Reach P [catcher] (fun _ _ => True) x → Reach P [] R x →
      Way P main F (Ends P G fs F base R ρ0) S (Conc.G r'.fr (l'.map Rec.fr ++ base)) W := by
  induction hacc with
  | intro x _ ih => ?_
  intro ρ r' l' W S h hl hw hG hS hle hR1 hR2
  by_cases hout : x.out
  · refine .stop ?_
    have e : l' = [] := by
      have := hout.2
      rw [this] at hl
      cases hl
      rfl
    subst e
    exact ⟨x, ρ, r', hout, h, rfl, hw, hS, hle, reach_out h.body hR2 hout⟩
  have both : ∀ W2, Rely S F W W2 → Both P G fs F ρ x.r r' x.l l' (re x.w W2.tape W2.drawn) W2 := by
    intro W2 hr
    have hw2 := wr_rely hw hS hr
    have hne : x.r.ret = true → x.l ≠ [] := fun e1 e2 => hout ⟨e1, e2⟩
    rcases sim_step hfs h hl hw2 hG hne with hb | hd
    · exact hb
    · exfalso
      obtain ⟨T2, d2, hT, n, fr, w1, e, hm, _⟩ := hR1 W2.tape W2.drawn
      have hnd := not_doomed h.body (lr_body hl) hout e hm
      have hw3 : WR P.globals.size F ρ (re x.w T2 d2) (re W2 T2 d2) := hw2.re T2 d2
      rcases sim_step hfs h hl hw3 hG hne with hb | hd3
      · obtain ⟨r1, l1, w1, _, _, _, _, _, ⟨_, _, e0, hmv⟩, _⟩ := hb
        have hst := hmv W2.tape W2.drawn (fun i _ => (hT i).symm) true [catcher]
        rcases hd [catcher] with ⟨v, w4, es, hx⟩ | ⟨o, w4, es, hx⟩
        · have e1 := hst.symm.trans hx
          simp only [GStep.go.injEq, Conc.G, Goroutine.mk.injEq] at e1
          have e2 := congrArg Frame.mode e1.1.1
          rw [raise_bad] at e2
          simp only [Rec.bad, Rec.fr] at e2
          split at e2 <;> cases e2
        · have e1 := hst.symm.trans hx
          cases e1
      · exact hnd hd3
  refine .step rfl (fun W2 hr => ?_) fun W2 g1 W3 es hr hst => ?_
  · obtain ⟨r1, l1, w1, r1', l1', w1', ρ1, es, b1, b2, b3, b4, b5, b6, b7⟩ := both W2 hr
    exact ⟨_, w1', es, b2 main base, own_of_left hS b6 (fun a b q => (b5.lt a b q).2) b7⟩
  · obtain ⟨r1, l1, w1, r1', l1', w1', ρ1, es', b1, b2, b3, b4, b5, b6, b7⟩ := both W2 hr
    have e1 := (b2 main base).symm.trans hst
    simp only [GStep.go.injEq] at e1
    obtain ⟨rfl, rfl, rfl⟩ := e1
    have e2 : re w1 w1'.tape w1'.drawn = w1 := by rw [← b5.tape, ← b5.drawn]; rfl
    refine ih ⟨r1, l1, w1⟩ ⟨hout, _, _, b1⟩ b3 b4 (by rw [e2]; exact b5) (fun g hg => b6.le _ _ (hG g hg)) (left_grow hS b6 fun a b q => (b5.lt a b q).2) (Ren.le_trans hle b6.le) (reach_move hR1 hout b1) (reach_move hR2 hout b1)
end
end Go.Proofs.YtbicafgmfgdckaaDoor
namespace Go.Proofs.YtbicafgmfgdckaaDoor
open Go Go.Conc

section
variable {P : Program} {G : Nat → Bool} {fs : List Nat} {ρ : Ren} {main : Bool} {F S : Nat → Prop}
/-- Come back with a value, alike to the lone contract's. -/
def Back (P : Program) (F : Nat → Prop) (c : Frame) (rest : List Frame) (R : Value → World → Prop) (ρ : Ren) (S : Nat → Prop) (g : Goroutine) (W : World) : Prop :=
  ∃ v v' ρ1 w1, g = Conc.G (c.finish v') rest ∧ VR ρ1 v v' ∧ (∃ T d, R v (re w1 T d)) ∧ WR P.globals.size F ρ1 (re w1 W.tape W.drawn) W ∧ (∀ a b, ρ1 a b → S b ∨ F b) ∧ ρ.le ρ1
theorem Back.rely {c : Frame} {rest : List Frame} {R : Value → World → Prop} {g : Goroutine} {W W2 : World} (h : Back P F c rest R ρ S g W) (hr : Rely S F W W2) : Back P F c rest R ρ S g W2 := by
  obtain ⟨v, v', ρ1, w1, h1, h2, h3, h4, h5, h6⟩ := h
  exact ⟨v, v', ρ1, w1, h1, h2, h3, wr_rely h4 h5 hr, h5, h6⟩
theorem own_still (S F : Nat → Prop) (w : World) : Own S F w w #[] := ⟨Nat.le_refl _, rfl, rfl, rfl, fun _ _ _ => rfl, fun e he => by simp at he⟩
theorem grow_self (S : Nat → Prop) (w : World) : grow S w w = S := by
  funext b
  unfold grow
  apply propext
  constructor
  · rintro (h | ⟨h1, h2⟩)
    · exact h
    · omega
  · exact .inl
theorem way_call (hfs : ∀ f, fs.contains f = true → okBody P G fs f = true) {f : Nat} (hf : fs.contains f = true) {args args' : Array Value} {w0 W : World} {c : Frame} {rest : List Frame} {R : Value → World → Prop}
    (hw : WR P.globals.size F ρ (re w0 W.tape W.drawn) W) (ha : VsR ρ args args') (hG : ∀ g, G g = true → ρ g g) (hS : ∀ a b, ρ a b → S b ∨ F b)
    (hc : ∀ (T : Tape) (d : Nat), Calls P f args (re w0 T d) (fun e w' => ∃ v, e = .returned v ∧ R v w')) :
    Way P main F (Back P F c rest R ρ) S (Conc.G (Frame.enter P f args' .normal) (c :: rest)) W := by
  let x : LSt := ⟨⟨f, (Frame.enter P f args .normal).tmps, (Frame.enter P f args .normal).todo, false⟩, [], w0⟩
  have hreach : ∀ base : List Frame, ∀ (T : Tape) (d : Nat), ∃ n fr w1, runN P n (lone x.r.fr (x.l.map Rec.fr ++ base) (re x.w T d)) = .next (lone fr base w1) ∧ fr.mode = .returning ∧ (∃ v, R v w1 ∧ ∃ fn, P.funcs[fr.fn]? = some fn ∧ (results fn fr.tmps).run P w1 = .ok v w1) := by
    intro base T d
    obtain ⟨e, w', fr, ⟨v, rfl, hR⟩, hst, hfn, hm, hd, hk, fn, hfn2, hres⟩ := hc T d base
    obtain ⟨n, hn⟩ := hst
    exact ⟨n, fr, w', hn, hm, v, hR, fn, hfn2, hres⟩
  have hacc : Acc (Nxt P) x := acc_of (base := []) fun T d => by
    obtain ⟨n, fr, w1, e, hm, _⟩ := hreach [] T d
    exact ⟨n, fr, w1, e, hm⟩
  have hrr : RR P G fs ρ x.r ⟨f, (Frame.enter P f args' .normal).tmps, (Frame.enter P f args' .normal).todo, false⟩ := rr_enter (hfs f hf) ha
  have h1 := way_sim (main := main) (base := c :: rest) (S := S) (W := W) (ρ0 := ρ) (R := fun fr w1 => ∃ v, R v w1 ∧ ∃ fn, P.funcs[fr.fn]? = some fn ∧ (results fn fr.tmps).run P w1 = .ok v w1) hfs hacc hrr .nil hw hG hS (Ren.le_refl _)
    (fun T d => ⟨T, d, fun _ => rfl, by obtain ⟨n, fr, w1, e, hm, _⟩ := hreach [catcher] T d; exact ⟨n, fr, w1, e, hm, trivial⟩⟩)
    (fun T d => ⟨T, d, fun _ => rfl, hreach [] T d⟩)
  refine Way.bind h1 fun S2 g W2 hE => ?_
  obtain ⟨y, ρ1, r', ⟨hret, _⟩, hr, rfl, hw1, hS1, hle, T, d, v, hR, fn, hfn, hres⟩ := hE
  have hcomp : ∀ W3, Rely S2 F W2 W3 → ∃ ρ2 v' W4 es, stepG P main (Conc.G r'.fr (c :: rest)) W3 = .go (Conc.G (c.finish v') rest) W4 es ∧ VR ρ2 v v' ∧ WR P.globals.size F ρ2 (re y.w W3.tape W3.drawn) W4 ∧ Left F ρ1 ρ2 (re y.w W3.tape W3.drawn) W3 (re y.w W3.tape W3.drawn) W4 ∧ ∀ e ∈ es, EvR F ρ2 e := fun W3 hr3 => by
    have hw3 := wr_rely hw1 hS1 hr3
    have hsr := sr_results (P := P) (fn := fn) hr.tmps
    have hrt : (results fn y.r.tmps).runT P (re y.w T d) #[] = (.ok v (re y.w T d), ((results fn y.r.tmps).runT P (re y.w T d) #[]).2) := by
      refine Prod.ext ?_ rfl
      rw [Sem.runT_fst]
      exact hres
    have h2 := (run_SR_tape P hsr (re y.w T d) (re W3 T d) #[] (hw3.re T d) v _ _ hrt).2.2 W3.tape W3.drawn fun i hi => by
      simp only [re_drawn] at hi
      omega
    simp only [re_re, re_drawn, Nat.sub_self, Nat.add_zero] at h2
    obtain ⟨ρ2, v', W4, new, r1, r2, r3, r4, r5⟩ := run_SR P hsr (re y.w W3.tape W3.drawn) W3 #[] #[] hw3 v _ _ h2
    rw [Array.empty_append] at r1
    refine ⟨ρ2, v', W4, seen P r'.fn new, ?_, r2, r3, r4, fun e he => r5 e (seen_mem he)⟩
    rw [ret_step (hr.ret ▸ hret) (show P.funcs[r'.fn]? = some fn from hr.fn ▸ (show P.funcs[y.r.fn]? = some fn from hfn)), r1]
    simp [doReturn, Rec.fr, GStep.after, Conc.G]
  refine .step rfl (fun W3 hr3 => ?_) fun W3 g1 W4 es hr3 hst => ?_
  · obtain ⟨ρ2, v', W4, es, h1, h2, h3, h4, h5⟩ := hcomp W3 hr3
    exact ⟨_, W4, es, h1, own_of_left hS1 h4 (fun a b q => (h3.lt a b q).2) h5⟩
  · obtain ⟨ρ2, v', W5, es', h1, h2, h3, h4, h5⟩ := hcomp W3 hr3
    rw [h1] at hst
    simp only [GStep.go.injEq] at hst
    obtain ⟨rfl, rfl, rfl⟩ := hst
    have e2 : re y.w W5.tape W5.drawn = re y.w W3.tape W3.drawn := by rw [← h3.tape, ← h3.drawn]; rfl
    exact .stop ⟨v, v', ρ2, y.w, rfl, h2, ⟨T, d, hR⟩, by rw [e2]; exact h3, left_grow hS1 h4 (fun a b q => (h3.lt a b q).2), Ren.le_trans hle h4.le⟩
end
end Go.Proofs.YtbicafgmfgdckaaDoor
namespace Go.Proofs.YtbicafgmfgdckaaDoor
open Go Go.Conc

/-- What it suffers: draws alone. -/
structure RelyA (w w2 : World) : Prop where
  heap : w2.heap = w.heap
  tape : w2.tape = w.tape
inductive WayA (P : Program) (F : Nat → Prop) (K : (Nat → Prop) → Goroutine → World → Prop) : (Nat → Prop) → Goroutine → World → Prop
  | stop {S : Nat → Prop} {g : Goroutine} {w : World} (h : K S g w) : WayA P F K S g w
  | step {S : Nat → Prop} {g : Goroutine} {w : World} (hg : g.status = .running) (h : ∀ w2, RelyA w w2 → ∃ g1 w3 es, stepG P true g w2 = .go g1 w3 es ∧ Own S F w2 w3 es)
      (k : ∀ w2 g1 w3 es, RelyA w w2 → stepG P true g w2 = .go g1 w3 es → WayA P F K (grow S w2 w3) g1 w3) : WayA P F K S g w
abbrev StopR := Frame → World → Prop
/-- A lone run where it stops. -/
def LSt.outR (R : StopR) (x : LSt) : Prop := x.l = [] ∧ ∃ T d, R x.r.fr (re x.w T d)
def NxtR (P : Program) (R : StopR) (y x : LSt) : Prop := ¬ x.outR R ∧ ∃ T d, Moves P x.r x.l (re x.w T d) y.r y.l y.w
def ReachR (P : Program) (base : List Frame) (R : StopR) (x : LSt) : Prop := ∀ (T : Tape) (d : Nat), ∃ (T2 : Tape) (d2 : Nat), (∀ i, T2 (d2 + i) = T (d + i)) ∧ ∃ n fr w1, runN P n (lone x.r.fr (x.l.map Rec.fr ++ base) (re x.w T2 d2)) = .next (lone fr base w1) ∧ R fr w1
section
variable {P : Program} {R : StopR} {x y : LSt} {base : List Frame}
theorem zero_run {r : Rec} {l : List Rec} {w w1 : World} {fr : Frame} (e : runN P 0 (lone r.fr (l.map Rec.fr ++ base) w) = .next (lone fr base w1)) : l = [] ∧ r.fr = fr ∧ w = w1 := by
  simp only [runN, Stepped.next.injEq, lone, Machine.mk.injEq] at e
  have := e.2.1
  simp only [Array.mk.injEq, List.cons.injEq, Goroutine.mk.injEq] at this
  refine ⟨?_, this.1.1, e.1⟩
  have h2 := congrArg List.length this.1.2.1
  simp at h2
  exact h2
theorem zero_out {T : Tape} {d : Nat} {w1 : World} {fr : Frame} (e : runN P 0 (lone x.r.fr (x.l.map Rec.fr ++ base) (re x.w T d)) = .next (lone fr base w1)) (h : R fr w1) : x.outR R := by
  obtain ⟨h1, h2, h3⟩ := zero_run e
  exact ⟨h1, T, d, by rw [h2, h3]; exact h⟩
theorem bad_runR : ∀ (l : List Rec) (r : Rec) (chain : List PanicEntry) (w : World), okHead P r.fn = true → (∀ q ∈ l, okHead P q.fn = true) → ∀ n fr w1, runN P n (lone (r.bad chain) (l.map Rec.fr ++ [catcher]) w) = .next (lone fr [catcher] w1) → ∃ c, fr.mode = .panicking c := by
  intro l
  induction l with
  | nil =>
    intro r chain w hr hl n fr w1 e
    have hs : step P (lone (r.bad chain) ([].map Rec.fr ++ [catcher]) w) = .next (lone (catcher.raise chain) [] w) := by
      obtain ⟨fn, hf, _⟩ := rec_body (r := r) hr
      refine lone_go (es := #[]) ?_
      simp [stepG, Conc.G, Rec.bad, Rec.fr, unwind, Frame.catches, hf]
    have hs2 : ∃ o w2, step P (lone (catcher.raise chain) [] w) = .ended o w2 := by
      exact ⟨_, _, step_lone_ended rfl⟩
    obtain ⟨o, w2, hs2⟩ := hs2
    cases n with
    | zero =>
      simp only [runN, Stepped.next.injEq, lone, Machine.mk.injEq] at e
      have := e.2.1
      simp only [Array.mk.injEq, List.cons.injEq, Goroutine.mk.injEq] at this
      exact ⟨chain, by rw [← this.1.1]; rfl⟩
    | succ n =>
      rw [runN_succ hs] at e
      have := runN_ended hs2 e
      simp [lone] at this
  | cons q l ih =>
    intro r chain w hr hl n fr w1 e
    have hs : step P (lone (r.bad chain) ((q :: l).map Rec.fr ++ [catcher]) w) = .next (lone (q.bad chain) (l.map Rec.fr ++ [catcher]) w) := by
      obtain ⟨fn, hf, _⟩ := rec_body (r := r) hr
      refine lone_go (es := #[]) ?_
      rw [← raise_bad q chain]
      simp [stepG, Conc.G, Rec.bad, Rec.fr, unwind, Frame.catches, hf]
    cases n with
    | zero =>
      simp only [runN, Stepped.next.injEq, lone, Machine.mk.injEq] at e
      have := e.2.1
      simp only [Array.mk.injEq, List.cons.injEq, Goroutine.mk.injEq] at this
      exact ⟨chain, by rw [← this.1.1]; rfl⟩
    | succ n =>
      rw [runN_succ hs] at e
      exact ih q chain w (hl q (by simp)) (fun y hy => hl y (by simp [hy])) n fr w1 e
theorem not_doomedR (hm : ∀ fr w c, R fr w → fr.mode ≠ .panicking c) (hr : okHead P x.r.fn = true) (hl : ∀ q ∈ x.l, okHead P q.fn = true) (ho : ¬ x.outR R) {n : Nat} {T : Tape} {d : Nat} {fr : Frame} {w1 : World}
    (e : runN P n (lone x.r.fr (x.l.map Rec.fr ++ [catcher]) (re x.w T d)) = .next (lone fr [catcher] w1)) (hR : R fr w1) : ¬ Doomed P x.r x.l (re x.w T d) := by
  intro hd
  cases n with
  | zero => exact ho (zero_out e hR)
  | succ n =>
    rcases hd [catcher] with ⟨v, w2, es, h⟩ | ⟨o, w2, es, h⟩
    · rw [runN_succ (lone_go h), raise_bad] at e
      obtain ⟨c, hc⟩ := bad_runR x.l x.r _ w2 hr hl n fr w1 e
      exact hm _ _ c hR hc
    · have hs : step P (lone x.r.fr (x.l.map Rec.fr ++ [catcher]) (re x.w T d)) = .ended o w2 := step_lone_ended (by
        show (stepG P true (Conc.G x.r.fr (x.l.map Rec.fr ++ [catcher])) _).bare = _
        rw [h]; rfl)
      simp [runN, hs] at e
theorem reach_moveR (hx : ReachR P base R x) (hout : ¬ x.outR R) {T0 : Tape} {d0 : Nat} (h : Moves P x.r x.l (re x.w T0 d0) y.r y.l y.w) : ReachR P base R y := by
  intro T d
  obtain ⟨T2, d2, hT, n, fr, w1, e, hR⟩ := hx (fun p q => if p < y.w.drawn - d0 then T0 (d0 + p) q else T (d + (p - (y.w.drawn - d0))) q) 0
  have hle : d0 ≤ y.w.drawn := h.1
  have hs : Same2 (re x.w T0 d0) y.w T2 d2 := fun i hi => by
    have hi' : d0 + i < y.w.drawn := hi
    rw [hT i]
    funext q
    show (if 0 + i < y.w.drawn - d0 then T0 (d0 + (0 + i)) q else _) = T0 (d0 + i) q
    rw [if_pos (by omega), Nat.zero_add]
  have hst := moves_step h hs base
  cases n with
  | zero => exact absurd (zero_out e hR) hout
  | succ n =>
    rw [runN_succ (show step P (lone x.r.fr (x.l.map Rec.fr ++ base) (re x.w T2 d2)) = _ from hst)] at e
    refine ⟨T2, d2 + (y.w.drawn - d0), fun i => ?_, n, fr, w1, e, hR⟩
    rw [Nat.add_assoc, hT]
    funext q
    show (if 0 + (y.w.drawn - d0 + i) < y.w.drawn - d0 then _ else T (d + (0 + (y.w.drawn - d0 + i) - (y.w.drawn - d0))) q) = T (d + i) q
    rw [if_neg (by omega)]
    congr 2
    omega
theorem acc_ofR (hx : ∀ (T : Tape) (d : Nat), ∃ n fr w1, runN P n (lone x.r.fr (x.l.map Rec.fr ++ base) (re x.w T d)) = .next (lone fr base w1) ∧ R fr w1) : Acc (NxtR P R) x := by
  refine Classical.byContradiction fun hn => ?_
  obtain ⟨f, h0, hf⟩ := chain_of hn
  have hT : ∀ k, ∃ p : Tape × Nat, ¬ (f k).outR R ∧ Moves P (f k).r (f k).l (re (f k).w p.1 p.2) (f (k + 1)).r (f (k + 1)).l (f (k + 1)).w := fun k => by
    obtain ⟨h1, T, d, h2⟩ := hf k
    exact ⟨(T, d), h1, h2⟩
  let T : Nat → Tape := fun k => (hT k).choose.1
  let d : Nat → Nat := fun k => (hT k).choose.2
  have hm : ∀ k, ¬ (f k).outR R ∧ Moves P (f k).r (f k).l (re (f k).w (T k) (d k)) (f (k + 1)).r (f (k + 1)).l (f (k + 1)).w := fun k => (hT k).choose_spec
  let c : Nat → Nat := fun k => Nat.rec 0 (fun k p => p + ((f (k + 1)).w.drawn - d k)) k
  have hc1 : ∀ k, c (k + 1) = c k + ((f (k + 1)).w.drawn - d k) := fun k => rfl
  have hc : ∀ k, c k ≤ c (k + 1) := fun k => by rw [hc1]; omega
  have hst : ∀ k, step P (lone (f k).r.fr ((f k).l.map Rec.fr ++ base) (re (f k).w (glue T d c) (c k))) = .next (lone (f (k + 1)).r.fr ((f (k + 1)).l.map Rec.fr ++ base) (re (f (k + 1)).w (glue T d c) (c (k + 1)))) := fun k => by
    refine moves_step (hm k).2 (fun i hi => ?_) base
    have hi' : d k + i < (f (k + 1)).w.drawn := hi
    exact glue_at hc (by rw [hc1]; omega)
  have hrun : ∀ k n, runN P (k + n) (lone (f 0).r.fr ((f 0).l.map Rec.fr ++ base) (re (f 0).w (glue T d c) (c 0))) = runN P n (lone (f k).r.fr ((f k).l.map Rec.fr ++ base) (re (f k).w (glue T d c) (c k))) := fun k => by
    induction k with
    | zero => intro n; rw [Nat.zero_add]
    | succ k ih =>
      intro n
      rw [Nat.add_assoc, Nat.add_comm 1 n, ih (n + 1), runN_succ (hst k)]
  obtain ⟨n, fr, w1, e, hR⟩ := hx (glue T d c) (c 0)
  rw [← h0] at e
  have := hrun n 0
  rw [Nat.add_zero, e] at this
  exact (hm n).1 (zero_out this.symm hR)
end
section
variable {P : Program} {G : Nat → Bool} {fs : List Nat} {ρ ρ0 : Ren} {F S : Nat → Prop} {base : List Frame} {R : StopR}
/-- At the stop of a run that a lone one is alike to. -/
def EndsA (P : Program) (G : Nat → Bool) (fs : List Nat) (F : Nat → Prop) (base : List Frame) (R : StopR) (ρ0 : Ren) (S : Nat → Prop) (g : Goroutine) (W : World) : Prop :=
  ∃ (x : LSt) (ρ : Ren) (r' : Rec), x.outR R ∧ RR P G fs ρ x.r r' ∧ g = Conc.G r'.fr base ∧ WR P.globals.size F ρ (re x.w W.tape W.drawn) W ∧ (∀ a b, ρ a b → S b ∨ F b) ∧ ρ0.le ρ ∧ (∀ a b, ρ a b → a = b) ∧ x.w.heap.size = W.heap.size
theorem wr_relyA {gs : Nat} {w W W2 : World} (h : WR gs F ρ (re w W.tape W.drawn) W) (hr : RelyA W W2) : WR gs F ρ (re w W2.tape W2.drawn) W2 := by
  refine ⟨rfl, rfl, h.fn, h.inj, fun b hb => by rw [hr.heap]; exact h.low b hb, h.glob, h.gsize, h.plain, fun a b q => ?_⟩
  rw [hr.heap]
  exact h.block a b q
theorem wayA_sim (hfs : ∀ f, fs.contains f = true → okBody P G fs f = true) (hm : ∀ fr w c, R fr w → fr.mode ≠ .panicking c) {x : LSt} (hacc : Acc (NxtR P R) x) :
    ∀ {ρ : Ren} {r' : Rec} {l' : List Rec} {W : World} {S : Nat → Prop}, RR P G fs ρ x.r r' → LR P G fs ρ x.l l' → WR P.globals.size F ρ (re x.w W.tape W.drawn) W → (∀ g, G g = true → ρ g g) → (∀ a b, ρ a b → S b ∨ F b) → ρ0.le ρ → (∀ a b, ρ a b → a = b) → x.w.heap.size = W.heap.size →
      ReachR P [catcher] R x → ReachR P [] R x →
      WayA P F (EndsA P G fs F base R ρ0) S (Conc.G r'.fr (l'.map Rec.fr ++ base)) W := by
  induction hacc with
  | intro x _ ih => ?_
  intro ρ r' l' W S h hl hw hG hS hle hid hsz hR1 hR2
  by_cases hout : x.outR R
  · refine .stop ?_
    have e : l' = [] := by
      have := hout.1
      rw [this] at hl
      cases hl
      rfl
    subst e
    exact ⟨x, ρ, r', hout, h, rfl, hw, hS, hle, hid, hsz⟩
  have hne : x.r.ret = true → x.l ≠ [] := fun e1 e2 => by
    obtain ⟨T2, d2, _, n, fr, w1, e, hR⟩ := hR2 (fun _ _ => 0) 0
    cases n with
    | zero => exact hout (zero_out e hR)
    | succ n =>
      rw [e2] at e
      obtain ⟨o, w2, hs⟩ := out_stops h.body e1 (re x.w T2 d2)
      have : runN P (n + 1) (lone x.r.fr (List.map Rec.fr [] ++ []) (re x.w T2 d2)) = .ended o w2 := by
        simp only [List.map_nil, List.append_nil, runN, hs]
      rw [this] at e
      cases e
  have both : ∀ W2, RelyA W W2 → Both P G fs F ρ x.r r' x.l l' (re x.w W2.tape W2.drawn) W2 := by
    intro W2 hr
    have hw2 := wr_relyA hw hr
    rcases sim_step hfs h hl hw2 hG hne with hb | hd
    · exact hb
    · exfalso
      obtain ⟨T2, d2, hT, n, fr, w1, e, hR⟩ := hR1 W2.tape W2.drawn
      have hnd := not_doomedR hm h.body (lr_body hl) hout e hR
      have hw3 : WR P.globals.size F ρ (re x.w T2 d2) (re W2 T2 d2) := hw2.re T2 d2
      rcases sim_step hfs h hl hw3 hG hne with hb | hd3
      · obtain ⟨r1, l1, w1, _, _, _, _, _, ⟨_, _, e0, hmv⟩, _⟩ := hb
        have hst := hmv W2.tape W2.drawn (fun i _ => (hT i).symm) true [catcher]
        rcases hd [catcher] with ⟨v, w4, es, hx⟩ | ⟨o, w4, es, hx⟩
        · have e1 := hst.symm.trans hx
          simp only [GStep.go.injEq, Conc.G, Goroutine.mk.injEq] at e1
          have e2 := congrArg Frame.mode e1.1.1
          rw [raise_bad] at e2
          simp only [Rec.bad, Rec.fr] at e2
          split at e2 <;> cases e2
        · have e1 := hst.symm.trans hx
          cases e1
      · exact hnd hd3
  refine .step rfl (fun W2 hr => ?_) fun W2 g1 W3 es hr hst => ?_
  · obtain ⟨r1, l1, w1, r1', l1', w1', ρ1, es, b1, b2, b3, b4, b5, b6, b7⟩ := both W2 hr
    exact ⟨_, w1', es, b2 true base, own_of_left hS b6 (fun a b q => (b5.lt a b q).2) b7⟩
  · obtain ⟨r1, l1, w1, r1', l1', w1', ρ1, es', b1, b2, b3, b4, b5, b6, b7⟩ := both W2 hr
    have e1 := (b2 true base).symm.trans hst
    simp only [GStep.go.injEq] at e1
    obtain ⟨rfl, rfl, rfl⟩ := e1
    have e2 : re w1 w1'.tape w1'.drawn = w1 := by rw [← b5.tape, ← b5.drawn]; rfl
    obtain ⟨hsz1, hid1⟩ := b6.same (by show x.w.heap.size = W2.heap.size; rw [hr.heap]; exact hsz) hid
    refine ih ⟨r1, l1, w1⟩ ⟨hout, _, _, b1⟩ b3 b4 (by rw [e2]; exact b5) (fun g hg => b6.le _ _ (hG g hg)) (left_grow hS b6 fun a b q => (b5.lt a b q).2) (Ren.le_trans hle b6.le) hid1 hsz1 (reach_moveR hR1 hout b1) (reach_moveR hR2 hout b1)
/-- A frame that leaves with a value. -/
def Leaves (P : Program) (R : Value → World → Prop) (fr : Frame) (w1 : World) : Prop := fr.mode = .returning ∧ ∃ v, R v w1 ∧ ∃ fn, P.funcs[fr.fn]? = some fn ∧ (results fn fr.tmps).run P w1 = .ok v w1
/-- Come back with a value, alike to the lone run's, under the same numbers. -/
def BackA (P : Program) (F : Nat → Prop) (c : Frame) (rest : List Frame) (R : Value → World → Prop) (ρ : Ren) (S : Nat → Prop) (g : Goroutine) (W : World) : Prop :=
  ∃ v v' ρ1 w1, g = Conc.G (c.finish v') rest ∧ VR ρ1 v v' ∧ (∃ T d, R v (re w1 T d)) ∧ WR P.globals.size F ρ1 (re w1 W.tape W.drawn) W ∧ (∀ a b, ρ1 a b → S b ∨ F b) ∧ ρ.le ρ1 ∧ ∀ a b, ρ1 a b → a = b
theorem wayA_run (hfs : ∀ f, fs.contains f = true → okBody P G fs f = true) {r r' : Rec} {w0 W : World} {c : Frame} {rest : List Frame} {R : Value → World → Prop}
    (hr : RR P G fs ρ r r') (hw : WR P.globals.size F ρ (re w0 W.tape W.drawn) W) (hG : ∀ g, G g = true → ρ g g) (hS : ∀ a b, ρ a b → S b ∨ F b) (hid : ∀ a b, ρ a b → a = b) (hsz : w0.heap.size = W.heap.size)
    (hreach : ∀ (base : List Frame) (T : Tape) (d : Nat), ∃ n fr w1, runN P n (lone r.fr base (re w0 T d)) = .next (lone fr base w1) ∧ Leaves P R fr w1) :
    WayA P F (BackA P F c rest R ρ) S (Conc.G r'.fr (c :: rest)) W := by
  let x : LSt := ⟨r, [], w0⟩
  have hacc : Acc (NxtR P (Leaves P R)) x := acc_ofR (base := []) fun T d => hreach [] T d
  have h1 := wayA_sim (base := c :: rest) (S := S) (W := W) (ρ0 := ρ) hfs (fun fr w1 ch h e => by rw [h.1] at e; cases e) hacc hr .nil hw hG hS (Ren.le_refl _) hid hsz
    (fun T d => ⟨T, d, fun _ => rfl, hreach [catcher] T d⟩) (fun T d => ⟨T, d, fun _ => rfl, hreach [] T d⟩)
  have bind : ∀ {K K2 : (Nat → Prop) → Goroutine → World → Prop} {S : Nat → Prop} {g : Goroutine} {w : World}, WayA P F K S g w → (∀ S g w, K S g w → WayA P F K2 S g w) → WayA P F K2 S g w := by
    intro K K2 S g w h hk
    induction h with
    | stop h => exact hk _ _ _ h
    | step hg h _ ih => exact .step hg h ih
  refine bind h1 fun S2 g W2 hE => ?_
  obtain ⟨y, ρ1, r', ⟨_, T, d, hret, v, hR, fn, hfn, hres⟩, hr, rfl, hw1, hS1, hle, hid1, hsz1⟩ := hE
  have hret2 : y.r.ret = true := by
    cases hq : y.r.ret with
    | true => rfl
    | false => rw [show y.r.fr.mode = .run by simp [Rec.fr, hq]] at hret; cases hret
  have hcomp : ∀ W3, RelyA W2 W3 → ∃ ρ2 v' W4 es, stepG P true (Conc.G r'.fr (c :: rest)) W3 = .go (Conc.G (c.finish v') rest) W4 es ∧ VR ρ2 v v' ∧ WR P.globals.size F ρ2 (re y.w W3.tape W3.drawn) W4 ∧ Left F ρ1 ρ2 (re y.w W3.tape W3.drawn) W3 (re y.w W3.tape W3.drawn) W4 ∧ ∀ e ∈ es, EvR F ρ2 e := fun W3 hr3 => by
    have hw3 := wr_relyA hw1 hr3
    have hsr := sr_results (P := P) (fn := fn) hr.tmps
    have hrt : (results fn y.r.tmps).runT P (re y.w T d) #[] = (.ok v (re y.w T d), ((results fn y.r.tmps).runT P (re y.w T d) #[]).2) := by
      refine Prod.ext ?_ rfl
      rw [Sem.runT_fst]
      exact hres
    have h2 := (run_SR_tape P hsr (re y.w T d) (re W3 T d) #[] (hw3.re T d) v _ _ hrt).2.2 W3.tape W3.drawn fun i hi => by
      simp only [re_drawn] at hi
      omega
    simp only [re_re, re_drawn, Nat.sub_self, Nat.add_zero] at h2
    obtain ⟨ρ2, v', W4, new, r1, r2, r3, r4, r5⟩ := run_SR P hsr (re y.w W3.tape W3.drawn) W3 #[] #[] hw3 v _ _ h2
    rw [Array.empty_append] at r1
    refine ⟨ρ2, v', W4, seen P r'.fn new, ?_, r2, r3, r4, fun e he => r5 e (seen_mem he)⟩
    rw [ret_step (hr.ret ▸ hret2) (show P.funcs[r'.fn]? = some fn from hr.fn ▸ (show P.funcs[y.r.fn]? = some fn from hfn)), r1]
    simp [doReturn, Rec.fr, GStep.after, Conc.G]
  refine .step rfl (fun W3 hr3 => ?_) fun W3 g1 W4 es hr3 hst => ?_
  · obtain ⟨ρ2, v', W4, es, h1, h2, h3, h4, h5⟩ := hcomp W3 hr3
    exact ⟨_, W4, es, h1, own_of_left hS1 h4 (fun a b q => (h3.lt a b q).2) h5⟩
  · obtain ⟨ρ2, v', W5, es', h1, h2, h3, h4, h5⟩ := hcomp W3 hr3
    rw [h1] at hst
    simp only [GStep.go.injEq] at hst
    obtain ⟨rfl, rfl, rfl⟩ := hst
    have e2 : re y.w W5.tape W5.drawn = re y.w W3.tape W3.drawn := by rw [← h3.tape, ← h3.drawn]; rfl
    refine .stop ⟨v, v', ρ2, y.w, rfl, h2, ⟨T, d, hR⟩, by rw [e2]; exact h3, left_grow hS1 h4 (fun a b q => (h3.lt a b q).2), Ren.le_trans hle h4.le, (h4.same ?_ hid1).2⟩
    show y.w.heap.size = W3.heap.size
    rw [hr3.heap]; exact hsz1
/-- A CALL. -/
theorem wayA_call (hfs : ∀ f, fs.contains f = true → okBody P G fs f = true) {f : Nat} (hf : fs.contains f = true) {args args' : Array Value} {w0 W : World} {c : Frame} {rest : List Frame} {R : Value → World → Prop}
    (hw : WR P.globals.size F ρ (re w0 W.tape W.drawn) W) (ha : VsR ρ args args') (hG : ∀ g, G g = true → ρ g g) (hS : ∀ a b, ρ a b → S b ∨ F b) (hid : ∀ a b, ρ a b → a = b) (hsz : w0.heap.size = W.heap.size)
    (hc : ∀ (T : Tape) (d : Nat), Calls P f args (re w0 T d) (fun e w' => ∃ v, e = .returned v ∧ R v w')) :
    WayA P F (BackA P F c rest R ρ) S (Conc.G (Frame.enter P f args' .normal) (c :: rest)) W :=
  wayA_run (r := ⟨f, (Frame.enter P f args .normal).tmps, (Frame.enter P f args .normal).todo, false⟩) (r' := ⟨f, (Frame.enter P f args' .normal).tmps, (Frame.enter P f args' .normal).todo, false⟩) hfs (rr_enter (hfs f hf) ha) hw hG hS hid hsz fun base T d => by
    obtain ⟨e, w', fr, ⟨v, rfl, hR⟩, hst, hfn, hm, hd, hk, fn, hfn2, hres⟩ := hc T d base
    obtain ⟨n, hn⟩ := hst
    exact ⟨n, fr, w', hn, hm, v, hR, fn, hfn2, hres⟩
/-- THE REST OF A FUNCTION. -/
theorem wayA_code (hfs : ∀ f, fs.contains f = true → okBody P G fs f = true) {f : Nat} {fn : Func} (hf : P.funcs[f]? = some fn) (hfi : (P.inits.idxOf? f).isNone = true) {code : Code} (hok : okCode P G fs code = true) {ts ts' : Array Value} {w0 W : World} {c b : Frame} {rest : List Frame} {R : Value → World → Prop}
    (hbf : b.fn = f) (hbk : b.kind = .normal)
    (hw : WR P.globals.size F ρ (re w0 W.tape W.drawn) W) (ha : VsR ρ ts ts') (hG : ∀ g, G g = true → ρ g g) (hS : ∀ a b, ρ a b → S b ∨ F b) (hid : ∀ a b, ρ a b → a = b) (hsz : w0.heap.size = W.heap.size)
    (hc : ∀ (T : Tape) (d : Nat), code.wp P (bodyPost P fn (fun e w' => ∃ v, e = .returned v ∧ R v w')) ⟨ts, []⟩ (re w0 T d)) :
    WayA P F (BackA P F c rest R ρ) S (Conc.G (b.at ⟨ts', []⟩ [.code code]) (c :: rest)) W := by
  have e0 : ∀ t : Array Value, b.at ⟨t, []⟩ [.code code] = Rec.fr ⟨f, t, [.code code], false⟩ := fun t => by
    obtain ⟨b1, b2, b3, b4, b5, b6⟩ := b
    dsimp only at hbf hbk
    subst hbf hbk
    rfl
  rw [e0]
  refine wayA_run (r := ⟨f, ts, [.code code], false⟩) (r' := ⟨f, ts', [.code code], false⟩) hfs ⟨rfl, rfl, rfl, ha, fun it hit => ?_, ?_⟩ hw hG hS hid hsz fun base T d => ?_
  · simp only [List.mem_singleton] at hit
    subst hit
    exact hok
  · unfold okHead
    rw [hf]
    exact hfi
  · have hb : ∀ a todo, (b.at a todo).fn = f := fun _ _ => hbf
    obtain ⟨e, a', w', hq, harr⟩ := hc T d b [] base
    rw [e0] at harr
    cases e with
    | normal =>
      obtain ⟨hd, v, hr, v2, e2, hR⟩ := hq
      injection e2 with e2
      subst e2
      obtain ⟨n, hn⟩ := Steps.trans harr (.one step_end)
      exact ⟨n, _, w', hn, rfl, v, hR, fn, by show P.funcs[b.fn]? = _; rw [hbf]; exact hf, hr⟩
    | ret =>
      obtain ⟨hd, v, hr, v2, e2, hR⟩ := hq
      injection e2 with e2
      subst e2
      obtain ⟨todo, n, hn⟩ := harr
      exact ⟨n, _, w', hn, rfl, v, hR, fn, by show P.funcs[b.fn]? = _; rw [hbf]; exact hf, hr⟩
    | panic chain =>
      obtain ⟨hd, v2, e2, hR⟩ := hq
      cases e2
    | exit id => exact hq.elim
    | goto l => exact hq.elim
    | outgrown =>
      obtain ⟨v2, e2, hR⟩ := hq
      cases e2
end
end Go.Proofs.YtbicafgmfgdckaaDoor
namespace Go.Proofs.YtbicafgmfgdckaaDoor
open Go Go.Conc
theorem exists_vr (ρ : Ren) : ∀ v : Value, ∃ u, VR ρ u v
  | .agg cs => by
    have h : ∀ i (hi : i < cs.size), ∃ u, VR ρ u cs[i] := fun i hi => exists_vr ρ cs[i]
    refine ⟨.agg (Array.ofFn fun i : Fin cs.size => (h i.1 i.2).choose), .agg (by simp) fun i h1 h2 => ?_⟩
    rw [Array.getElem_ofFn]
    exact (h i h2).choose_spec
  | .tuple cs => by
    have h : ∀ i (hi : i < cs.size), ∃ u, VR ρ u cs[i] := fun i hi => exists_vr ρ cs[i]
    refine ⟨.tuple (Array.ofFn fun i : Fin cs.size => (h i.1 i.2).choose), .tuple (by simp) fun i h1 h2 => ?_⟩
    rw [Array.getElem_ofFn]
    exact (h i h2).choose_spec
  | .bool b => ⟨.bool b, .bool b⟩
  | .int .. | .float .. | .complex .. | .string .. | .pointer .. | .slice .. | .func .. | .nilFunc | .iface .. | .nilIface | .map .. | .chan .. => ⟨.nilIface, .nilIface _ rfl⟩
def voidA : Addr := ⟨0, 0, some 0⟩
open Classical in
noncomputable def tameV (ρ : Ren) (v : Value) : Value := if VR ρ v v then v else match v with
  | .slice (some _) 0 0 => .slice (some voidA) 0 0
  | v => (exists_vr ρ v).choose
theorem vr_tame (ρ : Ren) (v : Value) : VR ρ (tameV ρ v) v := by
  unfold tameV
  split
  · assumption
  · split
    · exact .slz rfl
    · exact (exists_vr ρ _).choose_spec
theorem tame_self {ρ : Ren} {v : Value} (h : VR ρ v v) : tameV ρ v = v := by unfold tameV; rw [if_pos h]
open Classical in
/-- Blocks that stand are frozen. -/
noncomputable def loneObj (ρ : Ren) (F : Nat → Prop) (b : Nat) : Obj → Obj
  | .cells cs t _ => .cells (cs.map (tameV ρ)) t (if F b then (0, cs.size) else (0, 0))
  | _ => .cells #[] 0 (0, 0)
noncomputable def loneW (ρ : Ren) (F : Nat → Prop) (W : World) : World := { W with heap := W.heap.mapIdx (loneObj ρ F) }
section
variable {ρ : Ren} {F T : Nat → Prop} {W : World} {gs : Nat}
theorem lone_size : (loneW ρ F W).heap.size = W.heap.size := by simp [loneW]
theorem lone_get (b : Nat) : (loneW ρ F W).heap[b]? = (W.heap[b]?).map (loneObj ρ F b) := by simp [loneW]
theorem lone_cell {a : Addr} {v : Value} (h : W.cell? a = some v) (hv : VR ρ v v) : (loneW ρ F W).cell? a = some v := by
  unfold World.cell? at h ⊢
  rw [lone_get]
  cases hb : W.heap[a.block]? with
  | none => rw [hb] at h; cases h
  | some o =>
    rw [hb] at h
    cases o with
    | cells cs t fr =>
      show (if a.spot.isSome then none else (cs.map (tameV ρ))[a.off]?) = _
      dsimp only at h
      split at h
      · cases h
      · rename_i hs
        rw [if_neg hs, Array.getElem?_map, h, Option.map_some, tame_self hv]
    | _ => cases h
/-- A row without room, whose place is not to be touched. -/
theorem tame_void {ρ : Ren} (x : Addr) : ∃ ad, tameV ρ (.slice (some x) 0 0) = .slice (some ad) 0 0 := by
  unfold tameV
  split
  · exact ⟨x, rfl⟩
  · exact ⟨voidA, rfl⟩
theorem lone_cell_tame {a : Addr} {v : Value} (h : W.cell? a = some v) : (loneW ρ F W).cell? a = some (tameV ρ v) := by
  unfold World.cell? at h ⊢
  rw [lone_get]
  cases hb : W.heap[a.block]? with
  | none => rw [hb] at h; cases h
  | some o =>
    rw [hb] at h
    cases o with
    | cells cs t fr =>
      show (if a.spot.isSome then none else (cs.map (tameV ρ))[a.off]?) = _
      dsimp only at h
      split at h
      · cases h
      · rename_i hs
        rw [if_neg hs, Array.getElem?_map, h, Option.map_some]
    | _ => cases h
/-- The diagonal on what may be touched. -/
def diag (T : Nat → Prop) : Ren := fun a b => a = b ∧ T b
open Classical in
theorem wr_lone (hF : ∀ b, F b → b < W.heap.size) (hg : gs ≤ W.heap.size) (hT : ∀ b, T b → ∃ cs t fr, W.heap[b]? = some (.cells cs t fr) ∧ (¬ F b → fr = (0, 0))) : WR gs F (diag T) (re (loneW (diag T) F W) W.tape W.drawn) W := by
  refine ⟨rfl, rfl, fun a b c h h' => h.1.symm.trans h'.1, fun a b c h h' => h.1.trans h'.1.symm, hF, fun a b h _ => h.1, ?_, fun b o e => ?_, fun a b h => ?_⟩
  · show gs ≤ (loneW (diag T) F W).heap.size
    rw [lone_size]; exact hg
  · have e2 : (loneW (diag T) F W).heap[b]? = some o := e
    rw [lone_get] at e2
    cases hb : W.heap[b]? with
    | none => rw [hb] at e2; cases e2
    | some o2 =>
      rw [hb] at e2
      simp only [Option.map_some, Option.some.injEq] at e2
      subst e2
      cases o2 <;> exact .inl ⟨_, _, _, rfl⟩
  · obtain ⟨rfl, hb⟩ := h
    obtain ⟨cs, t, fr, e, hfr⟩ := hT a hb
    have e2 : (re (loneW (diag T) F W) W.tape W.drawn).heap[a]? = some (loneObj (diag T) F a (.cells cs t fr)) := by
      show (loneW (diag T) F W).heap[a]? = _
      rw [lone_get, e]; rfl
    refine ⟨_, _, e2, e, ?_⟩
    show t = t ∧ VsR (diag T) (cs.map (tameV (diag T))) cs ∧ (F a → ∀ o, o < (cs.map (tameV (diag T))).size → (if F a then (0, cs.size) else (0, 0)).1 ≤ o ∧ o < (if F a then (0, cs.size) else (0, 0)).2) ∧ (¬ F a → (if F a then (0, cs.size) else (0, 0)) = (0, 0) ∧ fr = (0, 0))
    refine ⟨rfl, ⟨by simp, fun i h1 h2 => ?_⟩, fun hFa o ho => ?_, fun hFa => ?_⟩
    · rw [Array.getElem_map]
      exact vr_tame _ _
    · rw [if_pos hFa]
      rw [Array.size_map] at ho
      exact ⟨Nat.zero_le _, ho⟩
    · rw [if_neg hFa]
      exact ⟨rfl, hfr hFa⟩
end
end Go.Proofs.YtbicafgmfgdckaaDoor
