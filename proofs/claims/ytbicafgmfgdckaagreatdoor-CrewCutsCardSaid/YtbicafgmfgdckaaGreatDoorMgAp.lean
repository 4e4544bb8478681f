/- Operations at alike values are alike: whole operations. For any program. Steps of one goroutine at alike records are alike. For any program. A tree that is alike to another one halts dully alone. For any program. One goroutine's steps in alike worlds, with alike records and callers: alike again, or a panic. For any program. -/
import Derived.Test.YtbicafgmfgdckaaGreatDoorMgAo
import Derived.Test.YtbicafgmfgdckaaGreatDoorMgAm
import Derived.Conc.Own
namespace Go.Proofs.YtbicafgmfgdckaaGreatDoor
open Go

inductive NR (fs : List Nat) (ρ : Ren) : Next -> Next -> Prop
 | value {v v' : Value} (h : VR ρ v v') : NR fs ρ (.value v) (.value v')
 | skip : NR fs ρ .skip .skip
 | enter (f : FuncId) {as as' : Array Value} (hf : fs.contains f = true) (h : VsR ρ as as') : NR fs ρ (.enter f as) (.enter f as')
def okTo (fs : List Nat) : Op -> Bool
 | .call c => (match c.callee with | .value (.func f) => fs.contains f | _ => true)
 | _ => true
def okX (G : Nat -> Bool) : Operand -> Bool
 | .tmp _ => true
 | .const v => pureC v
 | .global g => G g
 | .func _ => true
def okEq : Operand -> Bool
 | .const (.int _ _) | .const (.pointer none) | .const (.slice none _ _) => true
 | _ => false
def isIntT (P : Program) (t : TypeId) : Bool := match P.underlying t with
 | some (.int _) => true
 | _ => false
def okFn (P : Program) (f : FuncId) : Bool := match P.funcs[f]? with
 | some fn => fn.body.isSome && fn.name != "runtime.NumGoroutine"
 | none => false
def okCall (P : Program) (G : Nat -> Bool) (c : Call) : Bool := c.args.all (okX G) && (match c.callee with
 | .value (.func f) => okFn P f
 | .builtin .len | .builtin .cap | .builtin .copy | .builtin .min => true
 | .builtin .append => (match c.argTypes[0]? with | some u => okElem P u | none => true) && (match c.argTypes[1]? with | some u => !isIntT P u | none => true)
 | _ => false)
def okO (G : Nat -> Bool) : Option Operand -> Bool
 | none => true
 | some x => okX G x
def okOp (P : Program) (G : Nat -> Bool) : Op -> Bool
 | .move x | .assign x => okX G x
 | .pick c a b => okX G c && okX G a && okX G b
 | .alloc t => okTy P t
 | .box _ x => okX G x
 | .build t parts => okTy P t && parts.toList.all fun p => okX G p.2
 | .buildSlice t _ parts => okElem P t && parts.toList.all fun p => okX G p.2
 | .load _ a => okX G a
 | .store _ a x => okX G a && okX G x
 | .nilCheck x => okX G x
 | .binOp op t x y _ => okX G x && okX G y && (match op with | .eql | .neq => okEq y || (eqTy P t && !P.eqGuardType P.depth t) | .add | .sub | .mul | .quo | .rem | .and | .or | .xor | .andNot | .shl | .shr | .lss | .leq | .gtr | .geq => true)
 | .unOp _ _ x => okX G x
 | .convert s d x => okX G x && isIntT P s && isIntT P d
 | .makeSlice t l c => okElem P t && okX G l && okX G c
 | .slice _ x l h m => okX G x && okO G l && okO G h && okO G m
 | .fieldAddr s x f => okX G x && okField P s f
 | .indexAddr _ x i | .index _ x i => okX G x && okX G i
 | .extract x _ => okX G x
 | .call c => okCall P G c
 | _ => false
section
variable {P : Program} {ρ : Ren} {G : Nat -> Bool} {fs : List Nat}
structure EvalR (G : Nat -> Bool) (ρ : Ren) (ev ev' : Operand -> Value) : Prop where
 at_ : ∀ x, okX G x = true -> VR ρ (ev x) (ev' x)
 const : ∀ v, ev (.const v) = v /\ ev' (.const v) = v
 func : ∀ f, ev (.func f) = .func (.func f) #[] #[] /\ ev' (.func f) = .func (.func f) #[] #[]
theorem sr_value {s s' : Sem Value} (h : SR P VR ρ s s') : SR P (NR fs) ρ (s >>= fun v => pure (.value v)) (s' >>= fun v => pure (.value v)) :=
 h.bind' fun _ _ _ _ hv => SR.pure (NR.value hv)
theorem vsr_map {cs : Array Operand} {ev ev' : Operand -> Value} (h : EvalR G ρ ev ev') (hc : cs.all (okX G) = true) : VsR ρ (cs.map ev) (cs.map ev') := by
 refine ⟨by simp, fun i h1 h2 => ?_⟩
 simp only [Array.size_map] at h1
 simp only [Array.getElem_map]
 rw [Array.all_eq_true] at hc
 exact h.at_ _ (hc i h1)
theorem psr_map {parts : Array (Nat × Operand)} {ev ev' : Operand -> Value} (h : EvalR G ρ ev ev') (hc : (parts.toList.all fun p => okX G p.2) = true) : PsR ρ (parts.map fun (i, x) => (i, ev x)).toList (parts.map fun (i, x) => (i, ev' x)).toList := by
 rw [Array.toList_map, Array.toList_map]
 generalize parts.toList = l at *
 induction l with
 | nil => exact .nil
 | cons p l ih =>
  simp only [List.all_cons, Bool.and_eq_true] at hc
  exact .cons (h.at_ _ hc.1) (ih hc.2)
theorem vo_map {x : Option Operand} {ev ev' : Operand -> Value} (h : EvalR G ρ ev ev') (hc : okO G x = true) : VO ρ (x.map ev) (x.map ev') := by
 cases x with
 | none => exact .none
 | some x => exact .some (h.at_ x hc)
theorem like_un (op : UnOp) (k : IntKind) (n : Int) : IntLike P (Op.unary op (.int k n)) := by
 cases op <;> first | exact .inl (.halt _) | (simp only [Op.unary]; first | exact like_arith _ _ _ _ | exact like_bits _ _ _ _)
theorem like_unb (op : UnOp) (b : Bool) : IntLike P (Op.unary op (.bool b)) := by
 cases op <;> first | exact .inl (.halt _) | exact like_bool _
theorem sr_convert {s d : TypeId} (h1 : isIntT P s = true) (h2 : isIntT P d = true) {v v' : Value} (h : VR ρ v v') : SR P VR ρ (convert s d v) (convert s d v') := by
 unfold isIntT at h1 h2
 unfold convert
 refine (sr_underlying' s).bind' fun σ a _ hl e => ?_
 obtain ⟨rfl, e1⟩ := e
 refine (sr_underlying' d).bind' fun σ2 b _ hl2 e => ?_
 obtain ⟨rfl, e2⟩ := e
 rw [e1] at h1
 rw [e2] at h2
 cases a <;> first | (cases h1; done) | skip
 cases b <;> first | (cases h2; done) | skip
 cases h <;> first | exact .halt | exact (like_int _ _).sr
theorem sr_equal {t : TypeId} {v v' c : Value} (h : VR ρ v v') (hc : (∃ k n, c = .int k n) \/ c = .pointer none \/ ∃ l k, c = .slice none l k) : SR P Same ρ (Op.equal t v c) (Op.equal t v' c) := by
 unfold Op.equal Op.maxDepth Op.equalIn
 refine (sr_underlying t).bind' fun σ d _ hl e => ?_
 subst e
 rcases hc with ⟨k, n, rfl⟩ | rfl | ⟨l, k, rfl⟩
 ·rcases n with (_ | n) | n <;> cases d <;> (cases h <;> first | exact .halt | (dsimp only; split <;> first | exact .halt | exact SR.pure (X := Same) rfl) | exact SR.pure (X := Same) rfl)
 ·cases d <;> (cases h <;> first | exact .halt | exact SR.pure (X := Same) rfl)
 ·cases d <;> (cases h <;> first | exact .halt | exact SR.pure (X := Same) rfl)
theorem tame_underlying (t : TypeId) : Tame P (underlying t) := by
 refine .bind .program fun p => ?_
 split <;> first | exact .pure _ | exact .stuck _
theorem dead_equal {t : TypeId} {c : Value} (hc : (∃ k n, c = .int k n) \/ c = .pointer none \/ ∃ l k, c = .slice none l k) : Dead P (Op.equal t .nilIface c) := by
 unfold Op.equal Op.maxDepth Op.equalIn
 refine Dead.bind (tame_underlying t) fun d => ?_
 rcases hc with ⟨k, n, rfl⟩ | rfl | ⟨l, k, rfl⟩
 ·rcases n with (_ | n) | n <;> cases d <;> exact .halt _
 ·cases d <;> exact .halt _
 ·cases d <;> exact .halt _
theorem sr_exec (hρ : Ok P ρ) {o : Oper} {ev ev' : Operand -> Value} (hok : okOp P G o.op = true) (hto : okTo fs o.op = true) (h : EvalR G ρ ev ev') : SR P (NR fs) ρ (execOp ev o) (execOp ev' o) := by
 unfold execOp
 cases ho : o.op with
 | move x => rw [ho] at hok; exact SR.pure (NR.value (h.at_ x hok))
 | assign x => rw [ho] at hok; exact SR.pure (NR.value (h.at_ x hok))
 | pick c a b =>
  rw [ho] at hok
  simp only [okOp, Bool.and_eq_true] at hok
  dsimp only
  refine (sr_asBool (h.at_ c hok.1.1)).bind' fun σ t _ hl e => ?_
  subst e
  cases t with
  | true => exact SR.pure (NR.value ((h.at_ a hok.1.2).mono hl))
  | false => exact SR.pure (NR.value ((h.at_ b hok.2).mono hl))
 | alloc t => rw [ho] at hok; exact sr_value (sr_alloc hok)
 | box t x => rw [ho] at hok; exact sr_value (sr_box t (h.at_ x hok))
 | build t parts =>
  rw [ho] at hok
  simp only [okOp, Bool.and_eq_true] at hok
  exact sr_value (sr_build hok.1 (psr_map h hok.2))
 | buildSlice t n parts =>
  rw [ho] at hok
  simp only [okOp, Bool.and_eq_true] at hok
  exact sr_value (sr_buildSlice hok.1 n (psr_map h hok.2))
 | load t a => rw [ho] at hok; exact sr_value (sr_loadAt t (h.at_ a hok))
 | store t a x =>
  rw [ho] at hok
  simp only [okOp, Bool.and_eq_true] at hok
  exact (sr_storeAt t (h.at_ a hok.1) (h.at_ x hok.2)).bind' fun _ _ _ _ _ => SR.pure NR.skip
 | nilCheck x =>
  rw [ho] at hok
  have hx := h.at_ x hok
  dsimp only
  generalize ev x = v at *
  generalize ev' x = v' at *
  cases hx with
  | pnil => exact .of_dead (dead_runtimePanic _)
  | nilFunc => exact .of_dead (dead_runtimePanic _)
  | nilIface => exact .of_dead (dead_runtimePanic _)
  | bool b => exact SR.pure (NR.value (.bool b))
  | int k n => exact SR.pure (NR.value (.int k n))
  | ptr q => exact SR.pure (NR.value (.ptr q))
  | snil l c => exact SR.pure (NR.value (.snil l c))
  | slice l c q => exact SR.pure (NR.value (.slice l c q))
  | slz q => exact SR.pure (NR.value (.slz q))
  | func f hs q => exact SR.pure (NR.value (.func f hs q))
  | agg hs q => exact SR.pure (NR.value (.agg hs q))
  | tuple hs q => exact SR.pure (NR.value (.tuple hs q))
 | binOp op t x y r =>
  rw [ho] at hok
  simp only [okOp, Bool.and_eq_true] at hok
  refine sr_value ?_
  have hx := h.at_ x hok.1.1
  have hy := h.at_ y hok.1.2
  have hcy := h.const
  by_cases hop : op = .eql \/ op = .neq
  ·have hor : (okEq y || (eqTy P t && !P.eqGuardType P.depth t)) = true := by rcases hop with rfl | rfl <;> exact hok.2
   by_cases hyt : (eqTy P t && !P.eqGuardType P.depth t) = true
   ·rw [Bool.and_eq_true, Bool.not_eq_true'] at hyt
    exact sr_eqOp hρ hyt.1 hyt.2 hop x y hx hy
   have hyc : okEq y = true := by
    rw [Bool.or_eq_true] at hor
    exact hor.resolve_right hyt
   obtain ⟨c, rfl, hc⟩ : ∃ c, y = .const c /\ ((∃ k n, c = .int k n) \/ c = .pointer none \/ ∃ l k, c = .slice none l k) := by
    unfold okEq at hyc
    split at hyc
    ·exact ⟨_, rfl, .inl ⟨_, _, rfl⟩⟩
    ·exact ⟨_, rfl, .inr (.inl rfl)⟩
    ·exact ⟨_, rfl, .inr (.inr ⟨_, _, rfl⟩)⟩
    ·cases hyc
   rw [(hcy c).1, (hcy c).2]
   generalize ev x = v at *
   generalize ev' x = v' at *
   have hg : ∀ a : Value, eqGuard op t x (.const c) a c = pure () := fun a => by
    unfold eqGuard
    rcases hc with ⟨k, n, rfl⟩ | rfl | ⟨l, k, rfl⟩ <;> (rcases hop with rfl | rfl <;> (cases a <;> rfl))
   rw [hg, hg]
   refine SR.pureBind ?_
   have heq := fun σ (q : VR σ v v') => sr_equal (P := P) (ρ := σ) (t := t) q hc
   have two : ∀ {s s' : Sem Bool} (f : Bool -> Bool), SR P Same ρ s s' -> SR P VR ρ (do pure (.bool (f (<- s)))) (do pure (.bool (f (<- s')))) := fun f q => q.bind' fun _ b _ _ e => by
    subst e
    exact SR.pure (VR.bool _)
   by_cases hnil : v = .nilIface
   ·subst hnil
    refine .of_dead ?_
    have e1 : binOp .eql t .nilIface c = (do pure (.bool (<- Op.equal t .nilIface c))) /\ binOp .neq t .nilIface c = (do pure (.bool (!(<- Op.equal t .nilIface c)))) := by
     rcases hc with ⟨k, n, rfl⟩ | rfl | ⟨l, k, rfl⟩ <;> exact ⟨rfl, rfl⟩
    rcases hop with rfl | rfl
    ·rw [e1.1]; exact .left (dead_equal hc)
    ·rw [e1.2]; exact .left (dead_equal hc)
   by_cases hi : ∃ k n k' n', v = .int k n /\ c = .int k' n'
   ·obtain ⟨k, n, k', n', rfl, rfl⟩ := hi
    cases hx
    exact (like_binOp_int op t k k' n n').sr
   ·have he : ∀ a : Value, (∀ k n k' n', ¬ (a = .int k n /\ c = .int k' n')) -> binOp .eql t a c = (do pure (.bool (<- Op.equal t a c))) /\ binOp .neq t a c = (do pure (.bool (!(<- Op.equal t a c)))) := fun a ha => by
     rcases hc with ⟨k, n, rfl⟩ | rfl | ⟨l, k, rfl⟩ <;> (cases a <;> first | exact ⟨rfl, rfl⟩ | exact (ha _ _ _ _ ⟨rfl, rfl⟩).elim)
    have hi' : ∀ k n k' n', ¬ (v = .int k n /\ c = .int k' n') := fun k n k' n' q => hi ⟨k, n, k', n', q⟩
    have hi2 : ∀ k n k' n', ¬ (v' = .int k n /\ c = .int k' n') := fun k n k' n' q => by
     obtain ⟨e1, e2⟩ := q
     subst e1
     cases hx with
     | int => exact hi ⟨_, _, _, _, rfl, e2⟩
     | nilIface => exact hnil rfl
    rcases hop with rfl | rfl
    ·rw [(he v hi').1, (he v' hi2).1]
     exact two id (heq ρ hx)
    ·rw [(he v hi').2, (he v' hi2).2]
     exact two (fun b => !b) (heq ρ hx)
  ·have hg : ∀ a b : Value, eqGuard op t x y a b = pure () := fun a b => by
    unfold eqGuard
    cases op <;> first | rfl | exact absurd (Or.inl rfl) hop | exact absurd (Or.inr rfl) hop
   rw [hg, hg]
   refine SR.pureBind ?_
   generalize ev x = v at *
   generalize ev' x = v' at *
   generalize ev y = u at *
   generalize ev' y = u' at *
   exact sr_binOp hρ op t (fun e => hop (.inl e)) (fun e => hop (.inr e)) hx hy
 | unOp op t x =>
  rw [ho] at hok
  refine sr_value ?_
  have hx := h.at_ x hok
  generalize ev x = v at *
  generalize ev' x = v' at *
  cases op <;> (cases hx <;> first | exact .halt | exact (like_un _ _ _).sr | exact (like_unb _ _).sr)
 | convert s d x =>
  rw [ho] at hok
  simp only [okOp, Bool.and_eq_true] at hok
  exact sr_value (sr_convert hok.1.2 hok.2 (h.at_ x hok.1.1))
 | makeSlice t l c =>
  rw [ho] at hok
  simp only [okOp, Bool.and_eq_true] at hok
  exact sr_value (sr_makeSlice hok.1.1 (h.at_ l hok.1.2) (h.at_ c hok.2))
 | slice t x l hh m =>
  rw [ho] at hok
  simp only [okOp, Bool.and_eq_true] at hok
  exact sr_value (sr_sliceAt t (h.at_ x hok.1.1.1) (vo_map h hok.1.1.2) (vo_map h hok.1.2) (vo_map h hok.2))
 | fieldAddr s x f =>
  rw [ho] at hok
  simp only [okOp, Bool.and_eq_true] at hok
  exact sr_value (sr_fieldAt hok.2 (h.at_ x hok.1))
 | indexAddr t x i =>
  rw [ho] at hok
  simp only [okOp, Bool.and_eq_true] at hok
  exact sr_value (sr_indexAt t (h.at_ x hok.1) (h.at_ i hok.2))
 | index t x i =>
  rw [ho] at hok
  simp only [okOp, Bool.and_eq_true] at hok
  exact sr_value (sr_index t (h.at_ x hok.1) (h.at_ i hok.2))
 | extract x i => rw [ho] at hok; exact sr_value (sr_extract (h.at_ x hok) i)
 | call c =>
  rw [ho] at hok hto
  simp only [okOp, okCall, Bool.and_eq_true] at hok
  obtain ⟨ha, hc⟩ := hok
  have hv := vsr_map h ha
  dsimp only
  unfold resolve
  cases hcal : c.callee with
  | builtin b =>
   rw [hcal] at hc
   refine SR.pureBind ?_
   cases b <;> first | (cases hc; done) | skip
   ·simp only [Bool.and_eq_true] at hc
    refine sr_value (sr_append _ _ (fun u hu => ?_) (fun u hu k hk => ?_) hv)
    ·have := hc.1
     rw [hu] at this
     exact this
    ·have := hc.2
     rw [hu] at this
     have h2 : isIntT P u = true := by unfold isIntT; rw [hk]
     dsimp only at this
     rw [h2] at this
     cases this
   ·exact sr_value (sr_cap _ _ hv)
   ·exact sr_value (sr_copy _ _ hv)
   ·exact sr_value (sr_len _ _ hv)
   ·exact sr_value (sr_min_ _ _ hv)
  | value f =>
   rw [hcal] at hc
   cases f with
   | func f =>
    dsimp only at hc ⊢
    rw [(h.func f).1, (h.func f).2]
    refine SR.pureBind ?_
    show SR P (NR fs) ρ (callFunc f ((#[] ++ c.args.map ev) ++ #[])) (callFunc f ((#[] ++ c.args.map ev') ++ #[]))
    rw [Array.empty_append, Array.empty_append, Array.append_empty, Array.append_empty]
    unfold callFunc
    refine SR.bind' (X := fun σ a b => σ = ρ /\ a = P /\ b = P) (SR.program (SR.pure ⟨rfl, rfl, rfl⟩)) fun σ3 p p' _ e3 => ?_
    obtain ⟨rfl, e1, e2⟩ := e3
    rw [e1, e2]
    unfold okFn at hc
    cases hf : P.funcs[f]? with
    | none => exact .halt
    | some fn =>
     rw [hf] at hc
     simp only [Bool.and_eq_true, bne_iff_ne, ne_eq] at hc
     obtain ⟨h1, h2⟩ := hc
     have h3 : (fn.name == "runtime.NumGoroutine") = false := by simpa using h2
     have h4 : fn.body.isNone = false := by
      cases hb : fn.body with
      | none => rw [hb] at h1; cases h1
      | some b => rfl
     simp only [h3, h4, Bool.false_eq_true, if_false]
     refine SR.pure (NR.enter f ?_ hv)
     simpa [okTo, hcal] using hto
   | _ => cases hc
  | _ => rw [hcal] at hc; cases hc
 | _ => rw [ho] at hok; cases hok
end
end Go.Proofs.YtbicafgmfgdckaaGreatDoor
namespace Go.Proofs.YtbicafgmfgdckaaGreatDoor
open Go Go.Conc

def okOps (P : Program) (G : Nat -> Bool) (fs : List Nat) (ops : Array Oper) : Bool := ops.all fun o => okOp P G o.op && okTo fs o.op
def okCode (P : Program) (G : Nat -> Bool) (fs : List Nat) : Code -> Bool
 | .skip | .ret | .label _ | .exit _ => true
 | .seq a b => okCode P G fs a && okCode P G fs b
 | .cond c a b => okX G c && okCode P G fs a && okCode P G fs b
 | .block _ c | .loop c | .scope c => okCode P G fs c
 | .region _ ops _ => okOps P G fs ops
 | _ => false
def okItem (P : Program) (G : Nat -> Bool) (fs : List Nat) : Item -> Bool
 | .code c | .inLoop c | .inScope c => okCode P G fs c
 | .inBlock _ => true
 | .inRegion ops _ => okOps P G fs ops
 | _ => false
def okBody (P : Program) (G : Nat -> Bool) (fs : List Nat) (f : FuncId) : Bool := match P.funcs[f]? with
 | some fn => (match fn.body with | some c => okCode P G fs c | none => false) && (P.inits.idxOf? f).isNone
 | none => false
def okHead (P : Program) (f : FuncId) : Bool := match P.funcs[f]? with
 | some _ => (P.inits.idxOf? f).isNone
 | none => false
theorem head_of {P : Program} {G : Nat -> Bool} {fs : List Nat} {f : FuncId} (h : okBody P G fs f = true) : okHead P f = true := by
 unfold okBody at h
 unfold okHead
 cases hf : P.funcs[f]? with
 | none => rw [hf] at h; cases h
 | some fn => rw [hf] at h; simp only [Bool.and_eq_true] at h; exact h.2
structure Rec where
 fn : FuncId
 tmps : Array Value
 todo : List Item
 ret : Bool
def Rec.fr (r : Rec) : Frame := { fn := r.fn, tmps := r.tmps, todo := r.todo, defers := [], mode := if r.ret then .returning else .run, kind := .normal }
def Rec.eval (r : Rec) : Operand -> Value
 | .tmp t => r.tmps.getD t undef
 | .const v => v
 | .global g => .pointer (some ⟨g, 0, none⟩)
 | .func f => .func (.func f) #[] #[]
theorem Rec.eval_fr (r : Rec) : r.fr.eval = r.eval := by funext x; cases x <;> rfl
def Rec.finish (r : Rec) (v : Value) : Rec := match r.todo with
 | .inRegion ops (i :: rest) :: k => { r with tmps := (match (ops[i]?).bind (·.dst) with | some d => r.tmps.setIfInBounds d v | none => r.tmps), todo := .inRegion ops rest :: k }
 | _ => r
structure RR (P : Program) (G : Nat -> Bool) (fs : List Nat) (K : List Item) (ρ : Ren) (r r' : Rec) : Prop where
 fn : r.fn = r'.fn
 todo : r'.todo = r.todo ++ K
 ret : r.ret = r'.ret
 tmps : VsR ρ r.tmps r'.tmps
 items : ∀ it ∈ r.todo, okItem P G fs it = true
 body : okHead P r.fn = true
section
variable {P : Program} {G : Nat -> Bool} {fs : List Nat} {K : List Item} {ρ σ : Ren} {r r' r1 : Rec}
theorem RR.mono (h : RR P G fs K ρ r r') (k : ρ.le σ) : RR P G fs K σ r r' := ⟨h.fn, h.todo, h.ret, h.tmps.mono k, h.items, h.body⟩
theorem vr_undef : VR ρ undef undef := .tuple rfl fun i h => by simp at h
theorem VsR.getD {cs cs' : Array Value} (h : VsR ρ cs cs') (i : Nat) : VR ρ (cs.getD i undef) (cs'.getD i undef) := by
 rw [Array.getD_eq_getD_getElem?, Array.getD_eq_getD_getElem?]
 rcases h.get i with ⟨e1, e2⟩ | ⟨v, v', e1, e2, hv⟩
 ·rw [e1, e2]; exact vr_undef
 ·rw [e1, e2]; exact hv
theorem RR.eval (h : RR P G fs K ρ r r') (hG : ∀ g, G g = true -> ρ g g) : EvalR G ρ r.eval r'.eval := by
 refine ⟨fun x hx => ?_, fun v => ⟨rfl, rfl⟩, fun f => ⟨rfl, rfl⟩⟩
 cases x with
 | tmp t => exact h.tmps.getD t
 | const v => exact vr_pureC hx
 | global g => exact .ptr ⟨hG g hx, rfl, rfl⟩
 | func f => exact .func f rfl fun i h => by simp at h
theorem VR.bool_eq {v v' : Value} (h : VR ρ v v') : (∃ b, v = .bool b /\ v' = .bool b) \/ ((∀ b, v ≠ .bool b) /\ ∀ b, v' ≠ .bool b) := by
 cases h <;> first | exact .inl ⟨_, rfl, rfl⟩ | (right; constructor <;> intro b e <;> cases e; done) | (rename_i q; right; exact ⟨(fun b e => by cases e), (fun b e => by subst e; exact absurd q (by simp [oneV]))⟩)
theorem RR.yielded (h : RR P G fs K ρ r r') (ops : Array Oper) : yielded ops r.tmps = yielded ops r'.tmps := by
 funext j
 unfold Go.yielded
 cases hd : (ops[j]?).bind (·.dst) with
 | none => rfl
 | some d =>
  show (match r.tmps[d]? with | some (.bool b) => some b | _ => none) = (match r'.tmps[d]? with | some (.bool b) => some b | _ => none)
  rcases h.tmps.get d with ⟨e1, e2⟩ | ⟨v, v', e1, e2, hv⟩
  ·rw [e1, e2]
  ·rw [e1, e2]
   cases hv with
   | nilIface _ q => cases v' <;> first | rfl | (cases q; done)
   | _ => rfl
theorem RR.finish (h : RR P G fs K ρ r r') {v v' : Value} (hv : VR ρ v v') (hne : r.todo ≠ []) : RR P G fs K ρ (r.finish v) (r'.finish v') := by
 have ht := h.todo
 unfold Rec.finish
 cases hk : r.todo with
 | nil => exact absurd hk hne
 | cons it k =>
  rw [hk, List.cons_append] at ht
  rw [ht]
  cases it with
  | inRegion ops tl =>
   cases tl with
   | nil => exact h
   | cons i rest =>
    refine ⟨h.fn, rfl, h.ret, ?_, fun it hit => ?_, h.body⟩
    ·dsimp only
     cases (ops[i]?).bind (·.dst) with
     | none => exact h.tmps
     | some d => exact h.tmps.set d hv
    ·rcases List.mem_cons.1 hit with e | hit
     ·subst e
      exact h.items (.inRegion ops (i :: rest)) (by rw [hk]; simp)
     ·exact h.items it (by rw [hk]; simp [hit])
  | _ => exact h
def headOk (P : Program) (G : Nat -> Bool) (fs : List Nat) (r : Rec) : Prop := ∀ it, r.todo.head? = some it -> okItem P G fs it = true
theorem RR.head (h : RR P G fs K ρ r r') : headOk P G fs r := fun it e => h.items it (List.mem_of_mem_head? (by rw [e]; simp))
theorem RR.head' (h : RR P G fs K ρ r r') (hne : r.todo ≠ []) : headOk P G fs r' := fun it e => by
 rw [h.todo] at e
 cases hk : r.todo with
 | nil => exact absurd hk hne
 | cons x k =>
  rw [hk] at e
  simp only [List.cons_append, List.head?_cons, Option.some.injEq] at e
  subst e
  exact h.items x (by rw [hk]; simp)
theorem finish_fr (r : Rec) (v : Value) (hi : headOk P G fs r) : r.fr.finish v = (r.finish v).fr := by
 unfold Rec.finish Frame.finish
 have ht : r.fr.todo = r.todo := rfl
 rw [ht]
 cases hk : r.todo with
 | nil => rfl
 | cons it k =>
  have := hi it (by rw [hk]; rfl)
  cases it <;> first | (cases this; done) | rfl | skip
  rename_i ops todo
  cases todo with
  | nil => rfl
  | cons i rest =>
   dsimp only
   cases (ops[i]?).bind (·.dst) <;> rfl
def ctl (r : Rec) : Option Rec :=
 match r.todo with
 | [] => some { r with ret := true }
 | .code .ret :: _ => some { r with ret := true }
 | .code .skip :: k => some { r with todo := k }
 | .code (.label _) :: k => some { r with todo := k }
 | .inBlock _ :: k => some { r with todo := k }
 | .inScope _ :: k => some { r with todo := k }
 | .code (.seq a b) :: k => some { r with todo := .code a :: .code b :: k }
 | .code (.cond c a b) :: k => (match r.eval c with | .bool t => some { r with todo := .code (if t then a else b) :: k } | _ => none)
 | .code (.block id body) :: k => some { r with todo := .code body :: .inBlock id :: k }
 | .code (.loop body) :: k => some { r with todo := .code body :: .inLoop body :: k }
 | .inLoop body :: k => some { r with todo := .code body :: .inLoop body :: k }
 | .code (.scope body) :: k => some { r with todo := .code body :: .inScope body :: k }
 | .code (.exit id) :: k => (exitTo id k).map fun k' => { r with todo := k' }
 | .code (.region _ ops false) :: k => some { r with todo := .inRegion ops (List.range ops.size) :: k }
 | .inRegion _ [] :: k => some { r with todo := k }
 | .inRegion ops (i :: _) :: _ => if ((ops[i]?).map (Region.wanted · (yielded ops r.tmps))).getD false then none else some (r.finish undef)
 | _ => none
theorem ctl_step (hr : r.ret = false) (hi : headOk P G fs r) (h : ctl r = some r1) (main : Bool) (base : List Frame) (w : World) : stepG P main (Conc.G r.fr base) w = .go (Conc.G r1.fr base) w #[] := by
 have hfin := finish_fr (P := P) (G := G) (fs := fs) r undef hi
 obtain ⟨fn, tmps, todo, ret⟩ := r
 dsimp only at hr
 subst hr
 unfold ctl at h
 dsimp only at h
 split at h <;> first
  |(injection h with h; subst h; simp [Conc.G, stepG, stepG.exec, Rec.fr]; done)
  | skip
 ·rename_i c a b k
  have he := congrFun (Rec.eval_fr ⟨fn, tmps, .code (.cond c a b) :: k, false⟩) c
  split at h
  ·rename_i t ht
   injection h with h
   subst h
   rw [ht] at he
   simp only [Rec.fr, Bool.false_eq_true, if_false] at he
   simp [Conc.G, stepG, stepG.exec, Rec.fr, he]
  ·cases h
 ·rename_i id k
  cases hk : exitTo id k with
  | none => rw [hk] at h; cases h
  | some k' =>
   rw [hk] at h
   injection h with h
   subst h
   simp [Conc.G, stepG, stepG.exec, Rec.fr, hk]
 ·rename_i ops i tl k
  split at h
  ·cases h
  ·rename_i hw
   injection h with h
   subst h
   have e : stepG P main (Conc.G (Rec.fr ⟨fn, tmps, .inRegion ops (i :: tl) :: k, false⟩) base) w = .go (Conc.G ((Rec.fr ⟨fn, tmps, .inRegion ops (i :: tl) :: k, false⟩).finish undef) base) w #[] := by
    simp only [Conc.G, stepG, stepG.exec, Rec.fr, Bool.false_eq_true, if_false]
    rw [if_neg hw]
   rw [e, hfin]
 ·cases h
theorem exitTo_mem {id : Nat} : ∀ {k k' : List Item}, exitTo id k = some k' -> ∀ it ∈ k', it ∈ k
 | [], _, h, _, _ => by simp [exitTo] at h
 | x :: k, k', h, it, hit => by
  unfold exitTo at h
  split at h
  ·rename_i e
   injection e with e1 e2
   subst e2
   split at h
   ·injection h with h
    subst h
    exact List.mem_cons_of_mem _ hit
   ·exact List.mem_cons_of_mem _ (exitTo_mem h it hit)
  ·rename_i e
   injection e with e1 e2
   subst e2
   exact List.mem_cons_of_mem _ (exitTo_mem h it hit)
  ·rename_i e; cases e
theorem exitTo_append {id : Nat} (K : List Item) : ∀ {k k' : List Item}, exitTo id k = some k' -> exitTo id (k ++ K) = some (k' ++ K)
 | [], _, h => by simp [exitTo] at h
 | x :: k, k', h => by
  unfold exitTo at h ⊢
  rw [List.cons_append]
  split at h
  ·rename_i e
   injection e with e1 e2
   subst e1 e2
   dsimp only
   split at h
   ·rename_i hq
    rw [if_pos hq]
    injection h with h
    subst h
    rfl
   ·rename_i hq
    rw [if_neg hq]
    exact exitTo_append K h
  ·rename_i hx e
   injection e with e1 e2
   subst e1 e2
   cases x with
   | inBlock id' => exact (hx id' rfl).elim
   | _ => exact exitTo_append K h
  ·rename_i e; cases e
theorem ctl_rel (h : RR P G fs K ρ r r') (hG : ∀ g, G g = true -> ρ g g) (hne : r.todo ≠ [] \/ K = []) (hc : ctl r = some r1) : ∃ r1', ctl r' = some r1' /\ RR P G fs K ρ r1 r1' := by
 have hy := h.yielded
 have hf := fun q => h.finish (vr_undef (ρ := ρ)) q
 have hev := h.eval hG
 obtain ⟨h1, h2, h3, h4, h5, h6⟩ := h
 obtain ⟨fn, tmps, todo, ret⟩ := r
 obtain ⟨fn', tmps', todo', ret'⟩ := r'
 dsimp only at h1 h2 h3 h4 h5 h6 hne
 subst h1 h2 h3
 unfold ctl at hc ⊢
 dsimp only at hc ⊢
 split at hc
 ·obtain rfl : K = [] := hne.resolve_left (fun q => q rfl)
  injection hc with hc
  subst hc
  exact ⟨_, rfl, rfl, rfl, rfl, h4, h5, h6⟩
 all_goals first
  |(injection hc with hc
    subst hc
    refine ⟨_, rfl, rfl, rfl, rfl, h4, ?_, h6⟩
    simp only [List.forall_mem_cons, okItem, okCode, Bool.and_eq_true] at h5 ⊢
    simp_all
    done)
  | skip
 ·rename_i c a b k
  simp only [List.forall_mem_cons, okItem, okCode, Bool.and_eq_true] at h5
  have hcx := hev.at_ c h5.1.1.1
  split at hc
  ·rename_i t ht
   injection hc with hc
   subst hc
   rw [ht] at hcx
   rcases hcx.bool_eq with ⟨u, e1, e2⟩ | ⟨e1, _⟩
   ·injection e1 with e1
    subst e1
    simp only [List.cons_append] at e2 ⊢
    rw [e2]
    refine ⟨_, rfl, rfl, rfl, rfl, h4, ?_, h6⟩
    simp only [List.forall_mem_cons, okItem]
    refine ⟨?_, h5.2⟩
    cases t with
    | true => exact h5.1.1.2
    | false => exact h5.1.2
   ·exact absurd rfl (e1 t)
  ·cases hc
 ·rename_i id k
  cases hk : exitTo id k with
  | none => rw [hk] at hc; cases hc
  | some k' =>
   rw [hk] at hc
   injection hc with hc
   subst hc
   simp only [List.cons_append]
   rw [exitTo_append K hk]
   exact ⟨_, rfl, rfl, rfl, rfl, h4, fun it hit => h5 it (List.mem_cons_of_mem _ (exitTo_mem hk it hit)), h6⟩
 ·rename_i ops i tl k
  simp only [List.cons_append]
  rw [<- hy ops]
  split at hc
  ·cases hc
  ·rename_i hw
   injection hc with hc
   subst hc
   rw [if_neg hw]
   exact ⟨_, rfl, hf (by simp)⟩
 ·cases hc
end
end Go.Proofs.YtbicafgmfgdckaaGreatDoor
namespace Go.Proofs.YtbicafgmfgdckaaGreatDoor
open Go

theorem WR.kind {gs : Nat} {F : Nat -> Prop} {ρ : Ren} {w w' : World} (h : WR gs F ρ w w') {a b : Nat} (k : ρ a b) : (∃ cs t fr, w.heap[a]? = some (.cells cs t fr)) \/ ∃ ad l, w.heap[a]? = some (.number ad l) := by
 obtain ⟨o, o', h1, h2, h3⟩ := h.block _ _ k
 cases o <;> cases o' <;> first | exact h3.elim | exact .inl ⟨_, _, _, h1⟩ | exact .inr ⟨_, _, h1⟩
theorem WR.noCell {gs : Nat} {F : Nat -> Prop} {ρ : Ren} {w w' : World} (h : WR gs F ρ w w') {a a' : Addr} (k : AR ρ a a') (what : String) : w.noCell a what = .stuck what := by
 unfold World.noCell
 rcases h.kind k.block with ⟨cs, t, fr, e⟩ | ⟨ad, l, e⟩ <;> rw [e]
theorem WR.farLoad {gs : Nat} {F : Nat -> Prop} {ρ : Ren} {w w' : World} (h : WR gs F ρ w w') {a a' : Addr} (k : AR ρ a a') (p : Program) (b : Bool) : w.farLoad p a b = .error (.stuck "load: no such cell") := by
 unfold World.farLoad
 have := h.noCell k "load: no such cell"
 rcases h.kind k.block with ⟨cs, t, fr, e⟩ | ⟨ad, l, e⟩ <;> (rw [e]; dsimp only; rw [this])
theorem WR.farStore {gs : Nat} {F : Nat -> Prop} {ρ : Ren} {w w' : World} (h : WR gs F ρ w w') {a a' : Addr} (k : AR ρ a a') (p : Program) (v : Value) (b : Bool) : w.farStore p a v b = .error (.stuck "store: no such cell") := by
 unfold World.farStore
 have := h.noCell k "store: no such cell"
 rcases h.kind k.block with ⟨cs, t, fr, e⟩ | ⟨ad, l, e⟩ <;> (rw [e]; dsimp only; rw [this])
theorem run_SR_halt {α β : Type} {X : Ren -> α -> β -> Prop} {F : Nat -> Prop} (p : Program) {ρ : Ren} {s : Sem α} {s' : Sem β} (h : SR p X ρ s s') : ∀ (w w' : World) (es : Array Event), WR p.globals.size F ρ w w' ->
  ∀ hh w1 es1, s.runT p w es = (.halt hh w1, es1) -> dull hh = true := by
 induction h with
 | pure h => intro w w' es hw hh w1 es1 e; simp [Sem.runT] at e
 | @load ρ a a' k k' hA _ ih =>
  intro w w' es hw hh w1 es1 e
  rcases hw.cell hA with ⟨h1, h2⟩ | ⟨v, v', h1, h2, hv⟩
  ·simp only [Sem.runT, h1, hw.farLoad hA] at e
   simp only [Prod.mk.injEq, Result.halt.injEq] at e
   rw [<- e.1.1]; rfl
  ·simp only [Sem.runT, h1] at e
   exact ih v v' hv w w' _ hw hh w1 es1 e
 | @store ρ a a' v v' k k' hA hv _ ih =>
  intro w w' es hw hh w1 es1 e
  by_cases hva : (∃ c, v = .agg c) \/ (∃ c, v = .tuple c)
  ·rcases hva with ⟨c, rfl⟩ | ⟨c, rfl⟩ <;> (simp only [Sem.runT, Prod.mk.injEq, Result.halt.injEq] at e; rw [<- e.1.1]; rfl)
  ·have st : (Sem.store .plain a v k).runT p w es = match w.cell? a with
     | some _ => if w.frozen? a then (.halt (.unsupported (.unsafePointer "a write to bytes that a string shares")) w, es) else k.runT p (w.setCell a v) (es.push ⟨.cell a, true, Mode.plain == .atomic⟩)
     | none => match w.farStore p a v (Mode.plain == .atomic) with
      | .ok (w, touched) => k.runT p w (es ++ touched.toArray.map (⟨.cell ·, true, Mode.plain == .atomic⟩))
      | .error h => (.halt h w, es) := by
    cases v <;> first | rfl | exact (hva (.inl ⟨_, rfl⟩)).elim | exact (hva (.inr ⟨_, rfl⟩)).elim
   rw [st] at e
   rcases hw.cell hA with ⟨h1, h2⟩ | ⟨u, u', h1, h2, hu⟩
   ·rw [h1] at e
    dsimp only at e
    rw [hw.farStore hA] at e
    simp only [Prod.mk.injEq, Result.halt.injEq] at e
    rw [<- e.1.1]; rfl
   ·rw [h1] at e
    dsimp only at e
    split at e
    ·simp only [Prod.mk.injEq, Result.halt.injEq] at e
     rw [<- e.1.1]; rfl
    ·exact ih (w.setCell a v) (w'.setCell a' v') _ (hw.set hA hv) hh w1 es1 e
 | @new ρ cs cs' t k k' hc _ ih =>
  intro w w' es hw hh w1 es1 e
  simp only [Sem.runT] at e
  exact ih w.heap.size w'.heap.size hw.gsize _ _ _ (hw.push (o := .cells cs t) (o' := .cells cs' t) hw.lt (.inl ⟨_, _, _, rfl⟩) fun b hf => ⟨rfl, hc, fun q => (hf q).elim, fun _ => ⟨rfl, rfl⟩⟩) hh w1 es1 e
 | @number ρ a a' l k k' hc _ ih =>
  intro w w' es hw hh w1 es1 e
  simp only [Sem.runT] at e
  exact ih w.heap.size w'.heap.size hw.gsize _ _ _ (hw.push (o := .number a l) (o' := .number a' l) hw.lt (.inr ⟨_, _, rfl⟩) fun b _ => ⟨rfl, hc⟩) hh w1 es1 e
 | @getObj ρ r r' k k' hr _ ih =>
  intro w w' es hw hh w1 es1 e
  obtain ⟨o, o', q1, q2, q3⟩ := hw.block _ _ hr
  simp only [Sem.runT, q1] at e
  cases o <;> cases o' <;> first | exact q3.elim | skip
  ·simp only [Prod.mk.injEq, Result.halt.injEq] at e
   rw [<- e.1.1]; rfl
  ·rename_i a l a' l'
   obtain ⟨rfl, ha⟩ := q3
   exact ih a a' l ha w w' _ hw hh w1 es1 e
 | @shape ρ r r' k k' hr _ ih =>
  intro w w' es hw hh w1 es1 e
  simp only [Sem.runT] at e
  exact ih _ w w' es hw hh w1 es1 e
 | @choose ρ q k k' _ ih =>
  intro w w' es hw hh w1 es1 e
  simp only [Sem.runT] at e
  split at e
  ·exact ih _ w w' es hw hh w1 es1 e
  ·exact ih _ _ _ es hw.draw hh w1 es1 e
 | @program ρ k k' _ ih =>
  intro w w' es hw hh w1 es1 e
  simp only [Sem.runT] at e
  exact ih w w' es hw hh w1 es1 e
 | @mark ρ m k k' hm _ ih =>
  intro w w' es hw hh w1 es1 e
  simp only [Sem.runT] at e
  exact ih w w' _ hw hh w1 es1 e
 | halt hd =>
  intro w w' es hw hh w1 es1 e
  simp only [Sem.runT, Prod.mk.injEq, Result.halt.injEq] at e
  rw [<- e.1.1]; exact hd
 | loadVoid h =>
  intro w w' es hw hh w1 es1 e
  obtain ⟨_, e2⟩ := void_load p hw h _ es
  rw [e2] at e
  simp only [Prod.mk.injEq, Result.halt.injEq] at e
  rw [<- e.1.1]; rfl
 | storeVoid h =>
  intro w w' es hw hh w1 es1 e
  obtain ⟨_, _, e2⟩ := void_store p hw h _ _ es
  rw [e2] at e
  simp only [Prod.mk.injEq, Result.halt.injEq] at e
  rw [<- e.1.1]; rfl
 | dead h =>
  intro w w' es hw hh w1 es1 e
  obtain ⟨h', w2, es2, e2, hd⟩ := h w es
  rw [e2] at e
  simp only [Prod.mk.injEq, Result.halt.injEq] at e
  rw [<- e.1.1]; exact hd
end Go.Proofs.YtbicafgmfgdckaaGreatDoor
namespace Go.Proofs.YtbicafgmfgdckaaGreatDoor
open Go Go.Conc

section
variable {P : Program} {fr : Frame} {cs : List Frame} {s : Sem Next} {w w1 : World} {es : Array Event}
theorem run_of {h : Result Next} (e : s.runT P w #[] = (h, es)) : s.run P w = h /\ s.events P w #[] = es := by
 refine ⟨?_, ?_⟩
 ·rw [<- Sem.runT_fst P s w #[], e]
 ·unfold Sem.events; rw [e]
theorem apply_value {v : Value} (hk : fr.kind = .normal) (h : s.runT P w #[] = (.ok (.value v) w1, es)) : stepG.apply P true fr cs none s w = .go (Conc.G (fr.finish v) cs) w1 (seen P fr.fn es) := by
 obtain ⟨e1, e2⟩ := run_of h
 simp [stepG.apply, e1, e2, hk, GStep.after, Conc.G]
theorem apply_skip (hk : fr.kind = .normal) (h : s.runT P w #[] = (.ok .skip w1, es)) : stepG.apply P true fr cs none s w = .go (Conc.G (fr.finish undef) cs) w1 (seen P fr.fn es) := by
 obtain ⟨e1, e2⟩ := run_of h
 simp [stepG.apply, e1, e2, hk, GStep.after, Conc.G]
theorem apply_enter {f : FuncId} {as : Array Value} {ops : Array Oper} {t : List Nat} {k : List Item} (hk : fr.kind = .normal) (ht : fr.todo = .inRegion ops t :: k) (h : s.runT P w #[] = (.ok (.enter f as) w1, es)) : stepG.apply P true fr cs none s w = .go (Conc.G (Frame.enter P f as .normal) (fr :: cs)) w1 (seen P fr.fn es) := by
 obtain ⟨e1, e2⟩ := run_of h
 simp [stepG.apply, e1, e2, hk, GStep.after, Conc.G, ht]
theorem apply_dull {h' : Halt} (h : s.runT P w #[] = (.halt h' w1, es)) (hd : dull h' = true) : (∃ v w2 es', stepG.apply P true fr cs none s w = .go (Conc.G (fr.raise [{ v, recovered := false }]) cs) w2 es') \/ ∃ o w2 es2, stepG.apply P true fr cs none s w = .ended o w2 es2 := by
 obtain ⟨e1, e2⟩ := run_of h
 cases h' with
 | panic v => left; refine ⟨v, w1, ?_⟩; simp only [stepG.apply, Sem.runT_eq, e1, if_true, GStep.after, Conc.G]; exact ⟨_, rfl⟩
 | stuck why => right; simp only [stepG.apply, Sem.runT_eq, e1, if_true, GStep.after]; exact ⟨_, _, _, rfl⟩
 | unsupported u => cases u <;> first | (cases hd; done) | (right; simp only [stepG.apply, Sem.runT_eq, e1, if_true, GStep.after]; exact ⟨_, _, _, rfl⟩)
 | _ => cases hd
theorem seen_mem {f : FuncId} {es : Array Event} {e : Event} (h : e ∈ seen P f es) : e ∈ es := by
 unfold seen at h
 dsimp only at h
 rw [<- Array.foldl_toList] at h
 have key : ∀ (l : List Event) (q : Bool × Array Event), e ∈ (l.foldl (fun (q : Bool × Array Event) e => match e.loc with
   | .mark (.extern f) => ((P.funcs[f]?).any (·.norace), q.2)
   | _ => (q.1, if q.1 && !e.sync then q.2 else q.2.push e)) q).2 -> e ∈ q.2 \/ e ∈ l := by
  intro l
  induction l with
  | nil => intro q h; exact .inl h
  | cons a l ih =>
   intro q h
   rw [List.foldl_cons] at h
   rcases ih _ h with h | h
   ·split at h
    ·exact .inl h
    ·dsimp only at h
     split at h
     ·exact .inl h
     ·rcases Array.mem_push.1 h with h | h
      ·exact .inl h
      ·subst h; exact .inr (by simp)
   ·exact .inr (by simp [h])
 rcases key es.toList _ h with h | h
 ·simp at h
 ·simpa using h
end
def botK (K : List Item) : List Rec -> List Item
 | [] => K
 | _ => []
theorem botK_nil (l : List Rec) : botK [] l = [] := by cases l <;> rfl
inductive LR (P : Program) (G : Nat -> Bool) (fs : List Nat) (K : List Item) (ρ : Ren) : List Rec -> List Rec -> Prop
 | nil : LR P G fs K ρ [] []
 | cons {r r' : Rec} {l l' : List Rec} (h : RR P G fs (botK K l) ρ r r') (hr : r.ret = false) (ht : r.todo ≠ []) (k : LR P G fs K ρ l l') : LR P G fs K ρ (r :: l) (r' :: l')
section
variable {P : Program} {G : Nat -> Bool} {fs : List Nat} {K : List Item} {ρ σ : Ren}
theorem LR.mono {l l' : List Rec} (h : LR P G fs K ρ l l') (k : ρ.le σ) : LR P G fs K σ l l' := by
 induction h with
 | nil => exact .nil
 | cons q hr ht _ ih => exact .cons (q.mono k) hr ht ih
theorem sr_resultList {ts ts' : Array Value} (h : VsR ρ ts ts') : ∀ (l : List ResultVar) (σ : Ren), ρ.le σ -> SR P LsR σ
   (l.mapM fun (r : ResultVar) => (match r with | .tmp t => pure (ts.getD t undef) | .cell a t => do loadVar t (<- asAddr (ts.getD a undef)) : Sem Value))
   (l.mapM fun (r : ResultVar) => (match r with | .tmp t => pure (ts'.getD t undef) | .cell a t => do loadVar t (<- asAddr (ts'.getD a undef)) : Sem Value))
 | [], σ, _ => by rw [List.mapM_nil, List.mapM_nil]; exact SR.pure .nil
 | r :: l, σ, hl => by
  rw [List.mapM_cons, List.mapM_cons]
  have one : SR P VR σ (match r with | .tmp t => pure (ts.getD t undef) | .cell a t => do loadVar t (<- asAddr (ts.getD a undef)) : Sem Value) (match r with | .tmp t => pure (ts'.getD t undef) | .cell a t => do loadVar t (<- asAddr (ts'.getD a undef)) : Sem Value) := by
   cases r with
   | tmp t => exact SR.pure ((h.mono hl).getD t)
   | cell a t => exact (sr_asAddr ((h.mono hl).getD a)).bind' fun _ _ _ _ ha => sr_loadVar t ha
  refine one.bind' fun σ2 v v' hl2 hv => ?_
  refine (sr_resultList h l σ2 (Ren.le_trans hl hl2)).bind' fun τ a b hl3 q => ?_
  exact SR.pure (.cons (hv.mono hl3) q)
theorem sr_results {fn : Func} {ts ts' : Array Value} (h : VsR ρ ts ts') : SR P VR ρ (results fn ts) (results fn ts') := by
 unfold results
 rw [Array.mapM_eq_mapM_toList, Array.mapM_eq_mapM_toList]
 have key := sr_resultList (P := P) h fn.results.toList ρ (Ren.le_refl _)
 refine SR.bind' (X := fun σ a b => VsR σ a b) (SR.bind' key fun σ a b hl q => SR.pure q.array) fun σ vs vs' hl q => ?_
 refine SR.pure ?_
 by_cases e : vs.size = 1
 ·rw [dif_pos e, dif_pos (q.size ▸ e)]
  exact q.at_ 0 (by omega) (by rw [<- q.size]; omega)
 ·rw [dif_neg e, dif_neg (fun e2 => e (q.size.trans e2))]
  exact .tuple q.size q.at_
end
end Go.Proofs.YtbicafgmfgdckaaGreatDoor
