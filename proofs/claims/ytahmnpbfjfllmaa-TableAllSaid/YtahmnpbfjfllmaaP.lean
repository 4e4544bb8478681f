/- A region that draws its order, walked by a plan: operations that yield one value in every world of a class are taken first; the others come up one at a time, each in a forced place, and leave a world of the class. For any program. -/
import Derived.Test.YtahmnpbfjfllmaaD
import Derived.Test.YtahmnpbfjfllmaaL
import Derived.OrdersHeld
namespace Go.Proofs.Ytahmnpbfjfllmaa
open Go

section
variable {P : Program} {ops : Array Oper} {Q : Exit → Act → World → Prop}

/-- Operations that yield a value and do nothing else. -/
def valueOp : Op → Bool
  | .move _ | .assign _ | .load .. | .binOp .. | .unOp .. | .fieldAddr .. | .field .. | .indexAddr .. | .index .. | .slice .. | .extract .. | .pick .. | .nilCheck _ | .convert .. | .build .. => true
  | .call { callee := .builtin b, .. } => match b with | .len | .cap | .min | .max => true | _ => false
  | _ => false
theorem run_value {s : Sem Value} {w w' : World} {n : Next} (h : (do pure (.value (← s)) : Sem Next).run P w = .ok n w') : ∃ v, n = .value v := by
  rw [Sem.run_bind] at h
  cases hs : s.run P w with
  | ok v w1 => rw [hs] at h; simp only [Result.andThen_ok, Sem.run_pure] at h; injection h with h1 _; exact ⟨v, h1.symm⟩
  | halt x w1 => rw [hs] at h; cases h
/-- Whatever such an operation's run yields is a value. -/
def Yields' (m : Sem Next) : Prop := ∀ (P : Program) (w w' : World) (n : Next), m.run P w = .ok n w' → ∃ v, n = .value v
theorem yields_v (s : Sem Value) : Yields' (do pure (.value (← s)) : Sem Next) := fun _ _ _ _ h => run_value h
theorem yields_pure (v : Value) : Yields' (pure (.value v) : Sem Next) := fun P w w' n h => by
  rw [Sem.run_pure] at h; injection h with h1 _; exact ⟨v, h1.symm⟩
theorem yields_bind {α : Type} (s : Sem α) (f : α → Sem Next) (h : ∀ x, Yields' (f x)) : Yields' (s >>= f) := fun P w w' n hr => by
  rw [Sem.run_bind] at hr
  cases hs : s.run P w with
  | ok x w1 => rw [hs] at hr; simp only [Result.andThen_ok] at hr; exact h x P w1 w' n hr
  | halt x w1 => rw [hs] at hr; cases hr
theorem yields_of {α : Type} (s : Sem α) (f : α → Sem Next) (h : ∀ (P : Program) (w w1 : World) (x : α), s.run P w = .ok x w1 → False) : Yields' (s >>= f) := fun P w w' n hr => by
  rw [Sem.run_bind] at hr
  cases hs : s.run P w with
  | ok x w1 => exact (h P w w1 x hs).elim
  | halt x w1 => rw [hs] at hr; cases hr
theorem yields_halt (h : Halt) : Yields' (Sem.halt h : Sem Next) := fun P w w' n hr => by simp [Sem.run] at hr
theorem yields_rt : Yields' (runtimePanic .nilDeref : Sem Next) := by
  unfold runtimePanic
  refine yields_bind _ _ fun p => ?_
  exact yields_halt _
theorem yields_nilCheck (ρ : Operand → Value) (o : Oper) (x : Operand) (h : o.op = .nilCheck x) : Yields' (execOp ρ o) := by
  unfold execOp
  simp only [h]
  split
  · exact yields_rt
  · exact yields_rt
  · exact yields_rt
  · split
    · exact yields_rt
    · refine yields_bind _ _ fun p => yields_bind _ _ fun q => ?_
      split
      · exact yields_bind _ _ fun _ => yields_pure _
      · exact yields_pure _
    · exact yields_pure _
  · exact yields_pure _
theorem yields_op (ρ : Operand → Value) (o : Oper) (hv : valueOp o.op = true) : Yields' (execOp ρ o) := by
  by_cases hc : ∃ x, o.op = .nilCheck x
  · obtain ⟨x, hx⟩ := hc; exact yields_nilCheck ρ o x hx
  have hn : ∀ x, o.op ≠ .nilCheck x := fun x e => hc ⟨x, e⟩
  clear hc
  obtain ⟨dst, op, ty, pos, after, guard⟩ := o
  cases op <;> simp only [valueOp, Bool.false_eq_true] at hv
  case nilCheck x => exact (hn x rfl).elim
  case call c =>
    obtain ⟨callee, args, ats⟩ := c
    cases callee with
    | builtin b => cases b <;> first | exact yields_v _ | (simp at hv)
    | value f => simp at hv
    | invoke r m => simp at hv
  case move x => exact yields_pure _
  case assign x => exact yields_pure _
  case pick c a b => exact yields_bind _ _ fun _ => yields_pure _
  all_goals exact yields_v _

/-- The plan, an operation at a time: taken first ('true'), or the one that comes up. -/
def flatB (ops : Array Oper) : List (Bool × Nat) → Array Bool → Bool
  | [], listed => (Region.ready .any ops listed).isEmpty
  | (true, i) :: l, listed => ((ops[i]?).map fun o => valueOp o.op).getD false && Region.free .any ops listed i && (Region.ready .any ops listed).contains i && flatB ops l (listed.setIfInBounds i true)
  | (false, i) :: l, listed => (Region.ready .any ops listed == [i]) && flatB ops l (listed.setIfInBounds i true)
def wpFlat (P : Program) (ops : Array Oper) (Q : Exit → Act → World → Prop) : List (Bool × Nat) → (World → Prop) → Act → World → Prop
  | [], _, a, w => Q .normal a w
  | (true, i) :: l, S, a, w => ∃ o v, ops[i]? = some o ∧ YieldsIf P ops S o v a ∧ wpFlat P ops Q l S (a.put o.dst v) w
  | (false, i) :: l, S, a, w => wpOp P ops Q i (fun a' w' => ∃ S' : World → Prop, (∀ x, S' x → S x) ∧ S' w' ∧ wpFlat P ops Q l S' a' w') a w
theorem wpAnyH_sub {md : Region.Mode} {S S' : World → Prop} (h : ∀ x, S' x → S x) : ∀ (fuel : Nat) (listed : Array Bool) (a : Act) (w : World), wpAnyH P md ops Q S' fuel listed a w → wpAnyH P md ops Q S fuel listed a w
  | 0, _, _, _, k => k
  | f + 1, _, _, _, k => ⟨k.1, fun i hi => wpOp_mono (fun a' w' k' => ⟨h _ k'.1, wpAnyH_sub h f _ a' w' k'.2⟩) (k.2 i hi)⟩
theorem flat_sound (hs : Region.noSelect ops = true) (hQ : ∀ (c : List PanicEntry) (a : Act) (d : Option Tmp) (v : Value) (w : World), Q (.panic c) (a.put d v) w → Q (.panic c) a w) :
    ∀ (l : List (Bool × Nat)) (fuel : Nat) (listed : Array Bool) (S : World → Prop) (a : Act) (w : World), l.length ≤ fuel → flatB ops l listed = true → S w → wpFlat P ops Q l S a w → wpAnyH P .any ops Q S fuel listed a w
  | [], fuel, listed, S, a, w, _, hB, _, h => wpAnyH_done (by simpa [flatB] using hB) h fuel
  | (true, i) :: l, 0, _, _, _, _, hf, _, _, _ => by simp at hf
  | (false, i) :: l, 0, _, _, _, _, hf, _, _, _ => by simp at hf
  | (true, i) :: l, fuel + 1, listed, S, a, w, hf, hB, hS, h => by
    simp only [flatB, Bool.and_eq_true] at hB
    obtain ⟨o, v, ho, hy, hk⟩ := h
    exact wpAnyH_take ho hs hB.1.1.2 hB.1.2 (fun c a w => hQ c a o.dst v w) hy hS (flat_sound hs hQ l fuel _ S _ w (by simpa using hf) hB.2 hS hk)
  | (false, i) :: l, fuel + 1, listed, S, a, w, hf, hB, hS, h => by
    simp only [flatB, Bool.and_eq_true, beq_iff_eq] at hB
    refine wpAnyH_all hB.1 (by simp) fun j hj => ?_
    simp only [List.mem_singleton] at hj
    subst hj
    refine wpOp_mono (fun a' w' k => ?_) h
    obtain ⟨S', h1, h2, h3⟩ := k
    exact ⟨h1 _ h2, wpAnyH_sub h1 fuel _ a' w' (flat_sound hs hQ l fuel _ S' a' w' (by simpa using hf) hB.2 h2 h3)⟩

/-- The operations of these numbers. -/
def opsOf (L : List Oper) (is : List Nat) : List Oper := is.filterMap fun i => L[i]?
/-- What is asked of one that comes up: behind it the world is of a narrower class. -/
def LatePost (Q : Exit → Act → World → Prop) (S : World → Prop) (K : (World → Prop) → Act → World → Prop) : Exit → Act → World → Prop
  | .normal, a, w => ∃ S' : World → Prop, (∀ x, S' x → S x) ∧ S' w ∧ K S' a w
  | e, a, w => Q e a w
/-- The plan by pieces: so many taken first, then one that comes up, and so on. -/
def wpPlan (P : Program) (L : List Oper) (Q : Exit → Act → World → Prop) : List (List Nat × Option Nat) → (World → Prop) → Act → World → Prop
  | [], _, a, w => Q .normal a w
  | (is, none) :: l, S, a, w => wpQuiet P L.toArray S (fun a' => wpPlan P L Q l S a' w) (opsOf L is) a
  | (is, some j) :: l, S, a, w => wpQuiet P L.toArray S (fun a' => wpList P L.toArray (LatePost Q S fun S' a' w' => wpPlan P L Q l S' a' w') (opsOf L [j]) a' w) (opsOf L is) a
def flatOf : List (List Nat × Option Nat) → List (Bool × Nat)
  | [] => []
  | (is, none) :: l => is.map (fun i => (true, i)) ++ flatOf l
  | (is, some j) :: l => is.map (fun i => (true, i)) ++ (false, j) :: flatOf l
def placesB (n : Nat) (p : List (List Nat × Option Nat)) : Bool := (flatOf p).all fun x => decide (x.2 < n)
def planB (L : List Oper) (p : List (List Nat × Option Nat)) : Bool :=
  Region.noSelect L.toArray && decide ((flatOf p).length ≤ L.length) && placesB L.length p && flatB L.toArray (flatOf p) (Array.replicate L.toArray.size false)
/-- What a quiet step of a value says. -/
theorem yieldsIf_of_quiet {S : World → Prop} {o : Oper} {a : Act} {K : Act → Prop} (hv : valueOp o.op = true)
    (h : if Region.wanted o (yielded ops a.tmps) then o.quiet P a S K else K (a.put o.dst undef)) : ∃ v, YieldsIf P ops S o v a ∧ K (a.put o.dst v) := by
  by_cases hw : Region.wanted o (yielded ops a.tmps) = true
  · rw [if_pos hw] at h
    obtain ⟨v, h1, h2⟩ := h
    refine ⟨v, .inl ⟨hw, fun w hS => ?_⟩, h2⟩
    have h3 := h1 w hS
    unfold Oper.quietAt at h3
    have h4 := yields_op a.eval o hv P w
    generalize (execOp a.eval o).run P w = r at h3 h4
    cases r with
    | ok n w' =>
      obtain ⟨u, rfl⟩ := h4 w' n rfl
      simp only [Oper.quietUpon] at h3
      obtain ⟨e1, e2⟩ := h3
      rw [e1, e2]
    | halt x w' => simp only [Oper.quietUpon] at h3
  · rw [if_neg hw] at h
    exact ⟨undef, .inr ⟨by simpa using hw, rfl⟩, h⟩
theorem flat_of_quiet {L : List Oper} {S : World → Prop} {l : List (Bool × Nat)} {w : World} : ∀ (is : List Nat) (a : Act), (∀ i ∈ is, i < L.length) → (∀ i ∈ is, ∀ o, L[i]? = some o → valueOp o.op = true) →
    wpQuiet P L.toArray S (fun a' => wpFlat P L.toArray Q l S a' w) (opsOf L is) a → wpFlat P L.toArray Q (is.map (fun i => (true, i)) ++ l) S a w
  | [], a, _, _, h => h
  | i :: is, a, hl, hv, h => by
    have hi : i < L.length := hl i (by simp)
    have ho : L[i]? = some L[i] := List.getElem?_eq_getElem hi
    have e : opsOf L (i :: is) = L[i] :: opsOf L is := by simp [opsOf, ho]
    rw [e] at h
    obtain ⟨v, h1, h2⟩ := yieldsIf_of_quiet (hv i (by simp) _ ho) (by unfold wpQuiet at h; exact h)
    exact ⟨L[i], v, by simp, h1, flat_of_quiet is _ (fun j hj => hl j (by simp [hj])) (fun j hj => hv j (by simp [hj])) h2⟩
theorem flat_vals {L : List Oper} : ∀ (l : List (Bool × Nat)) (listed : Array Bool), flatB L.toArray l listed = true → ∀ i, (true, i) ∈ l → ∀ o, L[i]? = some o → valueOp o.op = true
  | [], _, _, i, hi, _, _ => by simp at hi
  | (true, j) :: l, listed, hB, i, hi, o, ho => by
    simp only [flatB, Bool.and_eq_true] at hB
    rcases List.mem_cons.1 hi with e | hi
    · injection e with _ e; subst e
      have := hB.1.1.1
      simpa [ho] using this
    · exact flat_vals l _ hB.2 i hi o ho
  | (false, j) :: l, listed, hB, i, hi, o, ho => by
    simp only [flatB, Bool.and_eq_true] at hB
    rcases List.mem_cons.1 hi with e | hi
    · injection e with e _; cases e
    · exact flat_vals l _ hB.2 i hi o ho
theorem flat_of_plan {L : List Oper} : ∀ (p : List (List Nat × Option Nat)) (S : World → Prop) (a : Act) (w : World), (∀ x ∈ flatOf p, x.2 < L.length) → (∀ i, (true, i) ∈ flatOf p → ∀ o, L[i]? = some o → valueOp o.op = true) →
    wpPlan P L Q p S a w → wpFlat P L.toArray Q (flatOf p) S a w
  | [], _, _, _, _, _, h => h
  | (is, none) :: l, S, a, w, hl, hv, h => by
    refine flat_of_quiet is a (fun i hi => hl (true, i) (by simp [flatOf, hi])) (fun i hi => hv i (by simp [flatOf, hi])) (wpQuiet_mono (fun a' h' => ?_) _ _ h)
    exact flat_of_plan l S a' w (fun x hx => hl x (by simp [flatOf, hx])) (fun i hi => hv i (by simp [flatOf, hi])) h'
  | (is, some j) :: l, S, a, w, hl, hv, h => by
    refine flat_of_quiet is a (fun i hi => hl (true, i) (by simp [flatOf, hi])) (fun i hi => hv i (by simp [flatOf, hi])) (wpQuiet_mono (fun a' h' => ?_) _ _ h)
    have hj : j < L.length := hl (false, j) (by simp [flatOf])
    have ho : L[j]? = some L[j] := List.getElem?_eq_getElem hj
    have e : opsOf L [j] = [L[j]] := by simp [opsOf, ho]
    rw [e] at h'
    have hop := wpOp_of_list (Q' := Q) (n := j) (by simp) (fun e a w he hx => by cases e <;> first | exact (he rfl).elim | exact hx) h'
    refine wpOp_mono (fun a2 w2 k => ?_) hop
    obtain ⟨S', h1, h2, h3⟩ := k
    exact ⟨S', h1, h2, flat_of_plan l S' a2 w2 (fun x hx => hl x (by simp [flatOf, hx])) (fun i hi => hv i (by simp [flatOf, hi])) h3⟩
/-- The law: a region by a plan. -/
theorem wp_region_plan {id : Nat} {L : List Oper} {a : Act} {w : World} (p : List (List Nat × Option Nat)) (S : World → Prop) (hm : P.follows .mixedOrders = true) (hB : planB L p = true)
    (hQ : ∀ (c : List PanicEntry) (a : Act) (d : Option Tmp) (v : Value) (w : World), Q (.panic c) (a.put d v) w → Q (.panic c) a w) (hS : S w.drew) (h : wpPlan P L Q p S a w.drew) : (Code.region id L.toArray true).wp P Q a w := by
  simp only [planB, Bool.and_eq_true, decide_eq_true_eq] at hB
  obtain ⟨⟨⟨b1, b2⟩, b3⟩, b4⟩ := hB
  refine wp_region_held (S := S) hm ?_
  have hpl : ∀ x ∈ flatOf p, x.2 < L.length := fun x hx => by
    have := List.all_eq_true.1 b3 x hx
    simpa using this
  exact flat_sound b1 hQ (flatOf p) _ _ S a _ (by simpa using b2) b4 hS (flat_of_plan p S a _ hpl (flat_vals _ _ b4) h)
theorem plan_some {L : List Oper} {is : List Nat} {j : Nat} {l : List (List Nat × Option Nat)} {S : World → Prop} {a : Act} {w : World}
    (h : wpQuiet P L.toArray S (fun a' => wpList P L.toArray (LatePost Q S fun S' a' w' => wpPlan P L Q l S' a' w') (opsOf L [j]) a' w) (opsOf L is) a) : wpPlan P L Q ((is, some j) :: l) S a w := h
theorem plan_none {L : List Oper} {is : List Nat} {l : List (List Nat × Option Nat)} {S : World → Prop} {a : Act} {w : World}
    (h : wpQuiet P L.toArray S (fun a' => wpPlan P L Q l S a' w) (opsOf L is) a) : wpPlan P L Q ((is, none) :: l) S a w := h
theorem plan_nil {L : List Oper} {S : World → Prop} {a : Act} {w : World} (h : Q .normal a w) : wpPlan P L Q [] S a w := h
theorem late_normal {S S' : World → Prop} {K : (World → Prop) → Act → World → Prop} {a : Act} {w : World} (h1 : ∀ x, S' x → S x) (h2 : S' w) (h3 : K S' a w) : LatePost Q S K .normal a w := ⟨S', h1, h2, h3⟩
end
instance later_ne (w : World) : Nonempty (Later w) := ⟨⟨w, RowKit.Below.refl _ _⟩⟩
theorem later_drew (w : World) : ∃ x : Later w, w.drew = x.to := ⟨⟨w.drew, (RowKit.Below.refl _ _).drew⟩, rfl⟩
theorem later_of {w w' : World} (h : RowKit.Below w.heap.size w w') : ∃ x : Later w, w' = x.to := ⟨⟨w', h⟩, rfl⟩
/-- A world of which this is known. -/
structure Of (S : World → Prop) where
  to : World
  ok : S to
theorem of_mk {S : World → Prop} {w : World} (h : S w) : ∃ x : Of S, w = x.to := ⟨⟨w, h⟩, rfl⟩
theorem of_ne {S : World → Prop} {w : World} (h : S w) : Nonempty (Of S) := ⟨⟨w, h⟩⟩
end Go.Proofs.Ytahmnpbfjfllmaa
