/- A region that draws its order, walked by a plan: operations that yield one value in every world of a class are taken first; the others come up one at a time, each in a forced place, and leave a world of the class. For any program. Parts of blocks of several cells: loads whose guard says yes, stores, what stays. For any program. Single operations of regions that draw their order, taken in any later world: loads of several cells at once, nil checks. For any program. Slices whose elements have K cells each: how they lie in memory; those of the call's own, how they grow. For any program. -/
import Derived.Test.YtbicafgmfgdckaaDoorMgWb
import Derived.OrdersHeld
import Derived.BigFrame
import Derived.Deep.MidRow
namespace Go.Proofs.YtbicafgmfgdckaaDoor
open Go

section
variable {P : Program} {ops : Array Oper} {Q : Exit → Act → World → Prop}

/-- Operations that yield a value and do nothing else. -/
def valueOp : Op → Bool
  | .move _ | .assign _ | .load .. | .binOp .. | .unOp .. | .fieldAddr .. | .field .. | .indexAddr .. | .index .. | .slice .. | .extract .. | .pick .. | .nilCheck _ | .convert .. | .build .. => true
  | .call { callee := .builtin b, .. } => match b with | .len | .cap | .min | .max => true | _ => false
  | _ => false
theorem run_value {s : Sem Value} {w w' : World} {n : Next} (h : (do pure (.value (← s)) : Sem Next).run P w = .ok n w') : ∃ v, n = .value v := by
  rw [Sem.run_bind] at h
  cases hs : s.run P w with
  | ok v w1 => rw [hs] at h; simp only [Result.andThen_ok, Sem.run_pure] at h; injection h with h1 _; exact ⟨v, h1.symm⟩
  | halt x w1 => rw [hs] at h; cases h
/-- Whatever such an operation's run yields is a value. -/
def Yields' (m : Sem Next) : Prop := ∀ (P : Program) (w w' : World) (n : Next), m.run P w = .ok n w' → ∃ v, n = .value v
theorem yields_v (s : Sem Value) : Yields' (do pure (.value (← s)) : Sem Next) := fun _ _ _ _ h => run_value h
theorem yields_pure (v : Value) : Yields' (pure (.value v) : Sem Next) := fun P w w' n h => by
  rw [Sem.run_pure] at h; injection h with h1 _; exact ⟨v, h1.symm⟩
theorem yields_bind {α : Type} (s : Sem α) (f : α → Sem Next) (h : ∀ x, Yields' (f x)) : Yields' (s >>= f) := fun P w w' n hr => by
  rw [Sem.run_bind] at hr
  cases hs : s.run P w with
  | ok x w1 => rw [hs] at hr; simp only [Result.andThen_ok] at hr; exact h x P w1 w' n hr
  | halt x w1 => rw [hs] at hr; cases hr
theorem yields_of {α : Type} (s : Sem α) (f : α → Sem Next) (h : ∀ (P : Program) (w w1 : World) (x : α), s.run P w = .ok x w1 → False) : Yields' (s >>= f) := fun P w w' n hr => by
  rw [Sem.run_bind] at hr
  cases hs : s.run P w with
  | ok x w1 => exact (h P w w1 x hs).elim
  | halt x w1 => rw [hs] at hr; cases hr
theorem yields_halt (h : Halt) : Yields' (Sem.halt h : Sem Next) := fun P w w' n hr => by simp [Sem.run] at hr
theorem yields_rt : Yields' (runtimePanic .nilDeref : Sem Next) := by
  unfold runtimePanic
  refine yields_bind _ _ fun p => ?_
  exact yields_halt _
theorem yields_nilCheck (ρ : Operand → Value) (o : Oper) (x : Operand) (h : o.op = .nilCheck x) : Yields' (execOp ρ o) := by
  unfold execOp
  simp only [h]
  split
  · exact yields_rt
  · exact yields_rt
  · exact yields_rt
  · split
    · exact yields_rt
    · refine yields_bind _ _ fun p => yields_bind _ _ fun q => ?_
      split
      · exact yields_bind _ _ fun _ => yields_pure _
      · exact yields_pure _
    · exact yields_pure _
  · exact yields_pure _
theorem yields_op (ρ : Operand → Value) (o : Oper) (hv : valueOp o.op = true) : Yields' (execOp ρ o) := by
  by_cases hc : ∃ x, o.op = .nilCheck x
  · obtain ⟨x, hx⟩ := hc; exact yields_nilCheck ρ o x hx
  have hn : ∀ x, o.op ≠ .nilCheck x := fun x e => hc ⟨x, e⟩
  clear hc
  obtain ⟨dst, op, ty, pos, after, guard⟩ := o
  cases op <;> simp only [valueOp, Bool.false_eq_true] at hv
  case nilCheck x => exact (hn x rfl).elim
  case call c =>
    obtain ⟨callee, args, ats⟩ := c
    cases callee with
    | builtin b => cases b <;> first | exact yields_v _ | (simp at hv)
    | value f => simp at hv
    | invoke r m => simp at hv
  case move x => exact yields_pure _
  case assign x => exact yields_pure _
  case pick c a b => exact yields_bind _ _ fun _ => yields_pure _
  all_goals exact yields_v _

/-- The plan, an operation at a time: taken first ('true'), or the one that comes up. -/
def flatB (ops : Array Oper) : List (Bool × Nat) → Array Bool → Bool
  | [], listed => (Region.ready .any ops listed).isEmpty
  | (true, i) :: l, listed => ((ops[i]?).map fun o => valueOp o.op).getD false && Region.free .any ops listed i && (Region.ready .any ops listed).contains i && flatB ops l (listed.setIfInBounds i true)
  | (false, i) :: l, listed => (Region.ready .any ops listed == [i]) && flatB ops l (listed.setIfInBounds i true)
def wpFlat (P : Program) (ops : Array Oper) (Q : Exit → Act → World → Prop) : List (Bool × Nat) → (World → Prop) → Act → World → Prop
  | [], _, a, w => Q .normal a w
  | (true, i) :: l, S, a, w => ∃ o v, ops[i]? = some o ∧ YieldsIf P ops S o v a ∧ wpFlat P ops Q l S (a.put o.dst v) w
  | (false, i) :: l, S, a, w => wpOp P ops Q i (fun a' w' => ∃ S' : World → Prop, (∀ x, S' x → S x) ∧ S' w' ∧ wpFlat P ops Q l S' a' w') a w
theorem wpAnyH_sub {md : Region.Mode} {S S' : World → Prop} (h : ∀ x, S' x → S x) : ∀ (fuel : Nat) (listed : Array Bool) (a : Act) (w : World), wpAnyH P md ops Q S' fuel listed a w → wpAnyH P md ops Q S fuel listed a w
  | 0, _, _, _, k => k
  | f + 1, _, _, _, k => ⟨k.1, fun i hi => wpOp_mono (fun a' w' k' => ⟨h _ k'.1, wpAnyH_sub h f _ a' w' k'.2⟩) (k.2 i hi)⟩
theorem flat_sound (hs : Region.noSelect ops = true) (hQ : ∀ (c : List PanicEntry) (a : Act) (d : Option Tmp) (v : Value) (w : World), Q (.panic c) (a.put d v) w → Q (.panic c) a w) :
    ∀ (l : List (Bool × Nat)) (fuel : Nat) (listed : Array Bool) (S : World → Prop) (a : Act) (w : World), l.length ≤ fuel → flatB ops l listed = true → S w → wpFlat P ops Q l S a w → wpAnyH P .any ops Q S fuel listed a w
  | [], fuel, listed, S, a, w, _, hB, _, h => wpAnyH_done (by simpa [flatB] using hB) h fuel
  | (true, i) :: l, 0, _, _, _, _, hf, _, _, _ => by simp at hf
  | (false, i) :: l, 0, _, _, _, _, hf, _, _, _ => by simp at hf
  | (true, i) :: l, fuel + 1, listed, S, a, w, hf, hB, hS, h => by
    simp only [flatB, Bool.and_eq_true] at hB
    obtain ⟨o, v, ho, hy, hk⟩ := h
    exact wpAnyH_take ho hs hB.1.1.2 hB.1.2 (fun c a w => hQ c a o.dst v w) hy hS (flat_sound hs hQ l fuel _ S _ w (by simpa using hf) hB.2 hS hk)
  | (false, i) :: l, fuel + 1, listed, S, a, w, hf, hB, hS, h => by
    simp only [flatB, Bool.and_eq_true, beq_iff_eq] at hB
    refine wpAnyH_all hB.1 (by simp) fun j hj => ?_
    simp only [List.mem_singleton] at hj
    subst hj
    refine wpOp_mono (fun a' w' k => ?_) h
    obtain ⟨S', h1, h2, h3⟩ := k
    exact ⟨h1 _ h2, wpAnyH_sub h1 fuel _ a' w' (flat_sound hs hQ l fuel _ S' a' w' (by simpa using hf) hB.2 h2 h3)⟩

/-- The operations of these numbers. -/
def opsOf (L : List Oper) (is : List Nat) : List Oper := is.filterMap fun i => L[i]?
/-- What is asked of one that comes up: behind it the world is of a narrower class. -/
def LatePost (Q : Exit → Act → World → Prop) (S : World → Prop) (K : (World → Prop) → Act → World → Prop) : Exit → Act → World → Prop
  | .normal, a, w => ∃ S' : World → Prop, (∀ x, S' x → S x) ∧ S' w ∧ K S' a w
  | e, a, w => Q e a w
/-- The plan by pieces: so many taken first, then one that comes up, and so on. -/
def wpPlan (P : Program) (L : List Oper) (Q : Exit → Act → World → Prop) : List (List Nat × Option Nat) → (World → Prop) → Act → World → Prop
  | [], _, a, w => Q .normal a w
  | (is, none) :: l, S, a, w => wpQuiet P L.toArray S (fun a' => wpPlan P L Q l S a' w) (opsOf L is) a
  | (is, some j) :: l, S, a, w => wpQuiet P L.toArray S (fun a' => wpList P L.toArray (LatePost Q S fun S' a' w' => wpPlan P L Q l S' a' w') (opsOf L [j]) a' w) (opsOf L is) a
def flatOf : List (List Nat × Option Nat) → List (Bool × Nat)
  | [] => []
  | (is, none) :: l => is.map (fun i => (true, i)) ++ flatOf l
  | (is, some j) :: l => is.map (fun i => (true, i)) ++ (false, j) :: flatOf l
def placesB (n : Nat) (p : List (List Nat × Option Nat)) : Bool := (flatOf p).all fun x => decide (x.2 < n)
def planB (L : List Oper) (p : List (List Nat × Option Nat)) : Bool :=
  Region.noSelect L.toArray && decide ((flatOf p).length ≤ L.length) && placesB L.length p && flatB L.toArray (flatOf p) (Array.replicate L.toArray.size false)
/-- What a quiet step of a value says. -/
theorem yieldsIf_of_quiet {S : World → Prop} {o : Oper} {a : Act} {K : Act → Prop} (hv : valueOp o.op = true)
    (h : if Region.wanted o (yielded ops a.tmps) then o.quiet P a S K else K (a.put o.dst undef)) : ∃ v, YieldsIf P ops S o v a ∧ K (a.put o.dst v) := by
  by_cases hw : Region.wanted o (yielded ops a.tmps) = true
  · rw [if_pos hw] at h
    obtain ⟨v, h1, h2⟩ := h
    refine ⟨v, .inl ⟨hw, fun w hS => ?_⟩, h2⟩
    have h3 := h1 w hS
    unfold Oper.quietAt at h3
    have h4 := yields_op a.eval o hv P w
    generalize (execOp a.eval o).run P w = r at h3 h4
    cases r with
    | ok n w' =>
      obtain ⟨u, rfl⟩ := h4 w' n rfl
      simp only [Oper.quietUpon] at h3
      obtain ⟨e1, e2⟩ := h3
      rw [e1, e2]
    | halt x w' => simp only [Oper.quietUpon] at h3
  · rw [if_neg hw] at h
    exact ⟨undef, .inr ⟨by simpa using hw, rfl⟩, h⟩
theorem flat_of_quiet {L : List Oper} {S : World → Prop} {l : List (Bool × Nat)} {w : World} : ∀ (is : List Nat) (a : Act), (∀ i ∈ is, i < L.length) → (∀ i ∈ is, ∀ o, L[i]? = some o → valueOp o.op = true) →
    wpQuiet P L.toArray S (fun a' => wpFlat P L.toArray Q l S a' w) (opsOf L is) a → wpFlat P L.toArray Q (is.map (fun i => (true, i)) ++ l) S a w
  | [], a, _, _, h => h
  | i :: is, a, hl, hv, h => by
    have hi : i < L.length := hl i (by simp)
    have ho : L[i]? = some L[i] := List.getElem?_eq_getElem hi
    have e : opsOf L (i :: is) = L[i] :: opsOf L is := by simp [opsOf, ho]
    rw [e] at h
    obtain ⟨v, h1, h2⟩ := yieldsIf_of_quiet (hv i (by simp) _ ho) (by unfold wpQuiet at h; exact h)
    exact ⟨L[i], v, by simp, h1, flat_of_quiet is _ (fun j hj => hl j (by simp [hj])) (fun j hj => hv j (by simp [hj])) h2⟩
theorem flat_vals {L : List Oper} : ∀ (l : List (Bool × Nat)) (listed : Array Bool), flatB L.toArray l listed = true → ∀ i, (true, i) ∈ l → ∀ o, L[i]? = some o → valueOp o.op = true
  | [], _, _, i, hi, _, _ => by simp at hi
  | (true, j) :: l, listed, hB, i, hi, o, ho => by
    simp only [flatB, Bool.and_eq_true] at hB
    rcases List.mem_cons.1 hi with e | hi
    · injection e with _ e; subst e
      have := hB.1.1.1
      simpa [ho] using this
    · exact flat_vals l _ hB.2 i hi o ho
  | (false, j) :: l, listed, hB, i, hi, o, ho => by
    simp only [flatB, Bool.and_eq_true] at hB
    rcases List.mem_cons.1 hi with e | hi
    · injection e with e _; cases e
    · exact flat_vals l _ hB.2 i hi o ho
theorem flat_of_plan {L : List Oper} : ∀ (p : List (List Nat × Option Nat)) (S : World → Prop) (a : Act) (w : World), (∀ x ∈ flatOf p, x.2 < L.length) → (∀ i, (true, i) ∈ flatOf p → ∀ o, L[i]? = some o → valueOp o.op = true) →
    wpPlan P L Q p S a w → wpFlat P L.toArray Q (flatOf p) S a w
  | [], _, _, _, _, _, h => h
  | (is, none) :: l, S, a, w, hl, hv, h => by
    refine flat_of_quiet is a (fun i hi => hl (true, i) (by simp [flatOf, hi])) (fun i hi => hv i (by simp [flatOf, hi])) (wpQuiet_mono (fun a' h' => ?_) _ _ h)
    exact flat_of_plan l S a' w (fun x hx => hl x (by simp [flatOf, hx])) (fun i hi => hv i (by simp [flatOf, hi])) h'
  | (is, some j) :: l, S, a, w, hl, hv, h => by
    refine flat_of_quiet is a (fun i hi => hl (true, i) (by simp [flatOf, hi])) (fun i hi => hv i (by simp [flatOf, hi])) (wpQuiet_mono (fun a' h' => ?_) _ _ h)
    have hj : j < L.length := hl (false, j) (by simp [flatOf])
    have ho : L[j]? = some L[j] := List.getElem?_eq_getElem hj
    have e : opsOf L [j] = [L[j]] := by simp [opsOf, ho]
    rw [e] at h'
    have hop := wpOp_of_list (Q' := Q) (n := j) (by simp) (fun e a w he hx => by cases e <;> first | exact (he rfl).elim | exact hx) h'
    refine wpOp_mono (fun a2 w2 k => ?_) hop
    obtain ⟨S', h1, h2, h3⟩ := k
    exact ⟨S', h1, h2, flat_of_plan l S' a2 w2 (fun x hx => hl x (by simp [flatOf, hx])) (fun i hi => hv i (by simp [flatOf, hi])) h3⟩
/-- The law: a region by a plan. -/
theorem wp_region_plan {id : Nat} {L : List Oper} {a : Act} {w : World} (p : List (List Nat × Option Nat)) (S : World → Prop) (hm : P.follows .mixedOrders = true) (hB : planB L p = true)
    (hQ : ∀ (c : List PanicEntry) (a : Act) (d : Option Tmp) (v : Value) (w : World), Q (.panic c) (a.put d v) w → Q (.panic c) a w) (hS : S w.drew) (h : wpPlan P L Q p S a w.drew) : (Code.region id L.toArray true).wp P Q a w := by
  simp only [planB, Bool.and_eq_true, decide_eq_true_eq] at hB
  obtain ⟨⟨⟨b1, b2⟩, b3⟩, b4⟩ := hB
  refine wp_region_held (S := S) hm ?_
  have hpl : ∀ x ∈ flatOf p, x.2 < L.length := fun x hx => by
    have := List.all_eq_true.1 b3 x hx
    simpa using this
  exact flat_sound b1 hQ (flatOf p) _ _ S a _ (by simpa using b2) b4 hS (flat_of_plan p S a _ hpl (flat_vals _ _ b4) h)
theorem plan_some {L : List Oper} {is : List Nat} {j : Nat} {l : List (List Nat × Option Nat)} {S : World → Prop} {a : Act} {w : World}
    (h : wpQuiet P L.toArray S (fun a' => wpList P L.toArray (LatePost Q S fun S' a' w' => wpPlan P L Q l S' a' w') (opsOf L [j]) a' w) (opsOf L is) a) : wpPlan P L Q ((is, some j) :: l) S a w := h
theorem plan_none {L : List Oper} {is : List Nat} {l : List (List Nat × Option Nat)} {S : World → Prop} {a : Act} {w : World}
    (h : wpQuiet P L.toArray S (fun a' => wpPlan P L Q l S a' w) (opsOf L is) a) : wpPlan P L Q ((is, none) :: l) S a w := h
theorem plan_nil {L : List Oper} {S : World → Prop} {a : Act} {w : World} (h : Q .normal a w) : wpPlan P L Q [] S a w := h
theorem late_normal {S S' : World → Prop} {K : (World → Prop) → Act → World → Prop} {a : Act} {w : World} (h1 : ∀ x, S' x → S x) (h2 : S' w) (h3 : K S' a w) : LatePost Q S K .normal a w := ⟨S', h1, h2, h3⟩
end
instance later_ne (w : World) : Nonempty (Later w) := ⟨⟨w, RowKit.Below.refl _ _⟩⟩
theorem later_drew (w : World) : ∃ x : Later w, w.drew = x.to := ⟨⟨w.drew, (RowKit.Below.refl _ _).drew⟩, rfl⟩
theorem later_of {w w' : World} (h : RowKit.Below w.heap.size w w') : ∃ x : Later w, w' = x.to := ⟨⟨w', h⟩, rfl⟩
/-- A world of which this is known. -/
structure Of (S : World → Prop) where
  to : World
  ok : S to
theorem of_mk {S : World → Prop} {w : World} (h : S w) : ∃ x : Of S, w = x.to := ⟨⟨w, h⟩, rfl⟩
theorem of_ne {S : World → Prop} {w : World} (h : S w) : Nonempty (Of S) := ⟨⟨w, h⟩⟩
end Go.Proofs.YtbicafgmfgdckaaDoor
namespace Go.Proofs.YtbicafgmfgdckaaDoor
open Go Go.RowKit

section
variable {P : Program} {ops : Array Oper} {rest : List Oper} {o : Oper} {a : Act} {w : World} {Q : Exit → Act → World → Prop}
theorem wpList_load_row_g (hw : Region.wanted o (yielded ops a.tmps) = true) (ty : TypeId) (x : Operand) (ho : o.op = .load ty x)
    (g : Nat) (hx : a.eval x = .pointer (some ⟨g, 0, none⟩)) (t : TypeId) (cs : Array Value) (fr : Nat × Nat) (d : TypeDesc) (hg : w.heap[g]? = some (.cells cs t fr))
    (hu : P.underlying ty = some d) (hd : (match d with | .struct _ | .array _ _ => true | _ => false) = true) (hi : (P.info? ty).map (·.size) = some cs.size)
    (h : wpList P ops Q rest (a.put o.dst (.agg cs)) w) : wpList P ops Q (o :: rest) a w :=
  BigFrame.wpList_want hw fun _ hK => wp_load_row ty x ho g hx t cs fr d hg hu hd hi (hK _ _ h)
theorem wpList_load_mid_g (hw : Region.wanted o (yielded ops a.tmps) = true) (ty : TypeId) (x : Operand) (ho : o.op = .load ty x)
    (b f : Nat) (hx : a.eval x = .pointer (some ⟨b, f, none⟩)) (cs : List Value) (d : TypeDesc) (hc : w.rangeAt b f cs)
    (hu : P.underlying ty = some d) (hd : d.isRow = true) (hi : (P.info? ty).map (·.size) = some cs.length)
    (h : wpList P ops Q rest (a.put o.dst (.agg cs.toArray)) w) : wpList P ops Q (o :: rest) a w :=
  BigFrame.wpList_want hw fun _ hK => wp_load_mid ty x ho b f hx cs d hc hu hd hi (hK _ _ h)
end
/-- Guards: the walk stands at a load, a store of this type. -/
theorem at_load (t : TypeId) {P : Program} {ops : Array Oper} {Q : Exit → Act → World → Prop} {rest : List Oper} {d : Option Tmp} {x : Operand} {ty : TypeId} {pos : String} {after : Array Edge} {g : Option (Nat × Bool)} {a : Act} {w : World}
    (h : wpList P ops Q ({ dst := d, op := .load t x, type := ty, pos, after, guard := g } :: rest) a w) : wpList P ops Q ({ dst := d, op := .load t x, type := ty, pos, after, guard := g } :: rest) a w := h
theorem at_store (t : TypeId) {P : Program} {ops : Array Oper} {Q : Exit → Act → World → Prop} {rest : List Oper} {d : Option Tmp} {x y : Operand} {ty : TypeId} {pos : String} {after : Array Edge} {g : Option (Nat × Bool)} {a : Act} {w : World}
    (h : wpList P ops Q ({ dst := d, op := .store t x y, type := ty, pos, after, guard := g } :: rest) a w) : wpList P ops Q ({ dst := d, op := .store t x y, type := ty, pos, after, guard := g } :: rest) a w := h
theorem Touch.setCells {F : Nat → Prop} (b : Nat) (hb : F b) : ∀ (vs : List Value) (o : Nat) (w : World), Touch F w (w.setCells b o vs)
  | [], _, w => Touch.refl F w
  | v :: r, o, w => (Touch.set (F := F) w b o v hb).trans (Touch.setCells b hb r (o + 1) _)
theorem rangeAt_touch {F : Nat → Prop} {w w' : World} (h : Touch F w w') {b o : Nat} {cs : List Value} (hr : w.rangeAt b o cs) (hn : ¬ F b) : w'.rangeAt b o cs := fun j v hv => h.cell (hr j v hv) hn
theorem rangeAt_part {w : World} {b o : Nat} {cs : List Value} (h : w.rangeAt b o cs) (k n : Nat) : w.rangeAt b (o + k) ((cs.drop k).take n) := fun j v hv => by
  rw [List.getElem?_take] at hv
  split at hv
  · rw [List.getElem?_drop] at hv
    rw [Nat.add_assoc]
    exact h (k + j) v hv
  · cases hv
theorem rangeAt_cell {w : World} {b o : Nat} {cs : List Value} (h : w.rangeAt b o cs) {k : Nat} {v : Value} (hv : cs[k]? = some v) : w.cell? ⟨b, o + k, none⟩ = some v := h k v hv
theorem rangeAt_row {w : World} {g : Nat} {cs : Array Value} {t : TypeId} {fr : Nat × Nat} (h : w.heap[g]? = some (.cells cs t fr)) : w.rangeAt g 0 cs.toList := fun j v hv => by
  rw [cell_of_row w g (0 + j) cs t fr h, Nat.zero_add]
  simpa using hv
theorem rangeAt_set {w : World} {b o : Nat} {cs : List Value} (h : w.rangeAt b o cs) (k : Nat) (v : Value) (hk : k < cs.length) : (w.setCell ⟨b, o + k, none⟩ v).rangeAt b o (cs.set k v) := fun j u hu => by
  by_cases e : j = k
  · subst e
    rw [List.getElem?_set_self hk] at hu
    injection hu with hu
    subst hu
    exact World.cell?_setCell_same _ _ _ (h j _ (List.getElem?_eq_getElem hk))
  · rw [List.getElem?_set_ne (fun e2 => e e2.symm)] at hu
    rw [World.cell?_setCell_other _ _ _ _ (fun e2 => e (by injection e2 with _ e3; omega))]
    exact h j u hu
theorem rangeAt_set_apart {w : World} {b o b' q : Nat} {cs : List Value} (h : w.rangeAt b o cs) (v : Value) (hn : b' ≠ b ∨ q < o ∨ o + cs.length ≤ q) : (w.setCell ⟨b', q, none⟩ v).rangeAt b o cs := fun j u hu => by
  have hj := (List.getElem?_eq_some_iff.1 hu).1
  rw [World.cell?_setCell_other _ _ _ _ (fun e2 => by
    injection e2 with e1 e3
    rcases hn with hn | hn | hn
    · exact hn e1
    · omega
    · omega)]
  exact h j u hu
theorem Touch.setRow {F : Nat → Prop} (w : World) (g : Nat) (c : Array Value) (hg : F g) : Touch F w (w.setRow g c) :=
  ⟨rfl, rfl, rfl, by simp [World.setRow], fun k _ hk => by
    unfold World.setRow
    simp only
    rw [Array.getElem?_modify, if_neg]
    intro e; subst e; exact hk hg⟩
theorem setRow_heap_other (w : World) (g k : Nat) (cs : Array Value) (h : k ≠ g) : (w.setRow g cs).heap[k]? = w.heap[k]? := setRow_other w g k cs h
end Go.Proofs.YtbicafgmfgdckaaDoor
namespace Go.Proofs.YtbicafgmfgdckaaDoor
open Go Go.RowKit

/-- A load of a whole array in any later world. -/
theorem quiet_load_row {P : Program} {w : World} {o : Oper} {a : Act} {K : Act → Prop} {ty : TypeId} {x : Operand} {g : Nat} {cs : Array Value} {t : TypeId} {fr : Nat × Nat} {d : TypeDesc}
    (hg : w.heap[g]? = some (.cells cs t fr)) (hu : P.underlying ty = some d) (hd : (match d with | .struct _ | .array _ _ => true | _ => false) = true) (hi : (P.info? ty).map (·.size) = some cs.size)
    (ho : o.op = .load ty x) (hx : a.eval x = .pointer (some ⟨g, 0, none⟩)) (hk : K (a.put o.dst (.agg cs))) : o.quiet P a (fun w' => ∃ y : Later w, w' = y.to) K := by
  refine ⟨.agg cs, ?_, hk⟩
  rintro w' ⟨y, rfl⟩
  have hlt : g < w.heap.size := by
    rcases Nat.lt_or_ge g w.heap.size with h | h
    · exact h
    · rw [Array.getElem?_eq_none h] at hg; cases hg
  have hg' : y.to.heap[g]? = some (.cells cs t fr) := (y.below.block g hlt).trans hg
  unfold Oper.quietAt execOp
  simp only [ho, hx, Instr.loadAt, Instr.sureAddr, Sem.run_bind, Sem.run_pure, Result.andThen_ok, run_loadVar_row y.to g t ty cs fr d hg' hu hd hi]
  exact ⟨rfl, rfl⟩
theorem quiet_nilCheck {P : Program} {C : World → Prop} {o : Oper} {a : Act} {K : Act → Prop} {x : Operand} {ad : Addr} (ho : o.op = .nilCheck x) (hx : a.eval x = .pointer (some ad)) (hk : K (a.put o.dst (.pointer (some ad)))) : o.quiet P a C K := by
  refine ⟨.pointer (some ad), ?_, hk⟩
  intro w' hw'
  unfold Oper.quietAt execOp
  simp only [ho, hx, Sem.run_pure]
  exact ⟨rfl, rfl⟩
/-- A load out of the middle of a block. -/
theorem quiet_load_mid {P : Program} {w : World} {o : Oper} {a : Act} {K : Act → Prop} {ty : TypeId} {x : Operand} {b f : Nat} {cs : List Value} {d : TypeDesc}
    (hc : w.rangeAt b f cs) (hu : P.underlying ty = some d) (hd : d.isRow = true) (hi : (P.info? ty).map (·.size) = some cs.length)
    (ho : o.op = .load ty x) (hx : a.eval x = .pointer (some ⟨b, f, none⟩)) (hk : K (a.put o.dst (.agg cs.toArray))) : o.quiet P a (fun w' => ∃ y : Later w, w' = y.to) K := by
  refine ⟨.agg cs.toArray, ?_, hk⟩
  rintro w' ⟨y, rfl⟩
  unfold Oper.quietAt execOp
  simp only [ho, hx, Instr.loadAt, Instr.sureAddr, Sem.run_bind, Sem.run_pure, Result.andThen_ok, run_loadVar_mid y.to b f ty cs d (fun j v hv => y.cell (hc j v hv)) hu hd hi]
  exact ⟨rfl, rfl⟩
/-- The same in whatever class of worlds. -/
theorem quiet_row_of {P : Program} {C : World → Prop} {o : Oper} {a : Act} {K : Act → Prop} {ty : TypeId} {x : Operand} {g : Nat} {cs : Array Value} {t : TypeId} {fr : Nat × Nat} {d : TypeDesc}
    (hg : ∀ w', C w' → w'.heap[g]? = some (.cells cs t fr)) (hu : P.underlying ty = some d) (hd : (match d with | .struct _ | .array _ _ => true | _ => false) = true) (hi : (P.info? ty).map (·.size) = some cs.size)
    (ho : o.op = .load ty x) (hx : a.eval x = .pointer (some ⟨g, 0, none⟩)) (hk : K (a.put o.dst (.agg cs))) : o.quiet P a C K := by
  refine ⟨.agg cs, ?_, hk⟩
  intro w' hw'
  unfold Oper.quietAt execOp
  simp only [ho, hx, Instr.loadAt, Instr.sureAddr, Sem.run_bind, Sem.run_pure, Result.andThen_ok, run_loadVar_row w' g t ty cs fr d (hg w' hw') hu hd hi]
  exact ⟨rfl, rfl⟩
theorem quiet_mid_of {P : Program} {C : World → Prop} {o : Oper} {a : Act} {K : Act → Prop} {ty : TypeId} {x : Operand} {b f : Nat} {cs : List Value} {d : TypeDesc}
    (hc : ∀ w', C w' → w'.rangeAt b f cs) (hu : P.underlying ty = some d) (hd : d.isRow = true) (hi : (P.info? ty).map (·.size) = some cs.length)
    (ho : o.op = .load ty x) (hx : a.eval x = .pointer (some ⟨b, f, none⟩)) (hk : K (a.put o.dst (.agg cs.toArray))) : o.quiet P a C K := by
  refine ⟨.agg cs.toArray, ?_, hk⟩
  intro w' hw'
  unfold Oper.quietAt execOp
  simp only [ho, hx, Instr.loadAt, Instr.sureAddr, Sem.run_bind, Sem.run_pure, Result.andThen_ok, run_loadVar_mid w' b f ty cs d (hc w' hw') hu hd hi]
  exact ⟨rfl, rfl⟩
theorem quiet_built {P : Program} {C : World → Prop} {o : Oper} {a : Act} {K : Act → Prop} (t : TypeId) (parts : Array (Nat × Operand)) (ho : o.op = .build t parts) (cells : Array Value)
    (hf : P.built t (parts.map fun (i, x) => (i, a.eval x)).toList = some cells) (hk : K (a.put o.dst (.agg cells))) : o.quiet P a C K := by
  refine ⟨.agg cells, ?_, hk⟩
  intro w' hw'
  unfold Oper.quietAt execOp
  simp only [ho, Sem.run_bind, run_build w' t _ cells hf, Result.andThen_ok, Sem.run_pure]
  exact ⟨rfl, rfl⟩
/-- A guard: the walk stands at a build of this type. -/
theorem at_build (t : TypeId) {P : Program} {ops : Array Oper} {Q : Exit → Act → World → Prop} {rest : List Oper} {d : Option Tmp} {parts : Array (Nat × Operand)} {ty : TypeId} {pos : String} {after : Array Edge} {g : Option (Nat × Bool)} {a : Act} {w : World}
    (h : wpList P ops Q ({ dst := d, op := .build t parts, type := ty, pos, after, guard := g } :: rest) a w) : wpList P ops Q ({ dst := d, op := .build t parts, type := ty, pos, after, guard := g } :: rest) a w := h
theorem wpList_built' {P : Program} {ops : Array Oper} {rest : List Oper} {o : Oper} {a : Act} {w : World} {Q : Exit → Act → World → Prop} (hg : o.guard = none) (t : TypeId) (parts : Array (Nat × Operand)) (ho : o.op = .build t parts)
    (cells : Array Value) (hf : P.built t (parts.map fun (i, x) => (i, a.eval x)).toList = some cells)
    (h : wpList P ops Q rest (a.put o.dst (.agg cells)) w) : wpList P ops Q (o :: rest) a w := by
  refine wpList_build hg t parts ho (by rw [hf]; rfl) ?_
  rw [hf]
  exact h
end Go.Proofs.YtbicafgmfgdckaaDoor
namespace Go.Proofs.YtbicafgmfgdckaaDoor
open Go Go.RowKit

section
variable {α : Type} {enc : α → List Value} {K : Nat}
theorem flatC_len : ∀ l : List α, (∀ x ∈ l, (enc x).length = K) → (l.flatMap enc).length = l.length * K
  | [], _ => by simp
  | x :: l, h => by
    rw [List.flatMap_cons, List.length_append, h x (by simp), flatC_len l fun y hy => h y (by simp [hy]), List.length_cons, Nat.add_mul]
    omega
theorem flatC_at : ∀ (l : List α) (i j : Nat) (u : Value) (hi : i < l.length), (∀ x ∈ l, (enc x).length = K) → (enc l[i])[j]? = some u → (l.flatMap enc)[i * K + j]? = some u
  | [], i, j, u, h, _, _ => by simp at h
  | x :: l, 0, j, u, _, _, hv => by
    rw [List.getElem_cons_zero] at hv
    rw [List.flatMap_cons, Nat.zero_mul, Nat.zero_add, List.getElem?_append_left (List.getElem?_eq_some_iff.1 hv).1]
    exact hv
  | x :: l, i + 1, j, u, h, hl, hv => by
    have hW := hl x (by simp)
    rw [List.getElem_cons_succ] at hv
    rw [List.flatMap_cons, List.getElem?_append_right (by rw [hW, Nat.add_mul]; omega), hW, show (i + 1) * K + j - K = i * K + j by rw [Nat.add_mul]; omega]
    exact flatC_at l i j u (by simpa using h) (fun y hy => hl y (by simp [hy])) hv
end
/-- A slice of them. -/
structure RowsC {α : Type} (enc : α → List Value) (K : Nat) (w : World) (a : Option Addr) (cap : Nat) (l : List α) : Prop where
  fits : l.length ≤ cap
  room : cap ≤ 9223372036854775807
  rows : l = [] ∨ ∃ b off, a = some ⟨b, off, none⟩ ∧ ∀ i (hi : i < l.length), w.rangeAt b (off + i * K) (enc l[i])
/-- A slice of them of the call's own. -/
structure OwnsC {α : Type} (enc : α → List Value) (K : Nat) (w : World) (B : Nat) (T : TypeId) (v : Value) (l : List α) : Prop where
  row : w.ownsRow B T K v l.length (l.flatMap enc)
  cells : ∀ x ∈ l, (enc x).length = K
section
variable {α : Type} {enc : α → List Value} {K : Nat} {w w' : World} {B : Nat} {T : TypeId} {v v' : Value} {l : List α} {a : Option Addr} {cap : Nat}
theorem RowsC.keeps (h : RowsC enc K w a cap l) (k : Keeps w w') : RowsC enc K w' a cap l := by
  refine ⟨h.fits, h.room, ?_⟩
  rcases h.rows with e | ⟨b, off, e, hb⟩
  · exact .inl e
  · exact .inr ⟨b, off, e, fun i hi j u hu => k _ _ (hb i hi j u hu)⟩
theorem RowsC.below (h : RowsC enc K w a cap l) (k : Below w.heap.size w w') : RowsC enc K w' a cap l := h.keeps (Keeps.below k)
theorem RowsC.touch {F : Nat → Prop} (h : RowsC enc K w a cap l) (t : Touch F w w') (hn : ∀ ad, a = some ad → ¬ F ad.block) : RowsC enc K w' a cap l := by
  refine ⟨h.fits, h.room, ?_⟩
  rcases h.rows with e | ⟨b, off, e, hb⟩
  · exact .inl e
  · exact .inr ⟨b, off, e, fun i hi => rangeAt_touch t (hb i hi) (hn _ e)⟩
theorem rowsC_nil : RowsC enc K w none 0 ([] : List α) := ⟨by simp, by omega, .inl rfl⟩
theorem ownsC_nil (w : World) (B : Nat) (T : TypeId) : OwnsC enc K w B T (.slice none 0 0) [] := ⟨World.ownsRow_nil w B T K, fun x h => by simp at h⟩
theorem OwnsC.touch {F : Nat → Prop} (h : OwnsC enc K w B T v l) (t : Touch F w w') (h1 : ∀ k, v.ownBlock = some k → ¬ F k) : OwnsC enc K w' B T v l := ⟨t.row h.row h1, h.cells⟩
theorem OwnsC.below (h : OwnsC enc K w B T v l) (hb : Below w.heap.size w w') : OwnsC enc K w' B T v l := h.touch (F := fun _ => False) (.of_below hb) fun _ _ e => e
theorem OwnsC.drewN (h : OwnsC enc K w B T v l) (n : Nat) : OwnsC enc K (w.drewN n) B T v l := h.touch (F := fun _ => False) ((Touch.refl _ _).drewN n) fun _ _ e => e
theorem OwnsC.mono {B' : Nat} (h : OwnsC enc K w B T v l) (hB : B' ≤ B) : OwnsC enc K w B' T v l := ⟨row_mono h.row fun _ hk => Nat.le_trans hB (row_lt h.row hk).1, h.cells⟩
theorem OwnsC.form (h : OwnsC enc K w B T v l) : ∃ a cap, v = .slice a l.length cap ∧ RowsC enc K w a cap l ∧ ((l = [] ∧ a = none ∧ cap = 0) ∨ ∃ g, a = some ⟨g, 0, none⟩ ∧ v.ownBlock = some g ∧ B ≤ g ∧ g < w.heap.size ∧ ∀ o, w.frozen? ⟨g, o, none⟩ = false) := by
  rcases h.row.2 with ⟨rfl, h0⟩ | ⟨g, cap, cur, rfl, hB, hg, hn, hc, hs, ht⟩
  · have e : l = [] := List.eq_nil_of_length_eq_zero h0
    subst e
    exact ⟨none, 0, rfl, rowsC_nil, .inl ⟨rfl, rfl, rfl⟩⟩
  · refine ⟨some ⟨g, 0, none⟩, cap, rfl, ⟨hn, by unfold maxLen at hc; omega, .inr ⟨g, 0, rfl, fun i hi j u hu => ?_⟩⟩, .inr ⟨g, rfl, rfl, hB, heap_lt hg, fun o => frozen_of_row w g o cur _ hg⟩⟩
    have := h.row.cells (g := g) rfl (i * K + j) u (flatC_at l i j u hi h.cells hu)
    rw [Addr.add_lit, Nat.zero_add] at this
    rw [Nat.zero_add]
    exact this
theorem OwnsC.snoc {x : α} (h : OwnsC enc K w B T v l) (hl : (enc x).length = K) (h1 : w'.ownsRow B T K v' (l.length + 1) (l.flatMap enc ++ enc x)) : OwnsC enc K w' B T v' (l ++ [x]) := by
  refine ⟨by rw [List.length_append, List.length_singleton, List.flatMap_append, List.flatMap_singleton]; exact h1, fun y hy => ?_⟩
  rcases List.mem_append.1 hy with hy | hy
  · exact h.cells y hy
  · rw [List.mem_singleton] at hy; subst hy; exact hl
theorem ownsC_below {w0 : World} (hb : Below B w0 w) (hB : B ≤ w0.heap.size) (ho : OwnsC enc K w B T v l) (hg : w.grownBy w' v.ownBlock) : Below B w0 w' :=
  hb.trans ((Touch.of_grown (F := fun k => v.ownBlock = some k) hg fun _ hk => hk).below (fun _ hk => (row_lt ho.row hk).1) (Nat.le_trans hB hb.size))
end
/-- 'append(s, x)', x in a block of its own. -/
theorem wpList_append_c {α : Type} {enc : α → List Value} {K : Nat} {P : Program} {w : World} {ops : Array Oper} {rest : List Oper} {o : Oper} {act : Act} {Q : Exit → Act → World → Prop} {t e : TypeId} {z : Value} {bytes : Nat} (ht : P.underlying t = some (.slice e)) (hinfo : (P.info? e).map (fun i => (i.zero, i.size, i.bytes)) = some (some z, K, bytes)) (hz : z.cells.size = K) (hK : 0 < K)
    (hgd : o.guard = none) (s x : Operand) (ho : o.op = .call { callee := .builtin .append, args := #[s, x], argTypes := #[t, t] })
    (B : Nat) (v : Value) (l : List α) (hs : act.eval s = v) (hown : OwnsC enc K w B e v l) (y : α) (ad : Addr) (c : Nat) (hx : act.eval x = .slice (some ad) 1 c)
    (hc : ∀ j u, (enc y)[j]? = some u → w.cell? (ad.add j) = some u) (h1 : ∀ u ∈ enc y, u.oneCell' = true) (hl : (enc y).length = K) (hn : l.length + 1 ≤ 1048576) (hby : bytes ≤ 1048576) (hbase : B ≤ w.heap.size)
    (h : ∀ v' w', OwnsC enc K w' B e v' (l ++ [y]) → w.grownBy w' v.ownBlock → (v'.ownBlock = v.ownBlock ∨ v'.ownBlock = some w.heap.size) → wpList P ops Q rest (act.put o.dst v') w') : wpList P ops Q (o :: rest) act w := by
  obtain ⟨i, hi, hz0, hz1, hz2⟩ := info_parts hinfo
  have hb : (l.length + 1) * bytes ≤ 1048576 * 1048576 := Nat.mul_le_mul hn hby
  refine wpList_append_own_at w hgd s x t ho B e i z K bytes ht hi hz0 hz1 hz2 hz hK v l.length _ hs hown.row ad 1 c (enc y) hx (by rw [hl, Nat.one_mul]) hc h1 (by unfold maxLen; omega) (Nat.le_trans hb (by decide)) hbase ?_
  intro v' w' r1 r2 _ r4
  exact h v' w' (hown.snoc hl r1) r2 r4
/-- The walk stands at an 'append': it waits there. -/
theorem wait_append {P : Program} {ops : Array Oper} {Q : Exit → Act → World → Prop} {rest : List Oper} {d : Option Tmp} {args : Array Operand} {ts : Array TypeId} {ty : TypeId} {pos : String} {after : Array Edge} {g : Option (Nat × Bool)} {a : Act} {w : World}
    (h : True → wpList P ops Q ({ dst := d, op := .call { callee := .builtin .append, args := args, argTypes := ts }, type := ty, pos, after, guard := g } :: rest) a w) : wpList P ops Q ({ dst := d, op := .call { callee := .builtin .append, args := args, argTypes := ts }, type := ty, pos, after, guard := g } :: rest) a w := h trivial
/-- What the literal of one element lays: its cells. -/
theorem fold_setC : ∀ (C : List Value) (k : Nat) (Z : Array Value), Z.size = k + C.length → (C.zipIdx k).foldl (fun cs x => cs.setIfInBounds x.2 x.1) Z = (Z.toList.take k ++ C).toArray
  | [], k, Z, h => by
    rw [List.append_nil, List.take_of_length_le (by rw [Array.length_toList, h]; simp)]
    simp
  | c :: C, k, Z, h => by
    have hk : k < Z.toList.length := by rw [Array.length_toList, h]; simp
    rw [List.zipIdx_cons, List.foldl_cons, fold_setC C (k + 1) _ (by simp [h]; omega)]
    congr 1
    rw [Array.toList_setIfInBounds, List.take_set, List.take_succ_eq_append_getElem hk, List.set_append_right _ _ (by rw [List.length_take]; omega), List.length_take, Nat.min_eq_left (by omega), Nat.sub_self]
    simp
theorem run_one_c {P : Program} (w : World) {t e : TypeId} {z : Value} {W bytes : Nat} (ht : P.underlying t = some (.slice e)) (hinfo : (P.info? e).map (fun i => (i.zero, i.size, i.bytes)) = some (some z, W, bytes)) (_hz : z.cells.size = W)
    (C : List Value) (hC : C.length = W) (h0 : 0 < W) (h1 : W ≤ 1000) :
    (Instr.buildSlice t 1 #[(0, .agg C.toArray)]).run P w = .ok (.slice (some ⟨w.heap.size, 0, none⟩) 1 1) (w.alloc (.cells C.toArray e)) := by
  obtain ⟨i, hi, hz0, hz1, hz2⟩ := info_parts hinfo
  have hne : ¬ W = 0 := by omega
  have h2 : ¬ 16777216 < W := by omega
  have hf : C.zipIdx.foldl (fun cs x => cs.setIfInBounds x.2 x.1) ((Array.range W).map (z.cells[· % z.cells.size]!)) = C.toArray := by
    rw [fold_setC C 0 _ (by simp [hC])]
    simp
  have hcs : (Value.agg C.toArray).cells.size = W := by show C.toArray.size = W; simpa using hC
  have hfo : Array.foldl (fun cs x => cs.setIfInBounds (0 * W + x.snd) x.fst) ((Array.range W).map (z.cells[· % z.cells.size]!)) (Value.agg C.toArray).cells.zipIdx = C.toArray := by
    refine Eq.trans ?_ hf
    show Array.foldl _ _ C.toArray.zipIdx = _
    simp
  have hfill : Instr.fill (fun i => some (i * W, W)) ((Array.range W).map (z.cells[· % z.cells.size]!)) [(0, .agg C.toArray)] = some C.toArray := by
    unfold Instr.fill
    simp only [hcs]
    rw [if_neg (by simp)]
    unfold Instr.fill
    rw [hfo]
  unfold Instr.buildSlice
  simp only [Sem.run_bind, run_underlying ht, Result.andThen_ok, sizeOf, typeInfo, Nat.one_mul, Sem.run_pure, zeroValue]
  simp [hne, h2, hz0, hi, hz1, hfill, newRow]
theorem wpList_lit_c {P : Program} {w : World} {ops : Array Oper} {rest : List Oper} {o : Oper} {a : Act} {Q : Exit → Act → World → Prop} {t e : TypeId} {z : Value} {W bytes : Nat} (ht : P.underlying t = some (.slice e)) (hinfo : (P.info? e).map (fun i => (i.zero, i.size, i.bytes)) = some (some z, W, bytes)) (hz : z.cells.size = W)
    (hgd : o.guard = none) (x : Operand) (ho : o.op = .buildSlice t 1 #[(0, x)]) (C : List Value) (hx : a.eval x = .agg C.toArray) (hC : C.length = W) (h0 : 0 < W) (h1 : W ≤ 1000)
    (h : wpList P ops Q rest (a.put o.dst (.slice (some ⟨w.heap.size, 0, none⟩) 1 1)) (w.alloc (.cells C.toArray e))) : wpList P ops Q (o :: rest) a w := by
  refine wpList_plain hgd fun K hK => ?_
  have hr := run_one_c (P := P) w ht hinfo hz C hC h0 h1
  unfold Oper.wp execOp
  simp only [ho, List.map_toArray, List.map_cons, List.map_nil, hx, Sem.run_bind, hr, Result.andThen_ok, Sem.run_pure]
  exact hK _ _ h
/-- 's = append(s, x)': the literal of one element, and the append behind it. -/
theorem wpList_lit_append {α : Type} {enc : α → List Value} {K : Nat} {P : Program} {w : World} {ops : Array Oper} {rest : List Oper} {o1 o2 : Oper} {a : Act} {Q : Exit → Act → World → Prop} {t e : TypeId} {z : Value} {bytes : Nat} (ht : P.underlying t = some (.slice e)) (hinfo : (P.info? e).map (fun i => (i.zero, i.size, i.bytes)) = some (some z, K, bytes)) (hz : z.cells.size = K) (hK : 0 < K) (hK1 : K ≤ 1000)
    (hg1 : o1.guard = none) (x : Operand) (ho1 : o1.op = .buildSlice t 1 #[(0, x)]) (hg2 : o2.guard = none) (s u : Operand) (ho2 : o2.op = .call { callee := .builtin .append, args := #[s, u], argTypes := #[t, t] })
    (B : Nat) (v : Value) (l : List α) (hown : OwnsC enc K w B e v l) (y : α) (C : List Value) (hC : enc y = C) (hx : a.eval x = .agg C.toArray)
    (hs : (a.put o1.dst (.slice (some ⟨w.heap.size, 0, none⟩) 1 1)).eval s = v) (hu : (a.put o1.dst (.slice (some ⟨w.heap.size, 0, none⟩) 1 1)).eval u = .slice (some ⟨w.heap.size, 0, none⟩) 1 1)
    (h1 : ∀ u ∈ C, u.oneCell' = true) (hl : C.length = K) (hn : l.length + 1 ≤ 1048576) (hby : bytes ≤ 1048576) (hbase : B ≤ w.heap.size)
    (h : ∀ v' w', OwnsC enc K w' B e v' (l ++ [y]) → Touch (fun k => v.ownBlock = some k) w w' → (v'.ownBlock = v.ownBlock ∨ ∃ k, v'.ownBlock = some k ∧ w.heap.size ≤ k) → wpList P ops Q rest ((a.put o1.dst (.slice (some ⟨w.heap.size, 0, none⟩) 1 1)).put o2.dst v') w') : wpList P ops Q (o1 :: o2 :: rest) a w := by
  refine wpList_lit_c ht hinfo hz hg1 x ho1 C hx hl hK hK1 ?_
  have nA := (Below.refl w.heap.size w).alloc (Nat.le_refl _) (.cells C.toArray e)
  have rA := rangeAt_row (heap_alloc_new w (.cells C.toArray e))
  rw [List.toList_toArray] at rA
  refine wpList_append_c ht hinfo hz hK hg2 s u ho2 B v l hs (hown.below nA) y ⟨w.heap.size, 0, none⟩ 1 hu (fun j q hq => ?_) (by rw [hC]; exact h1) (by rw [hC]; exact hl) hn hby (Nat.le_trans hbase nA.size) ?_
  · rw [Addr.add_lit]
    rw [hC] at hq
    exact rA j q hq
  · intro v' w' q1 q2 q3
    refine h v' w' q1 ((Touch.of_below nA).trans (.of_grown q2 fun k e => e)) ?_
    rcases q3 with q3 | q3
    · exact .inl q3
    · exact .inr ⟨_, q3, nA.size⟩
theorem touch_own {B : Nat} {w0 w w' : World} {v : Value} {α : Type} {enc : α → List Value} {K : Nat} {T : TypeId} {l : List α} (hb : Below B w0 w) (hB : B ≤ w0.heap.size) (ho : OwnsC enc K w B T v l) (t : Touch (fun k => v.ownBlock = some k) w w') : Below B w0 w' :=
  hb.trans (t.below (fun _ hk => (row_lt ho.row hk).1) (Nat.le_trans hB hb.size))
/-- A guard: the walk stands at a literal of this type of slices. -/
theorem at_slit (t : TypeId) {P : Program} {ops : Array Oper} {Q : Exit → Act → World → Prop} {rest : List Oper} {d : Option Tmp} {n : Nat} {parts : Array (Nat × Operand)} {ty : TypeId} {pos : String} {after : Array Edge} {g : Option (Nat × Bool)} {a : Act} {w : World}
    (h : wpList P ops Q ({ dst := d, op := .buildSlice t n parts, type := ty, pos, after, guard := g } :: rest) a w) : wpList P ops Q ({ dst := d, op := .buildSlice t n parts, type := ty, pos, after, guard := g } :: rest) a w := h
end Go.Proofs.YtbicafgmfgdckaaDoor
