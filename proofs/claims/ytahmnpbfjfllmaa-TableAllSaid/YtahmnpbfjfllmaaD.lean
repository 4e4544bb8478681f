/- A region that draws its order, all of whose operations but the last only read, and whose last one comes behind all others: walked once. For any program. -/
import Derived.Deep.QuietTactic
import Derived.BigQuiet
import Derived.Deep.Draws
namespace Go.Proofs.Ytahmnpbfjfllmaa
open Go

section
variable {P : Program} {md : Region.Mode} {C : World → Prop}

/-- The same operation as one that does nothing. -/
def idle (o : Oper) : Oper := { o with op := .move (.const undef) }

theorem yielded_eq {ops ops' : Array Oper} (h : ∀ j : Nat, (ops'[j]?).map (·.dst) = (ops[j]?).map (·.dst)) (tmps : Array Value) : yielded ops' tmps = yielded ops tmps := by
  funext j
  unfold yielded
  have := h j
  cases h1 : ops'[j]? <;> cases h2 : ops[j]? <;> simp_all
theorem ready_eq {ops ops' : Array Oper} (hs : ops'.size = ops.size) (h : ∀ j : Nat, (ops'[j]?).map (·.after) = (ops[j]?).map (·.after)) (listed : Array Bool) : Region.ready md ops' listed = Region.ready md ops listed := by
  unfold Region.ready
  rw [hs]
  refine List.filter_congr fun i _ => ?_
  have := h i
  cases h1 : ops'[i]? <;> cases h2 : ops[i]? <;> simp_all

theorem wpQuiet_ops {ops ops' : Array Oper} (hy : ∀ tmps, yielded ops' tmps = yielded ops tmps) (Q : Act → Prop) : ∀ (l : List Oper) (a : Act), wpQuiet P ops C Q l a → wpQuiet P ops' C Q l a
  | [], _, h => h
  | o :: l, a, h => by
    unfold wpQuiet at h ⊢
    rw [hy]
    split
    · rename_i hw; rw [if_pos hw] at h
      exact Oper.quiet_mono (fun a' h' => wpQuiet_ops hy Q l a' h') h
    · rename_i hw; rw [if_neg hw] at h
      exact wpQuiet_ops hy Q l _ h
theorem wpQuiet_append {ops : Array Oper} {Q : Act → Prop} {m : List Oper} : ∀ (l : List Oper) (a : Act), wpQuiet P ops C (wpQuiet P ops C Q m) l a → wpQuiet P ops C Q (l ++ m) a
  | [], _, h => h
  | o :: l, a, h => by
    rw [List.cons_append]
    unfold wpQuiet at h ⊢
    split
    · rename_i hw; rw [if_pos hw] at h
      exact Oper.quiet_mono (fun a' h' => wpQuiet_append l a' h') h
    · rename_i hw; rw [if_neg hw] at h
      exact wpQuiet_append l _ h
theorem wpQuiet_mono {ops : Array Oper} {Q Q' : Act → Prop} (hQ : ∀ a, Q a → Q' a) : ∀ (l : List Oper) (a : Act), wpQuiet P ops C Q l a → wpQuiet P ops C Q' l a
  | [], _, h => hQ _ h
  | o :: l, a, h => by
    unfold wpQuiet at h ⊢
    split
    · rename_i hw; rw [if_pos hw] at h
      exact Oper.quiet_mono (fun a' h' => wpQuiet_mono hQ l a' h') h
    · rename_i hw; rw [if_neg hw] at h
      exact wpQuiet_mono hQ l _ h
theorem idle_quiet {o : Oper} {a : Act} {K : Act → Prop} (h : K (a.put o.dst undef)) : (idle o).quiet P a C K := by
  refine ⟨undef, fun w _ => ?_, h⟩
  unfold Oper.quietAt idle execOp
  exact ⟨rfl, rfl⟩


/-- Each operation waits for earlier ones alone. -/
def backB (ops : Array Oper) : Bool := (List.range ops.size).all fun i => ((ops[i]?).map fun o => o.after.all fun e => decide (e.on < i)).getD true
def afters (ops : Array Oper) (i : Nat) : List Nat := ((ops[i]?).map fun o => ((o.after.toList.filter fun e => Region.binds .any e).map (·.on))).getD []
/-- What the n-th waits for, by way of what it waits for. -/
def marks (ops : Array Oper) (n : Nat) : Nat → List Nat
  | 0 => afters ops n
  | t + 1 => if (marks ops n t).contains (n - 1 - t) then afters ops (n - 1 - t) ++ marks ops n t else marks ops n t
/-- The n-th waits for all before it. -/
def lastB (ops : Array Oper) (n : Nat) : Bool := (List.range n).all fun j => (marks ops n n).contains j
/-- What has come up has come up behind what it waits for. -/
def Closed (ops : Array Oper) (listed : Array Bool) : Prop := ∀ i o, ops[i]? = some o → listed.getD i false = true → ∀ e ∈ o.after, Region.binds .any e = true → listed.getD e.on false = true
theorem Closed.step {ops : Array Oper} {listed : Array Bool} {i : Nat} (h : Closed ops listed) (hi : i ∈ Region.ready .any ops listed) : Closed ops (listed.setIfInBounds i true) := by
  intro j o ho hj e he hb
  refine getD_set_true ?_
  by_cases hji : j = i
  · subst hji
    obtain ⟨_, o', ho', hall⟩ := mem_ready.1 hi
    rw [ho] at ho'
    obtain rfl := Option.some.inj ho'
    exact hall e he hb
  · refine h j o ho ?_ e he hb
    simp only [Array.getD_eq_getD_getElem?] at hj ⊢
    rw [Array.getElem?_setIfInBounds_ne (Ne.symm hji)] at hj
    exact hj
theorem marks_listed {ops : Array Oper} {listed : Array Bool} {n : Nat} (hc : Closed ops listed) (hn : n ∈ Region.ready .any ops listed) : ∀ t, ∀ j ∈ marks ops n t, listed.getD j false = true := by
  intro t
  induction t with
  | zero =>
    intro j hj
    obtain ⟨_, o, ho, hall⟩ := mem_ready.1 hn
    unfold marks afters at hj
    rw [ho] at hj
    simp only [Option.map_some, Option.getD_some, List.mem_map, List.mem_filter, Array.mem_toList_iff] at hj
    obtain ⟨e, ⟨he, hb⟩, rfl⟩ := hj
    exact hall e he hb
  | succ t ih =>
    intro j hj
    unfold marks at hj
    split at hj
    · rename_i hcon
      rcases List.mem_append.1 hj with hj | hj
      · have hi := ih (n - 1 - t) (by simpa using hcon)
        unfold afters at hj
        cases ho : ops[n - 1 - t]? with
        | none => rw [ho] at hj; simp at hj
        | some o =>
          rw [ho] at hj
          simp only [Option.map_some, Option.getD_some, List.mem_map, List.mem_filter, Array.mem_toList_iff] at hj
          obtain ⟨e, ⟨he, hb⟩, rfl⟩ := hj
          exact hc _ o ho hi e he hb
      · exact ih j hj
    · exact ih j hj
theorem last_all {ops : Array Oper} {listed : Array Bool} {n : Nat} (hl : lastB ops n = true) (hc : Closed ops listed) (hn : n ∈ Region.ready .any ops listed) : ∀ j, j < n → listed.getD j false = true := by
  intro j hj
  have h1 := List.all_eq_true.1 hl j (List.mem_range.2 hj)
  exact marks_listed hc hn n j (by simpa using h1)

theorem ready_open {ops : Array Oper} (hb : backB ops = true) (listed : Array Bool) (hs : listed.size = ops.size) : ∀ n, n < ops.size → listed.getD n true = false → Region.ready md ops listed ≠ [] := by
  intro n
  induction n using Nat.strongRecOn with
  | _ n ih =>
    intro hn hl h0
    have hnot : n ∉ Region.ready md ops listed := by rw [h0]; simp
    rw [mem_ready] at hnot
    obtain ⟨o, ho⟩ : ∃ o, ops[n]? = some o := ⟨ops[n], Array.getElem?_eq_getElem hn⟩
    have hex : ∃ e ∈ o.after, Region.binds md e = true ∧ listed.getD e.on false ≠ true := by
      apply Classical.byContradiction
      intro hc
      refine hnot ⟨hl, o, ho, fun e he hbd => ?_⟩
      apply Classical.byContradiction
      intro hx
      exact hc ⟨e, he, hbd, hx⟩
    obtain ⟨e, he, _, hx⟩ := hex
    have h1 := List.all_eq_true.1 hb n (List.mem_range.2 hn)
    rw [ho] at h1
    simp only [Option.map_some, Option.getD_some] at h1
    have h2 : e.on < n := by
      have := Array.all_eq_true_iff_forall_mem.1 h1 e he
      simpa using this
    refine ih e.on h2 (by omega) ?_ h0
    have h3 : e.on < listed.size := by omega
    simp only [Array.getD_eq_getD_getElem?, Array.getElem?_eq_getElem h3, Option.getD_some] at hx ⊢
    simpa using hx

/-! One operation in the middle: all that stand ahead of it only read, it waits for all of them, and all behind it wait for it and only read. -/

/-- Each behind the n-th waits for the n-th or for one between. -/
def restB (ops : Array Oper) (n : Nat) : Bool := (List.range ops.size).all fun i => decide (i ≤ n) || ((ops[i]?).map fun o => o.after.any fun e => decide (n ≤ e.on) && decide (e.on < i) && Region.binds .any e).getD false
/-- The guards ahead of the n-th look at earlier ones. -/
def guardB (ops : Array Oper) (n : Nat) : Bool := (List.range n).all fun i => ((ops[i]?).map fun o => (o.guard.map fun g => decide (g.1 < n)).getD true).getD true

theorem wpAnyQ_more {ops : Array Oper} {Q : Act → Prop} : ∀ (f : Nat) (listed : Array Bool) (a : Act), wpAnyQ P md ops C Q f listed a → wpAnyQ P md ops C Q (f + 1) listed a
  | 0, listed, a, h => ⟨fun _ => h.2, by rw [h.1]; intro i hi; cases hi⟩
  | f + 1, listed, a, h => ⟨h.1, fun i hi => qOp_mono (fun a' h' => wpAnyQ_more f _ a' h') (h.2 i hi)⟩
theorem wpAnyQ_le {ops : Array Oper} {Q : Act → Prop} {f g : Nat} (hfg : f ≤ g) {listed : Array Bool} {a : Act} (h : wpAnyQ P md ops C Q f listed a) : wpAnyQ P md ops C Q g listed a := by
  induction hfg with
  | refl => exact h
  | step _ ih => exact wpAnyQ_more _ _ _ ih

theorem rest_waits {ops : Array Oper} {n : Nat} (hr : restB ops n = true) (listed : Array Bool) (hl : ∀ j, n ≤ j → j < ops.size → listed.getD j true = false) (hs : listed.size = ops.size) {i : Nat} (hi : n < i) : i ∉ Region.ready .any ops listed := by
  intro h
  rw [mem_ready] at h
  obtain ⟨_, o, ho, hall⟩ := h
  have hlt : i < ops.size := (Array.getElem?_eq_some_iff.1 ho).1
  have h1 := List.all_eq_true.1 hr i (List.mem_range.2 hlt)
  rw [ho] at h1
  simp only [Option.map_some, Option.getD_some, Bool.or_eq_true, decide_eq_true_eq] at h1
  rcases h1 with h1 | h1
  · omega
  · rw [← Array.any_toList, List.any_eq_true] at h1
    obtain ⟨e, he, hx⟩ := h1
    rw [Array.mem_toList_iff] at he
    simp only [Bool.and_eq_true, decide_eq_true_eq] at hx
    have h2 := hall e he hx.2
    have h3 := hl e.on hx.1.1 (by omega)
    have h4 : e.on < listed.size := by omega
    simp [Array.getD_eq_getD_getElem?, h4] at h2 h3
    rw [h2] at h3; cases h3

theorem wanted_head {ops : Array Oper} {n i : Nat} {o : Oper} (hg : guardB ops n = true) (hi : i < n) (ho : ops[i]? = some o) (tmps : Array Value) :
    Region.wanted o (yielded (ops.extract 0 n) tmps) = Region.wanted o (yielded ops tmps) := by
  have h1 := List.all_eq_true.1 hg i (List.mem_range.2 hi)
  rw [ho] at h1
  simp only [Option.map_some, Option.getD_some] at h1
  unfold Region.wanted
  cases hgd : o.guard with
  | none => rfl
  | some g =>
    rw [hgd] at h1
    simp only [Option.map_some, Option.getD_some, decide_eq_true_eq] at h1
    have : yielded (ops.extract 0 n) tmps g.1 = yielded ops tmps g.1 := by
      unfold yielded
      rw [Array.getElem?_extract]
      have : g.1 < min n ops.size - 0 ∨ ops.size ≤ g.1 := by
        rcases Nat.lt_or_ge g.1 ops.size with h | h
        · left; omega
        · right; exact h
      rcases this with h | h
      · rw [if_pos h]; simp
      · rw [Array.getElem?_eq_none h]
        split <;> simp_all
    simp only [this]

theorem wpAny_head {ops : Array Oper} {n : Nat} {Q : Act → Prop} {Q' : Exit → Act → World → Prop} (hn : n < ops.size) (hback : backB ops = true) (hlast : lastB ops n = true) (hrest : restB ops n = true) (hguard : guardB ops n = true)
    (hQ : ∀ (fuel : Nat) (listed : Array Bool) (a : Act) (w : World), ops.size - n ≤ fuel → C w → Q a → listed.size = ops.size → (∀ j, j < n → listed.getD j true = true) → (∀ j, n ≤ j → j < ops.size → listed.getD j true = false) → wpAny P .any ops Q' fuel listed a w) :
    ∀ (f fuel : Nat) (listed : Array Bool) (a : Act) (w : World), f + (ops.size - n) ≤ fuel → C w → listed.size = ops.size → Closed ops listed → (∀ j, n ≤ j → j < ops.size → listed.getD j true = false) →
      wpAnyQ P .any (ops.extract 0 n) C Q f (listed.extract 0 n) a → wpAny P .any ops Q' fuel listed a w := by
  have hget : ∀ j, j < n → (ops.extract 0 n)[j]? = ops[j]? := fun j hj => by
    rw [Array.getElem?_extract, if_pos (by omega)]; simp
  have hgl : ∀ (listed : Array Bool), listed.size = ops.size → ∀ (j : Nat) (d : Bool), j < n → (listed.extract 0 n).getD j d = listed.getD j d := fun listed hs j d hj => by
    simp only [Array.getD_eq_getD_getElem?]
    rw [Array.getElem?_extract, if_pos (by omega)]; simp
  have hhead : ∀ (listed : Array Bool), listed.size = ops.size → ∀ j, j < n → (j ∈ Region.ready .any (ops.extract 0 n) (listed.extract 0 n) ↔ j ∈ Region.ready .any ops listed) := by
    intro listed hs j hj
    rw [mem_ready, mem_ready, hget j hj, hgl listed hs j true hj]
    refine and_congr_right fun _ => ?_
    constructor
    · rintro ⟨o, ho, h⟩
      refine ⟨o, ho, fun e he hb => ?_⟩
      have h1 := List.all_eq_true.1 hback j (List.mem_range.2 (by omega))
      rw [ho] at h1
      simp only [Option.map_some, Option.getD_some] at h1
      have h2 : e.on < j := by have := Array.all_eq_true_iff_forall_mem.1 h1 e he; simpa using this
      rw [← hgl listed hs e.on false (by omega)]; exact h e he hb
    · rintro ⟨o, ho, h⟩
      refine ⟨o, ho, fun e he hb => ?_⟩
      have h1 := List.all_eq_true.1 hback j (List.mem_range.2 (by omega))
      rw [ho] at h1
      simp only [Option.map_some, Option.getD_some] at h1
      have h2 : e.on < j := by have := Array.all_eq_true_iff_forall_mem.1 h1 e he; simpa using this
      rw [hgl listed hs e.on false (by omega)]; exact h e he hb
  intro f
  induction f with
  | zero =>
    intro fuel listed a w hf hw hs hcl hop h
    by_cases hall : ∀ j, j < n → listed.getD j true = true
    · exact hQ fuel listed a w (by omega) hw h.2 hs hall hop
    · exfalso
      obtain ⟨j, hj⟩ := Classical.not_forall.1 hall
      obtain ⟨hj1, hj2⟩ := Classical.not_imp.1 hj
      have hback' : backB (ops.extract 0 n) = true := by
        unfold backB
        rw [List.all_eq_true]
        intro i hi
        rw [List.mem_range, Array.size_extract] at hi
        rw [hget i (by omega)]
        exact List.all_eq_true.1 hback i (List.mem_range.2 (by omega))
      refine ready_open (md := .any) hback' (listed.extract 0 n) (by simp [hs]) j (by simp; omega) ?_ h.1
      rw [hgl listed hs j true hj1]
      cases hh : listed.getD j true
      · rfl
      · exact (hj2 hh).elim
  | succ f ih =>
    intro fuel listed a w hf hw hs hcl hop h
    by_cases hall : ∀ j, j < n → listed.getD j true = true
    · have hnil : Region.ready .any (ops.extract 0 n) (listed.extract 0 n) = [] := by
        rw [List.eq_nil_iff_forall_not_mem]
        intro j hj
        have := (mem_ready.1 hj).1
        have hj2 : j < n := by
          obtain ⟨_, o, ho, _⟩ := mem_ready.1 hj
          have := (Array.getElem?_eq_some_iff.1 ho).1
          rw [Array.size_extract] at this; omega
        rw [hgl listed hs j true hj2, hall j hj2] at this
        cases this
      exact hQ fuel listed a w (by omega) hw (h.1 hnil) hs hall hop
    · obtain ⟨g, rfl⟩ : ∃ g, fuel = g + 1 := ⟨fuel - 1, by omega⟩
      refine ⟨fun h0 => (ready_open hback listed hs n hn (hop n (Nat.le_refl _) hn) h0).elim, fun i hi => ?_⟩
      have hin : i < n := by
        rcases Nat.lt_trichotomy i n with h' | h' | h'
        · exact h'
        · exfalso
          subst h'
          apply hall
          intro j hj
          have h2 := last_all hlast hcl hi j hj
          have h3 : j < listed.size := by omega
          simp [Array.getD_eq_getD_getElem?, h3] at h2 ⊢
          exact h2
        · exact (rest_waits hrest listed hop hs h' hi).elim
      have hq := h.2 i ((hhead listed hs i hin).2 hi)
      have hq' : qOp P ops C i (wpAnyQ P .any (ops.extract 0 n) C Q f ((listed.setIfInBounds i true).extract 0 n)) a := by
        have he : (listed.setIfInBounds i true).extract 0 n = (listed.extract 0 n).setIfInBounds i true := by
          apply Array.ext_getElem?
          intro j
          rw [Array.getElem?_extract, Array.getElem?_setIfInBounds, Array.getElem?_setIfInBounds, Array.getElem?_extract]
          simp only [Array.size_setIfInBounds, Array.size_extract, Nat.zero_add]
          by_cases hj : i = j
          · subst hj
            have h1 : i < min n listed.size := by omega
            have h2 : i < listed.size := by omega
            simp [h1, h2]
          · simp [hj]
        rw [he]
        unfold qOp at hq ⊢
        rw [hget i hin] at hq
        cases ho : ops[i]? with
        | none => simp only [ho] at hq ⊢; exact hq
        | some o =>
          simp only [ho] at hq ⊢
          rw [wanted_head hguard hin ho] at hq
          exact hq
      exact wpOp_of_qOp hw (fun a' w' hw' hk => ih g _ a' w' (by omega) hw' (by simpa using hs) (hcl.step hi) (fun j hj hj2 => by rw [getD_set_ne true (by omega)]; exact hop j hj hj2) hk) hq'

/-- The first k have come up, no other. -/
def mask (ops : Array Oper) (k : Nat) : Array Bool := Array.replicate k true ++ Array.replicate (ops.size - k) false
/-- What is left of a region when the first k have come up. -/
def Rest (P : Program) (Q' : Exit → Act → World → Prop) (L : List Oper) (k : Nat) (a : Act) (w : World) : Prop := wpAny P .any L.toArray Q' (L.length - k) (mask L.toArray k) a w
/-- What is asked of a middle operation: behind it the rest. -/
def MidPost (P : Program) (Q' : Exit → Act → World → Prop) (L : List Oper) (k : Nat) : Exit → Act → World → Prop
  | .normal, a, w => Rest P Q' L k a w
  | e, a, w => Q' e a w
def midB (L : List Oper) (k n : Nat) : Bool :=
  decide (k ≤ n) && decide (n < L.length) && backB L.toArray && lastB L.toArray n && restB L.toArray n && guardB L.toArray n && Region.noSelect (L.toArray.extract 0 n) &&
    Region.lexFrom .any (L.toArray.extract 0 n) (n - k) k ((mask L.toArray k).extract 0 n)
def endB (L : List Oper) (k : Nat) : Bool := decide (k ≤ L.length) && Region.noSelect L.toArray && Region.lexFrom .any L.toArray (L.length - k) k (mask L.toArray k)

theorem wpAny_more {ops : Array Oper} {Q' : Exit → Act → World → Prop} : ∀ (f : Nat) (listed : Array Bool) (a : Act) (w : World), wpAny P md ops Q' f listed a w → wpAny P md ops Q' (f + 1) listed a w
  | 0, listed, a, w, h => ⟨fun _ => h.2, by rw [h.1]; intro i hi; cases hi⟩
  | f + 1, listed, a, w, h => ⟨h.1, fun i hi => wpOp_mono (fun a' w' h' => wpAny_more f _ a' w' h') (h.2 i hi)⟩
theorem wpAny_le {ops : Array Oper} {Q' : Exit → Act → World → Prop} {f g : Nat} (hfg : f ≤ g) {listed : Array Bool} {a : Act} {w : World} (h : wpAny P md ops Q' f listed a w) : wpAny P md ops Q' g listed a w := by
  induction hfg with
  | refl => exact h
  | step _ ih => exact wpAny_more _ _ _ _ ih

theorem wpOp_of_list {ops : Array Oper} {Q Q' : Exit → Act → World → Prop} {n : Nat} {o : Oper} {a : Act} {w : World} (ho : ops[n]? = some o) (hQ : ∀ e a w, e ≠ .normal → Q e a w → Q' e a w)
    (h : wpList P ops Q [o] a w) : wpOp P ops Q' n (fun a' w' => Q .normal a' w') a w := by
  unfold wpList at h
  unfold wpOp
  simp only [ho]
  split
  · rename_i hw
    rw [if_pos hw] at h
    rcases h with h | ⟨h1, a0, w0, h2⟩
    · left
      unfold Oper.wp at h ⊢
      generalize (execOp a.eval o).run P w = r at *
      cases r with
      | ok x w' =>
        cases x <;> first
          | exact h
          | exact h.elim
          | (exact Calls.mono h fun e w'' he => by cases e <;> first | exact he | exact hQ _ _ _ (by simp) he | (obtain ⟨a1, w1, h1⟩ := he; exact ⟨a1, w1, hQ _ _ _ (by simp) h1⟩))
          | exact Rows.mono h fun _ _ he => he
      | halt x w' => cases x <;> first | exact hQ _ _ _ (by simp) h | exact h.elim
    · exact .inr ⟨h1, a0, w0, hQ _ _ _ (by simp) h2⟩
  · rename_i hw
    rw [if_neg hw] at h
    exact h

theorem rest_quiet {Q' : Exit → Act → World → Prop} {L : List Oper} {k : Nat} {a : Act} {w : World} (hb : endB L k = true)
    (h : wpQuiet P L.toArray (fun w' => ∃ j, w' = w.drewN j) (fun a' => ∀ j, Q' .normal a' (w.drewN j)) (L.drop k) a) : Rest P Q' L k a w := by
  unfold endB at hb
  simp only [Bool.and_eq_true, decide_eq_true_eq] at hb
  obtain ⟨⟨hk, hsel⟩, hB⟩ := hb
  refine wpAny_of_quiet (C := fun w' => ∃ j, w' = w.drewN j) (Q := fun a' => ∀ j, Q' .normal a' (w.drewN j)) (fun a3 w3 hw3 hq3 => by obtain ⟨j, rfl⟩ := hw3; exact hq3 j) _ _ a w ⟨0, rfl⟩ ?_
  have hlen : (L.drop k).length = L.length - k := by simp
  rw [← hlen]
  exact wpAnyQ_lex (P := P) (C := fun w' => ∃ j, w' = w.drewN j) (md := .any) hsel (L.drop k) k (mask L.toArray k) a (fun j => by rw [List.getElem?_drop]; simp) (by rw [hlen]; exact hB) h

theorem rest_mid_in {Q' : Exit → Act → World → Prop} {L : List Oper} {k : Nat} (n : Nat) {o : Oper} {a : Act} {w w1 : World} (hw1 : ∃ j, w1 = w.drewN j) (hb : midB L k n = true) (ho : L[n]? = some o)
    (h : wpQuiet P (L.take n).toArray (fun w' => ∃ j, w' = w.drewN j) (fun a' => ∀ j, wpList P L.toArray (MidPost P Q' L (n + 1)) [o] a' (w.drewN j)) ((L.take n).drop k) a) : Rest P Q' L k a w1 := by
  unfold midB at hb
  simp only [Bool.and_eq_true, decide_eq_true_eq] at hb
  obtain ⟨⟨⟨⟨⟨⟨⟨hk, hn⟩, hback⟩, hlast⟩, hrest⟩, hguard⟩, hsel⟩, hB⟩ := hb
  have hn' : n < L.toArray.size := by simpa using hn
  have hx : L.toArray.extract 0 n = (L.take n).toArray := by simp
  have hmget : ∀ j, (mask L.toArray k)[j]? = if j < k then some true else if j < L.length then some false else none := by
    intro j
    unfold mask
    rw [Array.getElem?_append, Array.getElem?_replicate, Array.getElem?_replicate, Array.size_replicate]
    simp only [List.size_toArray]
    by_cases h1 : j < k
    · simp [h1]
    · by_cases h2 : j < L.length
      · simp [h1, h2]; omega
      · simp [h1, h2]; omega
  have hms : (mask L.toArray k).size = L.toArray.size := by unfold mask; simp; omega
  unfold Rest
  refine wpAny_head (ops := L.toArray) (n := n) (C := fun w' => ∃ j, w' = w.drewN j) (Q := fun a' => ∀ j, wpList P L.toArray (MidPost P Q' L (n + 1)) [o] a' (w.drewN j))
    hn' hback hlast hrest hguard ?_ (n - k) (L.length - k) _ a _ (by simp; omega) hw1 hms ?_ ?_ ?_
  · rintro fuel listed a' w' hf ⟨j, rfl⟩ hQ hs hall hop
    obtain ⟨g, rfl⟩ : ∃ g, fuel = g + 1 := ⟨fuel - 1, by omega⟩
    refine ⟨fun h0 => (ready_open hback listed hs n hn' (hop n (Nat.le_refl _) hn') h0).elim, fun i hi => ?_⟩
    have hin : i = n := by
      rcases Nat.lt_trichotomy i n with h' | h' | h'
      · have := (mem_ready.1 hi).1
        rw [hall i h'] at this; cases this
      · exact h'
      · exact (rest_waits hrest listed hop hs h' hi).elim
    subst hin
    have hl : listed.setIfInBounds i true = mask L.toArray (i + 1) := by
      unfold mask
      apply Array.ext_getElem?
      intro j
      rw [Array.getElem?_setIfInBounds, Array.getElem?_append, Array.getElem?_replicate, Array.getElem?_replicate, Array.size_replicate]
      by_cases hj : i = j
      · subst hj; simp [hs, hn]
      · by_cases hj2 : j < i
        · have h1 := hall j hj2
          have h3 : j < listed.size := by omega
          simp [Array.getD_eq_getD_getElem?, h3] at h1
          simp [hj, show j < i + 1 by omega, h3, h1]
        · by_cases hj3 : j < L.toArray.size
          · have h1 := hop j (by omega) hj3
            have h3 : j < listed.size := by omega
            simp [Array.getD_eq_getD_getElem?, h3] at h1
            simp at hj3
            simp [hj, show ¬ j < i + 1 by omega, h3, h1]; omega
          · simp at hj3
            simp at hs
            simp [hj, show ¬ j < i + 1 by omega, show listed.size ≤ j by omega]; omega
    have hop' := wpOp_of_list (Q' := Q') (by simpa using ho) (fun e a w he hx => by cases e <;> first | exact (he rfl).elim | exact hx) (hQ j)
    refine wpOp_mono (fun a'' w'' h' => ?_) hop'
    rw [hl]
    exact wpAny_le (by simp at hf; omega) h'
  · intro i o ho hi e he hb
    have h1 : i < k := by
      simp only [Array.getD_eq_getD_getElem?, hmget] at hi
      by_cases h1 : i < k
      · exact h1
      · by_cases h2 : i < L.length <;> simp [h1, h2] at hi
    have h2 := List.all_eq_true.1 hback i (List.mem_range.2 (by omega))
    rw [ho] at h2
    simp only [Option.map_some, Option.getD_some] at h2
    have h3 : e.on < i := by have := Array.all_eq_true_iff_forall_mem.1 h2 e he; simpa using this
    simp only [Array.getD_eq_getD_getElem?, hmget]
    simp [show e.on < k by omega]
  · intro j hj hj2
    simp only [Array.getD_eq_getD_getElem?, hmget]
    simp at hj2
    simp [show ¬ j < k by omega, hj2]
  · have hlen : ((L.take n).drop k).length = n - k := by simp; omega
    have := wpAnyQ_lex (P := P) (ops := L.toArray.extract 0 n) (C := fun w' => ∃ j, w' = w.drewN j) (md := .any) hsel ((L.take n).drop k) k ((mask L.toArray k).extract 0 n) a
      (fun j => by rw [List.getElem?_drop, hx]; simp) (by rw [hlen]; exact hB) (by rw [hx]; exact h)
    rw [hlen] at this
    exact this

theorem rest_mid {Q' : Exit → Act → World → Prop} {L : List Oper} {k : Nat} (n : Nat) {o : Oper} {a : Act} {w : World} (hb : midB L k n = true) (ho : L[n]? = some o)
    (h : wpQuiet P (L.take n).toArray (fun w' => ∃ j, w' = w.drewN j) (fun a' => ∀ j, wpList P L.toArray (MidPost P Q' L (n + 1)) [o] a' (w.drewN j)) ((L.take n).drop k) a) : Rest P Q' L k a w :=
  rest_mid_in n ⟨0, rfl⟩ hb ho h
theorem wp_region_rest {Q' : Exit → Act → World → Prop} {id : Nat} {L : List Oper} {a : Act} {w : World} (hm : P.follows .mixedOrders = true) (h : Rest P Q' L 0 a w.drew) : (Code.region id L.toArray true).wp P Q' a w := by
  refine wp_region_any hm ?_
  have : mask L.toArray 0 = Array.replicate L.toArray.size false := by unfold mask; simp
  unfold Rest at h
  rw [this] at h
  simpa using h
/-- A region's first part: up to its first operation that does more than read. -/
theorem wp_region_mid {Q' : Exit → Act → World → Prop} {id : Nat} {L : List Oper} (n : Nat) {o : Oper} {a : Act} {w : World} (hm : P.follows .mixedOrders = true) (hb : midB L 0 n = true) (ho : L[n]? = some o)
    (h : wpQuiet P (L.take n).toArray (fun w' => ∃ j, w' = w.drewN j) (fun a' => ∀ j, wpList P L.toArray (MidPost P Q' L (n + 1)) [o] a' (w.drewN j)) ((L.take n).drop 0) a) : (Code.region id L.toArray true).wp P Q' a w :=
  wp_region_rest hm (rest_mid_in n ⟨1, rfl⟩ hb ho h)
theorem midPost_normal {Q' : Exit → Act → World → Prop} {L : List Oper} {k : Nat} {a : Act} {w : World} (h : Rest P Q' L k a w) : MidPost P Q' L k .normal a w := h
end
end Go.Proofs.Ytahmnpbfjfllmaa
