/- A region that draws its order, walked by a tree: as by a plan (P), but where two operations may come up each of both is gone through. For any program. -/
import Derived.Test.YtogoiikgiohlhaaP
namespace Go.Proofs.Ytogoiikgiohlhaa
open Go

inductive Tree where
  | done
  | vals (is : List Nat) (t : Tree)
  | late (j : Nat) (t : Tree)
  | fork (i j : Nat) (t u : Tree)
section
variable {P : Program} {Q : Exit → Act → World → Prop} {L : List Oper}
def valsB (ops : Array Oper) : List Nat → Array Bool → Bool
  | [], _ => true
  | i :: is, listed => ((ops[i]?).map fun o => valueOp o.op).getD false && Region.free .any ops listed i && (Region.ready .any ops listed).contains i && valsB ops is (listed.setIfInBounds i true)
def marked : List Nat → Array Bool → Array Bool
  | [], listed => listed
  | i :: is, listed => marked is (listed.setIfInBounds i true)
def treeB (ops : Array Oper) : Tree → Array Bool → Bool
  | .done, listed => (Region.ready .any ops listed).isEmpty
  | .vals is t, listed => valsB ops is listed && treeB ops t (marked is listed)
  | .late j t, listed => (Region.ready .any ops listed == [j]) && treeB ops t (listed.setIfInBounds j true)
  | .fork i j t u, listed => (Region.ready .any ops listed == [i, j]) && treeB ops t (listed.setIfInBounds i true) && treeB ops u (listed.setIfInBounds j true)
/-- One that comes up. -/
def wpLate (P : Program) (L : List Oper) (Q : Exit → Act → World → Prop) (S : World → Prop) (K : (World → Prop) → Act → World → Prop) (j : Nat) (a : Act) (w : World) : Prop :=
  wpList P L.toArray (LatePost Q S K) (opsOf L [j]) a w
def wpTree (P : Program) (L : List Oper) (Q : Exit → Act → World → Prop) : Tree → (World → Prop) → Act → World → Prop
  | .done, _, a, w => Q .normal a w
  | .vals is t, S, a, w => wpQuiet P L.toArray S (fun a' => wpTree P L Q t S a' w) (opsOf L is) a
  | .late j t, S, a, w => wpLate P L Q S (wpTree P L Q t) j a w
  | .fork i j t u, S, a, w => wpLate P L Q S (wpTree P L Q t) i a w ∧ wpLate P L Q S (wpTree P L Q u) j a w
theorem late_op {S : World → Prop} {K : (World → Prop) → Act → World → Prop} {j : Nat} {a : Act} {w : World} (hj : j < L.length) (h : wpLate P L Q S K j a w) :
    wpOp P L.toArray Q j (fun a' w' => ∃ S' : World → Prop, (∀ x, S' x → S x) ∧ S' w' ∧ K S' a' w') a w := by
  have ho : L[j]? = some L[j] := List.getElem?_eq_getElem hj
  have e : opsOf L [j] = [L[j]] := by simp [opsOf, ho]
  unfold wpLate at h
  rw [e] at h
  exact wpOp_of_list (Q' := Q) (n := j) (by simp) (fun e a w he hx => by cases e <;> first | exact (he rfl).elim | exact hx) h
theorem ready_lt {ops : Array Oper} {listed : Array Bool} {j : Nat} (h : j ∈ Region.ready .any ops listed) : j < ops.size := by
  obtain ⟨_, o, ho, _⟩ := mem_ready.1 h
  exact (Array.getElem?_eq_some_iff.1 ho).1
theorem vals_sound (hs : Region.noSelect L.toArray = true) (hQ : ∀ (c : List PanicEntry) (a : Act) (d : Option Tmp) (v : Value) (w : World), Q (.panic c) (a.put d v) w → Q (.panic c) a w) (K : Act → Prop) (S : World → Prop) (w : World) (hS : S w) (n : Nat) :
    ∀ (is : List Nat) (listed : Array Bool) (a : Act), valsB L.toArray is listed = true → (∀ a', K a' → wpAnyH P .any L.toArray Q S n (marked is listed) a' w) → wpQuiet P L.toArray S K (opsOf L is) a → wpAnyH P .any L.toArray Q S (is.length + n) listed a w
  | [], listed, a, _, hK, h => by
    have e : ([] : List Nat).length + n = n := by simp
    rw [e]
    exact hK a h
  | i :: is, listed, a, hB, hK, h => by
    simp only [valsB, Bool.and_eq_true] at hB
    have hm : i ∈ Region.ready .any L.toArray listed := by simpa using hB.1.2
    have hi : i < L.length := by simpa using ready_lt hm
    have ho : L[i]? = some L[i] := List.getElem?_eq_getElem hi
    have e : opsOf L (i :: is) = L[i] :: opsOf L is := by simp [opsOf, ho]
    rw [e] at h
    have hv : valueOp L[i].op = true := by
      have := hB.1.1.1
      simpa [ho] using this
    obtain ⟨v, h1, h2⟩ := yieldsIf_of_quiet hv (by unfold wpQuiet at h; exact h)
    rw [show (i :: is).length + n = (is.length + n) + 1 by simp; omega]
    exact wpAnyH_take (by simp) hs hB.1.1.2 hB.1.2 (fun c a w => hQ c a L[i].dst v w) h1 hS (vals_sound hs hQ K S w hS n is _ _ hB.2 hK h2)
theorem wpAnyH_more {md : Region.Mode} {ops : Array Oper} {S : World → Prop} : ∀ (f : Nat) (listed : Array Bool) (a : Act) (w : World), wpAnyH P md ops Q S f listed a w → wpAnyH P md ops Q S (f + 1) listed a w
  | 0, listed, a, w, h => ⟨fun _ => h.2, by rw [h.1]; intro i hi; cases hi⟩
  | f + 1, listed, a, w, h => ⟨h.1, fun i hi => wpOp_mono (fun a' w' h' => ⟨h'.1, wpAnyH_more f _ a' w' h'.2⟩) (h.2 i hi)⟩
theorem wpAnyH_le {md : Region.Mode} {ops : Array Oper} {S : World → Prop} {f g : Nat} (hfg : f ≤ g) {listed : Array Bool} {a : Act} {w : World} (h : wpAnyH P md ops Q S f listed a w) : wpAnyH P md ops Q S g listed a w := by
  induction hfg with
  | refl => exact h
  | step _ ih => exact wpAnyH_more _ _ _ _ ih
/-- No way through the tree is longer than the region. -/
def Tree.depth : Tree → Nat
  | done => 0
  | vals is t => is.length + t.depth
  | late _ t => t.depth + 1
  | fork _ _ t u => max t.depth u.depth + 1
theorem tree_sound (hs : Region.noSelect L.toArray = true) (hQ : ∀ (c : List PanicEntry) (a : Act) (d : Option Tmp) (v : Value) (w : World), Q (.panic c) (a.put d v) w → Q (.panic c) a w) :
    ∀ (t : Tree) (listed : Array Bool) (S : World → Prop) (a : Act) (w : World), treeB L.toArray t listed = true → S w → wpTree P L Q t S a w → wpAnyH P .any L.toArray Q S t.depth listed a w
  | .done, listed, S, a, w, hB, _, h => wpAnyH_done (by simpa [treeB] using hB) h _
  | .vals is t, listed, S, a, w, hB, hS, h => by
    simp only [treeB, Bool.and_eq_true] at hB
    exact vals_sound hs hQ _ S w hS t.depth is listed a hB.1 (fun a' h' => tree_sound hs hQ t _ S a' w hB.2 hS h') h
  | .late j t, listed, S, a, w, hB, hS, h => by
    simp only [treeB, Bool.and_eq_true, beq_iff_eq] at hB
    refine wpAnyH_all hB.1 (by simp) fun k hk => ?_
    simp only [List.mem_singleton] at hk
    subst hk
    have hlt := ready_lt (ops := L.toArray) (listed := listed) (j := k) (by rw [hB.1]; simp)
    refine wpOp_mono (fun a' w' q => ?_) (late_op (by simpa using hlt) h)
    obtain ⟨S', h1, h2, h3⟩ := q
    exact ⟨h1 _ h2, wpAnyH_sub h1 _ _ a' w' (tree_sound hs hQ t _ S' a' w' hB.2 h2 h3)⟩
  | .fork i j t u, listed, S, a, w, hB, hS, h => by
    simp only [treeB, Bool.and_eq_true, beq_iff_eq] at hB
    refine wpAnyH_all hB.1.1 (by simp) fun k hk => ?_
    have hlt := ready_lt (ops := L.toArray) (listed := listed) (j := k) (by rw [hB.1.1]; exact hk)
    simp only [List.mem_cons, List.not_mem_nil, or_false] at hk
    rcases hk with rfl | rfl
    · refine wpOp_mono (fun a' w' q => ?_) (late_op (by simpa using hlt) h.1)
      obtain ⟨S', h1, h2, h3⟩ := q
      exact ⟨h1 _ h2, wpAnyH_sub h1 _ _ a' w' (wpAnyH_le (Nat.le_max_left _ _) (tree_sound hs hQ t _ S' a' w' hB.1.2 h2 h3))⟩
    · refine wpOp_mono (fun a' w' q => ?_) (late_op (by simpa using hlt) h.2)
      obtain ⟨S', h1, h2, h3⟩ := q
      exact ⟨h1 _ h2, wpAnyH_sub h1 _ _ a' w' (wpAnyH_le (Nat.le_max_right _ _) (tree_sound hs hQ u _ S' a' w' hB.2 h2 h3))⟩
def wholeB (L : List Oper) (t : Tree) : Bool := Region.noSelect L.toArray && decide (t.depth ≤ L.length) && treeB L.toArray t (Array.replicate L.toArray.size false)
/-- The law: a region by a tree. -/
theorem wp_region_tree {id : Nat} {a : Act} {w : World} (t : Tree) (S : World → Prop) (hm : P.follows .mixedOrders = true) (hB : wholeB L t = true)
    (hQ : ∀ (c : List PanicEntry) (a : Act) (d : Option Tmp) (v : Value) (w : World), Q (.panic c) (a.put d v) w → Q (.panic c) a w) (hS : S w.drew) (h : wpTree P L Q t S a w.drew) : (Code.region id L.toArray true).wp P Q a w := by
  simp only [wholeB, Bool.and_eq_true, decide_eq_true_eq] at hB
  refine wp_region_held (S := S) hm ?_
  exact wpAnyH_le (by simpa using hB.1.2) (tree_sound hB.1.1 hQ t _ S a _ hB.2 hS h)
theorem tree_vals {is : List Nat} {t : Tree} {S : World → Prop} {a : Act} {w : World} (h : wpQuiet P L.toArray S (fun a' => wpTree P L Q t S a' w) (opsOf L is) a) : wpTree P L Q (.vals is t) S a w := h
theorem tree_late {j : Nat} {t : Tree} {S : World → Prop} {a : Act} {w : World} (h : wpList P L.toArray (LatePost Q S (wpTree P L Q t)) (opsOf L [j]) a w) : wpTree P L Q (.late j t) S a w := h
theorem tree_fork {i j : Nat} {t u : Tree} {S : World → Prop} {a : Act} {w : World} (h : wpTree P L Q (.late i t) S a w) (h' : wpTree P L Q (.late j u) S a w) : wpTree P L Q (.fork i j t u) S a w := ⟨h, h'⟩
theorem tree_done {S : World → Prop} {a : Act} {w : World} (h : Q .normal a w) : wpTree P L Q .done S a w := h
end
end Go.Proofs.Ytogoiikgiohlhaa
