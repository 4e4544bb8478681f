/- Which places are kept by which rules, in plain mathematics. No program stands here. -/
import Derived.Test.YtogoiikgiohlhaaSortMath
namespace Go.Proofs.Ytogoiikgiohlhaa.Ch
open Sm

variable {K : Int → Int}
instance (K : Int → Int) (x y : Int) : Decidable (Bef K x y) := by unfold Bef; infer_instance
/-- Rows of places, each ahead of those behind it. -/
abbrev Row (K : Int → Int) (l : List Int) : Prop := l.Pairwise (Bef K)
theorem Row.nodup {l : List Int} (h : Row K l) : l.Nodup := h.imp fun {x y} hb e => by subst e; exact Bef.irrefl hb
theorem row_unique {l m : List Int} (hl : Row K l) (hm : Row K m) (h : ∀ x, x ∈ l ↔ x ∈ m) : l = m := by
  induction l generalizing m with
  | nil =>
    cases m with
    | nil => rfl
    | cons y m => exact absurd ((h y).2 (List.mem_cons_self ..)) (by simp)
  | cons x l ih =>
    cases m with
    | nil => exact absurd ((h x).1 (List.mem_cons_self ..)) (by simp)
    | cons y m =>
      rw [Row, List.pairwise_cons] at hl hm
      have e : x = y := by
        rcases List.mem_cons.1 ((h x).1 (List.mem_cons_self ..)) with e | e
        · exact e
        · rcases List.mem_cons.1 ((h y).2 (List.mem_cons_self ..)) with e2 | e2
          · exact e2.symm
          · exact absurd ((hl.1 y e2).trans (hm.1 x e)) Bef.irrefl
      subst e
      rw [ih hl.2 hm.2 fun z => ?_]
      constructor
      · intro hz
        rcases List.mem_cons.1 ((h z).1 (List.mem_cons_of_mem _ hz)) with e | e
        · subst e; exact absurd (hl.1 z hz) Bef.irrefl
        · exact e
      · intro hz
        rcases List.mem_cons.1 ((h z).2 (List.mem_cons_of_mem _ hz)) with e | e
        · subst e; exact absurd (hm.1 z hz) Bef.irrefl
        · exact e

/-- One more place: ahead of all that are no later. -/
def ins (K : Int → Int) (x : Int) : List Int → List Int
  | [] => [x]
  | y :: l => if K y ≤ K x then x :: y :: l else y :: ins K x l
theorem mem_ins {x z : Int} {l : List Int} : z ∈ ins K x l ↔ z = x ∨ z ∈ l := by
  induction l with
  | nil => simp [ins]
  | cons y l ih =>
    unfold ins
    split
    · simp
    · simp [ih]; exact ⟨fun h => by rcases h with h | h | h <;> simp [h], fun h => by rcases h with h | h | h <;> simp [h]⟩
theorem row_ins {x : Int} {l : List Int} (h : Row K l) (hx : ∀ y, y ∈ l → y < x) : Row K (ins K x l) := by
  induction l with
  | nil => exact List.pairwise_singleton _ _
  | cons y l ih =>
    rw [Row, List.pairwise_cons] at h
    unfold ins
    split
    · rename_i hk
      rw [Row, List.pairwise_cons, List.pairwise_cons]
      have hy : Bef K x y := bef_of_le hk (hx y (List.mem_cons_self ..))
      refine ⟨fun z hz => ?_, h⟩
      rcases List.mem_cons.1 hz with e | e
      · rw [e]; exact hy
      · exact hy.trans (h.1 z e)
    · rename_i hk
      rw [Row, List.pairwise_cons]
      refine ⟨fun z hz => ?_, ih h.2 fun z hz => hx z (List.mem_cons_of_mem _ hz)⟩
      rcases mem_ins.1 hz with e | e
      · rw [e]; exact bef_of_lt (by omega)
      · exact h.1 z e
/-- The first n places, the latest first. -/
def order (K : Int → Int) : Nat → List Int
  | 0 => []
  | n + 1 => ins K n (order K n)
theorem mem_order {n : Nat} {x : Int} : x ∈ order K n ↔ 0 ≤ x ∧ x < n := by
  induction n with
  | zero => simp [order]; try omega
  | succ n ih => rw [order, mem_ins, ih]; omega
theorem row_order (n : Nat) : Row K (order K n) := by
  induction n with
  | zero => exact List.Pairwise.nil
  | succ n ih => exact row_ins ih fun y hy => (mem_order.1 hy).2
theorem length_ins (x : Int) (l : List Int) : (ins K x l).length = l.length + 1 := by
  induction l with
  | nil => rfl
  | cons y l ih => unfold ins; split <;> simp [ih]
theorem length_order (n : Nat) : (order K n).length = n := by
  induction n with
  | zero => rfl
  | succ n ih => rw [order, length_ins, ih]
/-- What a sort of all places has come to. -/
theorem order_of_sorted {d e : Nat → Int} {n : Nat} (hs : Sorted K e 0 n) (hd : ∀ i, i < n → 0 ≤ d i ∧ d i < n) (hall : ∀ x : Int, 0 ≤ x → x < n → ∃ i, i < n ∧ d i = x) (hz : Same d e 0 n) : (List.range n).map e = order K n := by
  refine row_unique (K := K) ?_ (row_order n) fun x => ?_
  · rw [Row, List.pairwise_map]
    refine List.pairwise_iff_getElem.2 fun i j hi hj hij => ?_
    rw [List.length_range] at hi hj
    rw [List.getElem_range, List.getElem_range]
    exact hs i j (by omega) hij hj
  · rw [mem_order, List.mem_map]
    constructor
    · rintro ⟨i, hi, rfl⟩
      rw [List.mem_range] at hi
      obtain ⟨j, _, j2, j3⟩ := hz.bwd i (by omega) hi
      rw [← j3]; exact hd j j2
    · rintro ⟨h1, h2⟩
      obtain ⟨i, i1, i2⟩ := hall x h1 h2
      obtain ⟨j, _, j2, j3⟩ := hz.fwd i (by omega) i1
      exact ⟨j, List.mem_range.2 j2, j3.trans i2⟩

/-! One rule. -/
/-- Whether a place begins a period. -/
def fresh (r0 : Bool) (P : Int → Int × Int) : Option Int → Int → Bool
  | none, _ => true
  | some y, x => r0 || decide (P x ≠ P y)
def by1 (r0 : Bool) (P : Int → Int × Int) : Option Int → List Int → Nat → List Int → List Int
  | _, [], _, k => k
  | p, x :: l, n, k => if n = 0 then k else if fresh r0 P p x && !(k.contains x) then by1 r0 P (some x) l (n - 1) (k ++ [x]) else by1 r0 P (some x) l n k
theorem by1_zero (r0 : Bool) (P : Int → Int × Int) (p : Option Int) (l k : List Int) : by1 r0 P p l 0 k = k := by cases l <;> simp [by1]
/-- What a rule leaves: what was kept is kept; of the row alone; no more than it says. -/
theorem by1_grows (r0 : Bool) (P : Int → Int × Int) (p : Option Int) (l : List Int) (n : Nat) (k : List Int) : ∃ t, by1 r0 P p l n k = k ++ t ∧ t.length ≤ n ∧ (∀ x, x ∈ t → x ∈ l) ∧ (k.Nodup → (k ++ t).Nodup) := by
  induction l generalizing p n k with
  | nil => exact ⟨[], by simp [by1], by simp, by simp, by simp⟩
  | cons x l ih =>
    unfold by1
    split
    · exact ⟨[], by simp, by simp, by simp, by simp⟩
    · split
      · rename_i h0 hf
        obtain ⟨t, h1, h2, h3, h4⟩ := ih (some x) (n - 1) (k ++ [x])
        refine ⟨x :: t, by rw [h1]; simp, by simp; omega, fun y hy => ?_, fun hk => ?_⟩
        · rcases List.mem_cons.1 hy with e | e
          · rw [e]; exact List.mem_cons_self ..
          · exact List.mem_cons_of_mem _ (h3 y e)
        · rw [show k ++ x :: t = (k ++ [x]) ++ t by simp]
          refine h4 ?_
          rw [List.nodup_append]
          simp at hf
          exact ⟨hk, by simp, fun a ha b hb => by simp at hb; subst hb; intro e; subst e; exact hf.2 ha⟩
      · obtain ⟨t, h1, h2, h3, h4⟩ := ih (some x) n k
        exact ⟨t, h1, h2, fun y hy => List.mem_cons_of_mem _ (h3 y hy), h4⟩
/-- The first rule keeps the first ones. -/
theorem by1_last (P : Int → Int × Int) (p : Option Int) (l : List Int) (n : Nat) (k : List Int) (hn : (k ++ l).Nodup) : by1 true P p l n k = k ++ l.take n := by
  induction l generalizing p n k with
  | nil => simp [by1]
  | cons x l ih =>
    unfold by1
    by_cases h0 : n = 0
    · simp [h0]
    · rw [if_neg h0]
      have hx : x ∉ k := fun hx => by
        rw [List.nodup_append] at hn
        exact hn.2.2 x hx x (List.mem_cons_self ..) rfl
      have hf : fresh true P p x = true := by cases p <;> simp [fresh]
      rw [hf, if_pos (by simp [hx]), ih (some x) (n - 1) (k ++ [x]) (by simpa using hn)]
      obtain ⟨m, rfl⟩ : ∃ m, n = m + 1 := ⟨n - 1, by omega⟩
      simp
/-- A rule with room for all keeps whatever begins a period. -/
theorem by1_all (P : Int → Int × Int) (p : Option Int) (l : List Int) (n : Nat) (k : List Int) (hn : (k ++ l).Nodup) (hl : l.length ≤ n) (x : Int) :
    x ∈ by1 false P p l n k ↔ x ∈ k ∨ ∃ i, ∃ h : i < l.length, l[i] = x ∧ fresh false P (if i = 0 then p else l[i - 1]?) x = true := by
  induction l generalizing p n k with
  | nil => simp [by1]
  | cons y l ih =>
    unfold by1
    rw [if_neg (by simp at hl; omega)]
    have hy : y ∉ k := fun hy => by
      rw [List.nodup_append] at hn
      exact hn.2.2 y hy y (List.mem_cons_self ..) rfl
    have key : (∃ i, ∃ h : i < (y :: l).length, (y :: l)[i] = x ∧ fresh false P (if i = 0 then p else (y :: l)[i - 1]?) x = true) ↔
        (y = x ∧ fresh false P p x = true) ∨ ∃ i, ∃ h : i < l.length, l[i] = x ∧ fresh false P (if i = 0 then some y else l[i - 1]?) x = true := by
      constructor
      · rintro ⟨i, h, h1, h2⟩
        cases i with
        | zero => left; exact ⟨h1, by simpa using h2⟩
        | succ i =>
          right
          refine ⟨i, by simpa using h, by simpa using h1, ?_⟩
          cases i with
          | zero => simpa using h2
          | succ i => simpa using h2
      · rintro (⟨h1, h2⟩ | ⟨i, h, h1, h2⟩)
        · exact ⟨0, by simp, by simpa using h1, by simpa using h2⟩
        · refine ⟨i + 1, by simpa using h, by simpa using h1, ?_⟩
          cases i with
          | zero => simpa using h2
          | succ i => simpa using h2
    rw [key]
    split
    · rename_i hf
      simp [hy] at hf
      rw [ih (some y) (n - 1) (k ++ [y]) (by simpa using hn) (by simp at hl; omega)]
      simp only [List.mem_append, List.mem_singleton]
      constructor
      · rintro ((h | h) | h)
        · exact .inl h
        · subst h; exact .inr (.inl ⟨rfl, hf⟩)
        · exact .inr (.inr h)
      · rintro (h | ⟨h, _⟩ | h)
        · exact .inl (.inl h)
        · exact .inl (.inr h.symm)
        · exact .inr h
    · rename_i hf
      simp [hy] at hf
      rw [ih (some y) n k (by rw [List.nodup_append] at hn ⊢; exact ⟨hn.1, (List.nodup_cons.1 hn.2.1).2, fun a ha b hb => hn.2.2 a ha b (List.mem_cons_of_mem _ hb)⟩) (by simp at hl; omega)]
      constructor
      · rintro (h | h)
        · exact .inl h
        · exact .inr (.inr h)
      · rintro (h | ⟨h, h2⟩ | h)
        · exact .inl h
        · subst h; rw [hf] at h2; cases h2
        · exact .inr h

/-! All rules. -/
/-- What the six rules keep: r from 0 on; the first one is 'the last ones'. -/
def rules (P : Nat → Int → Int × Int) (c : Nat → Nat) (o : List Int) : Nat → List Int
  | 0 => []
  | r + 1 => by1 (r == 0) (P r) none o (c r) (rules P c o r)
theorem rules_facts (P : Nat → Int → Int × Int) (c : Nat → Nat) (o : List Int) (r : Nat) : (rules P c o r).Nodup ∧ (∀ x, x ∈ rules P c o r → x ∈ o) := by
  induction r with
  | zero => exact ⟨List.nodup_nil, fun x hx => by cases hx⟩
  | succ r ih =>
    obtain ⟨t, h1, _, h3, h4⟩ := by1_grows (r == 0) (P r) none o (c r) (rules P c o r)
    rw [rules, h1]
    exact ⟨h4 ih.1, fun x hx => by rcases List.mem_append.1 hx with e | e; exact ih.2 x e; exact h3 x e⟩
def sumTo (c : Nat → Nat) : Nat → Nat
  | 0 => 0
  | r + 1 => sumTo c r + c r
theorem rules_len (P : Nat → Int → Int × Int) (c : Nat → Nat) (o : List Int) (r : Nat) : (rules P c o r).length ≤ sumTo c r := by
  induction r with
  | zero => simp [rules, sumTo]
  | succ r ih =>
    obtain ⟨t, h1, h2, _⟩ := by1_grows (r == 0) (P r) none o (c r) (rules P c o r)
    rw [rules, h1, List.length_append, sumTo]; omega
theorem rules_first (P : Nat → Int → Int × Int) (c : Nat → Nat) (o : List Int) (ho : o.Nodup) (r : Nat) (hr : 1 ≤ r) : ∃ t, rules P c o r = o.take (c 0) ++ t := by
  induction r with
  | zero => omega
  | succ r ih =>
    cases r with
    | zero => exact ⟨[], by simp only [rules]; rw [show ((0 : Nat) == 0) = true from rfl, by1_last _ _ _ _ _ (by simpa using ho)]; simp⟩
    | succ r =>
      obtain ⟨t, ht⟩ := ih (by omega)
      obtain ⟨u, h1, _⟩ := by1_grows (r + 1 == 0) (P (r + 1)) none o (c (r + 1)) (rules P c o (r + 1))
      exact ⟨t ++ u, by rw [rules, h1, ht, List.append_assoc]⟩
/-- Those that are kept, rising. -/
def chosen (n : Nat) (k : List Int) : List Int := ((List.range n).map fun i : Nat => (i : Int)).filter fun x => k.contains x
theorem mem_chosen {n : Nat} {k : List Int} {x : Int} : x ∈ chosen n k ↔ (0 ≤ x ∧ x < n) ∧ x ∈ k := by
  unfold chosen
  rw [List.mem_filter, List.mem_map]
  simp only [List.mem_range, List.contains_iff_mem]
  constructor
  · rintro ⟨⟨i, h1, rfl⟩, h2⟩; exact ⟨by omega, h2⟩
  · rintro ⟨h1, h2⟩; exact ⟨⟨x.toNat, by omega, by omega⟩, h2⟩
theorem chosen_rising (n : Nat) (k : List Int) : (chosen n k).Pairwise (· < ·) := by
  refine List.Pairwise.filter _ ?_
  rw [List.pairwise_map]
  exact List.pairwise_lt_range.imp fun {a b} h => by omega
theorem chosen_perm {n : Nat} {k : List Int} (hk : k.Nodup) (hb : ∀ x, x ∈ k → 0 ≤ x ∧ x < n) : (chosen n k).Perm k := by
  rw [List.perm_ext_iff_of_nodup ((chosen_rising n k).imp fun {a b} h e => by omega) hk]
  intro x
  rw [mem_chosen]
  exact ⟨fun h => h.2, fun h => ⟨hb x h, h⟩⟩
section
variable (P : Nat → Int → Int × Int) (c : Nat → Nat) (n : Nat)
abbrev kept (K : Int → Int) : List Int := rules P c (order K n) 6
theorem kept_perm : (chosen n (kept P c n K)).Perm (kept P c n K) := by
  obtain ⟨h1, h2⟩ := rules_facts P c (order K n) 6
  exact chosen_perm h1 fun x hx => mem_order.1 (h2 x hx)
theorem chosen_len : (chosen n (kept P c n K)).length ≤ sumTo c 6 ∧ (chosen n (kept P c n K)).length ≤ n ∧ min (c 0) n ≤ (chosen n (kept P c n K)).length := by
  have hp := (kept_perm P c n (K := K)).length_eq
  refine ⟨by rw [hp]; exact rules_len .., ?_, ?_⟩
  · have := List.length_filter_le (fun x => (kept P c n K).contains x) ((List.range n).map fun i : Nat => (i : Int))
    rw [List.length_map, List.length_range] at this
    exact this
  · obtain ⟨t, ht⟩ := rules_first P c (order K n) (row_order n).nodup 6 (by omega)
    rw [hp, kept, ht, List.length_append, List.length_take, length_order]
    omega
/-- How many are later than a place. -/
def later (K : Int → Int) (n : Nat) (x : Int) : Nat := ((List.range n).map fun i : Nat => (i : Int)).countP fun y => decide (Bef K y x)
theorem range_perm : ((List.range n).map fun i : Nat => (i : Int)).Perm (order K n) := by
  rw [List.perm_ext_iff_of_nodup ?_ (row_order n).nodup]
  · intro x
    rw [mem_order, List.mem_map]
    exact ⟨fun ⟨i, h, e⟩ => by rw [List.mem_range] at h; omega, fun h => ⟨x.toNat, List.mem_range.2 (by omega), by omega⟩⟩
  · rw [List.Nodup, List.pairwise_map]
    exact List.pairwise_lt_range.imp fun {a b} h => by omega
theorem later_kept {x : Int} (h0 : 0 ≤ x) (h1 : x < n) (hl : later K n x < c 0) : x ∈ kept P c n K := by
  obtain ⟨t, ht⟩ := rules_first P c (order K n) (row_order n).nodup 6 (by omega)
  rw [kept, ht, List.mem_append]
  left
  have hx : x ∈ order K n := mem_order.2 ⟨h0, h1⟩
  by_cases hc : n ≤ c 0
  · rw [List.take_of_length_le (by rw [length_order]; exact hc)]; exact hx
  · rw [later, (range_perm n).countP_eq, ← List.take_append_drop (c 0) (order K n), List.countP_append] at hl
    rw [← List.take_append_drop (c 0) (order K n), List.mem_append] at hx
    refine hx.resolve_right fun hd => ?_
    have hr := row_order (K := K) n
    rw [Row, ← List.take_append_drop (c 0) (order K n), List.pairwise_append] at hr
    have hall := (List.countP_eq_length (l := (order K n).take (c 0)) (p := fun y => decide (Bef K y x))).2 fun y hy => decide_eq_true (hr.2.2 y hy x hd)
    rw [hall, List.length_take, length_order] at hl
    omega
/-- By one rule alone with room for all: the latest of each period. -/
theorem each_kept (r : Nat) (h1 : 1 ≤ r) (h5 : r ≤ 5) (hconv : ∀ x y z : Int, K z ≤ K y → K y ≤ K x → P r x = P r z → P r y = P r z) (x : Int) :
    x ∈ kept P (fun i => if i = r then n else 0) n K ↔ (0 ≤ x ∧ x < n) ∧ ∀ y : Int, 0 ≤ y → y < n → P r y = P r x → ¬ Bef K y x := by
  have hk : kept P (fun i => if i = r then n else 0) n K = by1 false (P r) none (order K n) n [] := by
    have hr : r = 1 ∨ r = 2 ∨ r = 3 ∨ r = 4 ∨ r = 5 := by omega
    rcases hr with rfl | rfl | rfl | rfl | rfl <;> simp [kept, rules, by1_zero]
  rw [hk, by1_all (P r) none (order K n) n [] (by simpa using (row_order n).nodup) (by rw [length_order]; exact Nat.le_refl _)]
  have hr := List.pairwise_iff_getElem.1 (row_order (K := K) n)
  constructor
  · rintro (h | ⟨i, hi, rfl, hf⟩)
    · cases h
    · refine ⟨mem_order.1 (List.getElem_mem hi), fun y y0 y1 hP hB => ?_⟩
      obtain ⟨j, hj, rfl⟩ := List.getElem_of_mem (mem_order (K := K).2 ⟨y0, y1⟩)
      have hji : j < i := by
        rcases Nat.lt_trichotomy j i with h | h | h
        · exact h
        · subst h; exact absurd hB Bef.irrefl
        · exact absurd (hB.trans (hr i j hi hj h)) Bef.irrefl
      rw [if_neg (by omega), List.getElem?_eq_getElem (by omega)] at hf
      simp only [fresh, Bool.false_or, decide_eq_true_eq] at hf
      refine hf (hconv (order K n)[j] _ _ ?_ ?_ hP).symm
      · exact (hr (i - 1) i (by omega) hi (by omega)).le
      · by_cases e : j = i - 1
        · subst e; exact Int.le_refl _
        · exact (hr j (i - 1) hj (by omega) (by omega)).le
  · rintro ⟨h, hno⟩
    right
    obtain ⟨i, hi, rfl⟩ := List.getElem_of_mem (mem_order (K := K).2 h)
    refine ⟨i, hi, rfl, ?_⟩
    by_cases e : i = 0
    · rw [if_pos e]; rfl
    · rw [if_neg e, List.getElem?_eq_getElem (by omega)]
      simp only [fresh, Bool.false_or, decide_eq_true_eq]
      intro hP
      have hm := mem_order.1 (List.getElem_mem (show i - 1 < (order K n).length by omega))
      exact hno _ hm.1 hm.2 hP.symm (hr (i - 1) i (by omega) hi (by omega))
end
end Go.Proofs.Ytogoiikgiohlhaa.Ch
