/- Open addressing, in plain mathematics: where a search ends, what a table has, how it goes on. -/
import Derived.ProofKit
namespace Go.Proofs.Ytahmnpbfjfllmaa.Tab

structure Slot (V : Type) where
  st : Nat
  key : List (BitVec 8)
  val : V
/-- How many of the first c places. -/
def cnt (P : Nat → Bool) : Nat → Nat
  | 0 => 0
  | c + 1 => cnt P c + (if P c then 1 else 0)
theorem cnt_le (P : Nat → Bool) (c : Nat) : cnt P c ≤ c := by
  induction c with
  | zero => exact Nat.le_refl _
  | succ c ih => unfold cnt; split <;> omega
theorem cnt_congr {P Q : Nat → Bool} {c : Nat} (h : ∀ i, i < c → P i = Q i) : cnt P c = cnt Q c := by
  induction c with
  | zero => rfl
  | succ c ih => unfold cnt; rw [ih fun i hi => h i (by omega), h c (by omega)]
theorem cnt_without {P : Nat → Bool} {c p : Nat} (hp : p < c) (h : P p = true) : cnt (fun i => P i && i != p) c + 1 = cnt P c := by
  induction c with
  | zero => omega
  | succ c ih =>
    unfold cnt
    by_cases e : p = c
    · subst e
      rw [cnt_congr (Q := P) fun i hi => by simp; intro _; omega, h]
      simp
    · have := ih (by omega)
      have e2 : (P c && c != p) = P c := by simp; intro _; omega
      rw [e2]
      omega
theorem cnt_with {P Q : Nat → Bool} {c p : Nat} (hp : p < c) (h : ∀ i, i < c → i ≠ p → P i = Q i) : cnt P c + (if Q p then 1 else 0) = cnt Q c + (if P p then 1 else 0) := by
  induction c with
  | zero => omega
  | succ c ih =>
    unfold cnt
    by_cases e : p = c
    · subst e
      rw [cnt_congr (P := P) (Q := Q) fun i hi => h i (by omega) (by omega)]
      omega
    · have := ih (by omega) fun i hi hn => h i (by omega) hn
      rw [h c (by omega) (by omega)]
      omega
theorem cnt_pos {P : Nat → Bool} {c : Nat} (h : 0 < cnt P c) : ∃ p, p < c ∧ P p = true := by
  induction c with
  | zero => simp [cnt] at h
  | succ c ih =>
    unfold cnt at h
    by_cases e : P c = true
    · exact ⟨c, by omega, e⟩
    · rw [if_neg e] at h
      obtain ⟨p, h1, h2⟩ := ih (by omega)
      exact ⟨p, by omega, h2⟩
theorem cnt_not (P : Nat → Bool) (c : Nat) : cnt P c + cnt (fun i => !P i) c = c := by
  induction c with
  | zero => rfl
  | succ c ih => unfold cnt; cases h : P c <;> simp <;> omega
theorem cnt_add {P Q R : Nat → Bool} {c : Nat} (h : ∀ i, i < c → (R i = (P i || Q i)) ∧ ¬ (P i = true ∧ Q i = true)) : cnt R c = cnt P c + cnt Q c := by
  induction c with
  | zero => rfl
  | succ c ih =>
    unfold cnt
    rw [ih fun i hi => h i (by omega)]
    obtain ⟨h1, h2⟩ := h c (by omega)
    rw [h1]
    cases hP : P c <;> cases hQ : Q c <;> simp_all <;> omega
/-- So many places that differ: no fewer are counted. -/
theorem pigeon (f : Nat → Nat) (c : Nat) : ∀ (j : Nat) (P : Nat → Bool), (∀ a b, a < j → b < j → f a = f b → a = b) → (∀ a, a < j → f a < c ∧ P (f a) = true) → j ≤ cnt P c := by
  intro j
  induction j with
  | zero => intros; omega
  | succ j ih =>
    intro P hi hp
    obtain ⟨h1, h2⟩ := hp j (by omega)
    have := ih (fun i => P i && i != f j) (fun a b ha hb => hi a b (by omega) (by omega)) fun a ha => by
      obtain ⟨q1, q2⟩ := hp a (by omega)
      refine ⟨q1, ?_⟩
      rw [q2]
      simp
      intro e
      have := hi a j (by omega) (by omega) e
      omega
    have := cnt_without h1 h2
    omega
section
variable {V : Type}
def num (k : List (BitVec 8)) : Nat := ((((k.getD 0 0#8).setWidth 32 ||| (k.getD 1 0#8).setWidth 32 <<< 8) ||| (k.getD 2 0#8).setWidth 32 <<< 16) ||| (k.getD 3 0#8).setWidth 32 <<< 24 : BitVec 32).toNat
def place (k : List (BitVec 8)) (c j : Nat) : Nat := (num k + j) % c
theorem place_lt (k : List (BitVec 8)) {c : Nat} (h : 0 < c) (j : Nat) : place k c j < c := Nat.mod_lt _ h
theorem place_next (k : List (BitVec 8)) (c j : Nat) : place k c (j + 1) = (place k c j + 1) % c := by
  unfold place
  rw [← Nat.add_assoc, Nat.add_mod (num k + j) 1, Nat.add_mod ((num k + j) % c) 1, Nat.mod_mod]
theorem place_inj (k : List (BitVec 8)) {c a b : Nat} (ha : a < c) (hb : b < c) (h : place k c a = place k c b) : a = b := by
  unfold place at h
  have h1 := Nat.div_add_mod (num k + a) c
  have h2 := Nat.div_add_mod (num k + b) c
  rw [h] at h1
  generalize (num k + a) / c = x at *
  generalize (num k + b) / c = y at *
  rcases Nat.lt_trichotomy x y with e | e | e
  · obtain ⟨d, rfl⟩ := Nat.exists_eq_add_of_lt e
    rw [show c * (x + d + 1) = c * x + c * d + c by rw [Nat.mul_add, Nat.mul_add]; omega] at h2
    have : 0 ≤ c * d := Nat.zero_le _
    omega
  · subst e; omega
  · obtain ⟨d, rfl⟩ := Nat.exists_eq_add_of_lt e
    rw [show c * (y + d + 1) = c * y + c * d + c by rw [Nat.mul_add, Nat.mul_add]; omega] at h1
    have : 0 ≤ c * d := Nat.zero_le _
    omega
theorem onto_aux (x c p : Nat) (hx : x < c) (h : p < c) : (x + (p + c - x) % c) % c = p := by
  rcases Nat.lt_or_ge p x with e | e
  · rw [Nat.mod_eq_of_lt (a := p + c - x) (by omega)]
    rw [show x + (p + c - x) = p + c by omega, Nat.add_mod_right, Nat.mod_eq_of_lt h]
  · rw [show p + c - x = (p - x) + c by omega, Nat.add_mod_right, Nat.mod_eq_of_lt (a := p - x) (by omega)]
    rw [show x + (p - x) = p by omega, Nat.mod_eq_of_lt h]
theorem place_onto (k : List (BitVec 8)) {c p : Nat} (h : p < c) : ∃ j, j < c ∧ place k c j = p := by
  refine ⟨(p + c - num k % c) % c, Nat.mod_lt _ (by omega), ?_⟩
  unfold place
  rw [← Nat.mod_add_mod]
  exact onto_aux _ _ _ (Nat.mod_lt _ (by omega)) h
/-- A search for k ends here. -/
def stop (S : Nat → Slot V) (k : List (BitVec 8)) (p : Nat) : Prop := (S p).st = 0 ∨ (S p).st = 1 ∧ (S p).key = k
/-- It ends behind so many slots. -/
def Found (S : Nat → Slot V) (c : Nat) (k : List (BitVec 8)) (j : Nat) : Prop := j < c ∧ (∀ i, i < j → ¬ stop S k (place k c i)) ∧ stop S k (place k c j)
structure Inv (S : Nat → Slot V) (c : Nat) : Prop where
  reach : ∀ p, p < c → (S p).st = 1 → ∃ j, Found S c (S p).key j ∧ place (S p).key c j = p
  room : ∃ p, p < c ∧ (S p).st = 0
  sts : ∀ p, p < c → (S p).st ≤ 2
def Has (S : Nat → Slot V) (c : Nat) (k : List (BitVec 8)) (v : V) : Prop := ∃ p, p < c ∧ (S p).st = 1 ∧ (S p).key = k ∧ (S p).val = v
def put (S : Nat → Slot V) (p : Nat) (s : Slot V) : Nat → Slot V := fun i => if i = p then s else S i
theorem put_same (S : Nat → Slot V) (p : Nat) (s : Slot V) : put S p s p = s := by simp [put]
theorem put_other (S : Nat → Slot V) (p : Nat) (s : Slot V) {i : Nat} (h : i ≠ p) : put S p s i = S i := by simp [put, h]
def fulls (S : Nat → Slot V) (c : Nat) : Nat := cnt (fun i => (S i).st == 1) c
def deads (S : Nat → Slot V) (c : Nat) : Nat := cnt (fun i => (S i).st == 2) c
variable {S : Nat → Slot V} {c : Nat} {k : List (BitVec 8)} {j : Nat}
theorem Found.unique {j' : Nat} (h : Found S c k j) (h' : Found S c k j') : j = j' := by
  rcases Nat.lt_trichotomy j j' with e | e | e
  · exact (h'.2.1 j e h.2.2).elim
  · exact e
  · exact (h.2.1 j' e h'.2.2).elim
theorem found_of_stop (n : Nat) : n < c → stop S k (place k c n) → ∃ j, Found S c k j := by
  induction n using Nat.strongRecOn with
  | ind n ih =>
    intro hn hs
    by_cases h : ∃ i, i < n ∧ stop S k (place k c i)
    · obtain ⟨i, hi, h2⟩ := h
      exact ih i hi (by omega) h2
    · exact ⟨n, hn, fun i hi h2 => h ⟨i, hi, h2⟩, hs⟩
theorem found_of_room (h : ∃ p, p < c ∧ (S p).st = 0) (k : List (BitVec 8)) : ∃ j, Found S c k j := by
  obtain ⟨p, hp, he⟩ := h
  obtain ⟨j, hj, e⟩ := place_onto k hp
  exact found_of_stop j hj (.inl (by rw [e]; exact he))
theorem Inv.at (h : Inv S c) (hf : Found S c k j) {p : Nat} (hp : p < c) (h1 : (S p).st = 1) (hk : (S p).key = k) : p = place k c j := by
  obtain ⟨j', h2, e⟩ := h.reach p hp h1
  rw [hk] at h2 e
  rw [← e, hf.unique h2]
theorem Found.full (hf : Found S c k j) (h1 : (S (place k c j)).st = 1) : (S (place k c j)).key = k := by
  rcases hf.2.2 with e | e
  · omega
  · exact e.2
theorem Inv.hit (h : Inv S c) (hf : Found S c k j) (h1 : (S (place k c j)).st = 1) (v : V) : Has S c k v ↔ v = (S (place k c j)).val := by
  constructor
  · rintro ⟨p, hp, e1, e2, e3⟩
    rw [← h.at hf hp e1 e2, e3]
  · intro e
    exact ⟨_, place_lt k (by have := hf.1; omega) j, h1, hf.full h1, e.symm⟩
theorem Inv.miss (h : Inv S c) (hf : Found S c k j) (h1 : (S (place k c j)).st ≠ 1) (v : V) : ¬ Has S c k v := by
  rintro ⟨p, hp, e1, e2, e3⟩
  rw [h.at hf hp e1 e2] at e1
  exact h1 e1
theorem Inv.put (h : Inv S c) (hf : Found S c k j) (v : V) (hr : ∃ q, q < c ∧ q ≠ place k c j ∧ (S q).st = 0) :
    Inv (put S (place k c j) ⟨1, k, v⟩) c ∧ ∀ k' v', Has (Tab.put S (place k c j) ⟨1, k, v⟩) c k' v' ↔ (k' = k ∧ v' = v) ∨ (k' ≠ k ∧ Has S c k' v') := by
  have hp := place_lt k (c := c) (by have := hf.1; omega) j
  refine ⟨⟨fun q hq h1 => ?_, ?_, fun q hq => ?_⟩, fun k' v' => ?_⟩
  · by_cases e : q = place k c j
    · subst e
      rw [put_same]
      refine ⟨j, ⟨hf.1, fun i hi hs => ?_, .inr (by rw [put_same]; exact ⟨rfl, rfl⟩)⟩, rfl⟩
      have hn : place k c i ≠ place k c j := fun e2 => by
        have := place_inj k (by have := hf.1; omega) hf.1 e2
        omega
      unfold stop at hs
      rw [put_other _ _ _ hn] at hs
      exact hf.2.1 i hi hs
    · rw [put_other _ _ _ e] at h1 ⊢
      obtain ⟨j', hf', e'⟩ := h.reach q hq h1
      refine ⟨j', ⟨hf'.1, fun i hi hs => ?_, ?_⟩, e'⟩
      · unfold stop at hs
        by_cases e2 : place (S q).key c i = place k c j
        · rw [e2, put_same] at hs
          rcases hs with hs | hs
          · cases hs
          · exact e (h.at hf hq h1 hs.2.symm)
        · rw [put_other _ _ _ e2] at hs
          exact hf'.2.1 i hi hs
      · unfold stop
        rw [e', put_other _ _ _ e]
        exact .inr ⟨h1, rfl⟩
  · obtain ⟨q, h1, h2, h3⟩ := hr
    exact ⟨q, h1, by rw [put_other _ _ _ h2]; exact h3⟩
  · by_cases e : q = place k c j
    · subst e; rw [put_same]; show 1 ≤ 2; omega
    · rw [put_other _ _ _ e]; exact h.sts q hq
  · constructor
    · rintro ⟨q, hq, e1, e2, e3⟩
      by_cases e : q = place k c j
      · subst e; rw [put_same] at e2 e3; exact .inl ⟨e2.symm, e3.symm⟩
      · rw [put_other _ _ _ e] at e1 e2 e3
        exact .inr ⟨fun e4 => e (h.at hf hq e1 (e2.trans e4)), q, hq, e1, e2, e3⟩
    · rintro (⟨rfl, rfl⟩ | ⟨hn, q, hq, e1, e2, e3⟩)
      · exact ⟨_, hp, by rw [put_same]; exact ⟨rfl, rfl, rfl⟩⟩
      · have e : q ≠ place k c j := fun e => by
          subst e
          exact hn (e2.symm.trans (hf.full e1))
        exact ⟨q, hq, by rw [put_other _ _ _ e]; exact ⟨e1, e2, e3⟩⟩
theorem Inv.del (h : Inv S c) (hf : Found S c k j) (h0 : (S (place k c j)).st = 1) (z : List (BitVec 8)) (v : V) :
    Inv (Tab.put S (place k c j) ⟨2, z, v⟩) c ∧ ∀ k' v', Has (Tab.put S (place k c j) ⟨2, z, v⟩) c k' v' ↔ k' ≠ k ∧ Has S c k' v' := by
  have hp := place_lt k (c := c) (by have := hf.1; omega) j
  refine ⟨⟨fun q hq h1 => ?_, ?_, fun q hq => ?_⟩, fun k' v' => ?_⟩
  · by_cases e : q = place k c j
    · subst e; rw [put_same] at h1; cases h1
    · rw [put_other _ _ _ e] at h1 ⊢
      obtain ⟨j', hf', e'⟩ := h.reach q hq h1
      refine ⟨j', ⟨hf'.1, fun i hi hs => ?_, ?_⟩, e'⟩
      · unfold stop at hs
        by_cases e2 : place (S q).key c i = place k c j
        · rw [e2, put_same] at hs
          rcases hs with hs | hs
          · cases hs
          · cases hs.1
        · rw [put_other _ _ _ e2] at hs
          exact hf'.2.1 i hi hs
      · unfold stop
        rw [e', put_other _ _ _ e]
        exact .inr ⟨h1, rfl⟩
  · obtain ⟨q, h1, h2⟩ := h.room
    have e : q ≠ place k c j := fun e => by subst e; omega
    exact ⟨q, h1, by rw [put_other _ _ _ e]; exact h2⟩
  · by_cases e : q = place k c j
    · subst e; rw [put_same]; exact Nat.le_refl _
    · rw [put_other _ _ _ e]; exact h.sts q hq
  · constructor
    · rintro ⟨q, hq, e1, e2, e3⟩
      by_cases e : q = place k c j
      · subst e; rw [put_same] at e1; cases e1
      · rw [put_other _ _ _ e] at e1 e2 e3
        exact ⟨fun e4 => e (h.at hf hq e1 (e2.trans e4)), q, hq, e1, e2, e3⟩
    · rintro ⟨hn, q, hq, e1, e2, e3⟩
      have e : q ≠ place k c j := fun e => by
        subst e
        exact hn (e2.symm.trans (hf.full e1))
      exact ⟨q, hq, by rw [put_other _ _ _ e]; exact ⟨e1, e2, e3⟩⟩
theorem used (h : ∀ p, p < c → (S p).st ≤ 2) : cnt (fun i => (S i).st != 0) c = fulls S c + deads S c := by
  refine cnt_add fun i hi => ?_
  have := h i hi
  generalize (S i).st = x at *
  have e : x = 0 ∨ x = 1 ∨ x = 2 := by omega
  rcases e with rfl | rfl | rfl <;> simp
theorem Found.steps (hf : Found S c k j) (h : ∀ p, p < c → (S p).st ≤ 2) : j ≤ fulls S c + deads S c := by
  rw [← used h]
  refine pigeon (place k c) c j _ (fun a b ha hb e => place_inj k (by have := hf.1; omega) (by have := hf.1; omega) e) fun a ha => ⟨place_lt k (by have := hf.1; omega) a, ?_⟩
  simp
  intro e
  exact hf.2.1 a ha (.inl e)
theorem room_other (h : ∀ p, p < c → (S p).st ≤ 2) (hc : fulls S c + deads S c + 1 < c) (p : Nat) : ∃ q, q < c ∧ q ≠ p ∧ (S q).st = 0 := by
  have h1 := used h
  have h2 := cnt_not (fun i => (S i).st != 0) c
  have h3 : 0 < cnt (fun i => (!((S i).st != 0)) && i != p) c := by
    rcases Nat.lt_or_ge p c with hp | hp
    · by_cases e : (!((S p).st != 0)) = true
      · have : cnt (fun i => (!((S i).st != 0)) && i != p) c + 1 = cnt (fun i => !((S i).st != 0)) c := cnt_without (P := fun i => !((S i).st != 0)) hp e
        omega
      · rw [cnt_congr (Q := fun i => !((S i).st != 0)) fun i hi => by
          by_cases e2 : i = p
          · subst e2; simpa using e
          · simp [e2]]
        omega
    · rw [cnt_congr (Q := fun i => !((S i).st != 0)) fun i hi => by
        have e2 : i ≠ p := by omega
        simp [e2]]
      omega
  obtain ⟨q, hq, e⟩ := cnt_pos h3
  simp at e
  exact ⟨q, hq, e.2, e.1⟩
theorem room_of_count (h : ∀ p, p < c → (S p).st ≤ 2) (hc : fulls S c + deads S c < c) : ∃ q, q < c ∧ (S q).st = 0 := by
  have h1 := used h
  have h2 := cnt_not (fun i => (S i).st != 0) c
  obtain ⟨q, hq, e⟩ := cnt_pos (P := fun i => !((S i).st != 0)) (c := c) (by omega)
  simp at e
  exact ⟨q, hq, e⟩
theorem fulls_put (S : Nat → Slot V) {c p : Nat} (hp : p < c) (s : Slot V) : fulls (Tab.put S p s) c + (if (S p).st == 1 then 1 else 0) = fulls S c + (if s.st == 1 then 1 else 0) := by
  have := cnt_with (P := fun i => (Tab.put S p s i).st == 1) (Q := fun i => (S i).st == 1) hp fun i hi hn => by simp only [put_other _ _ _ hn]
  simp only [put_same] at this
  exact this
theorem deads_put (S : Nat → Slot V) {c p : Nat} (hp : p < c) (s : Slot V) : deads (Tab.put S p s) c + (if (S p).st == 2 then 1 else 0) = deads S c + (if s.st == 2 then 1 else 0) := by
  have := cnt_with (P := fun i => (Tab.put S p s i).st == 2) (Q := fun i => (S i).st == 2) hp fun i hi hn => by simp only [put_other _ _ _ hn]
  simp only [put_same] at this
  exact this
theorem Inv.putSame (h : Inv S c) (hf : Found S c k j) (h1 : (S (place k c j)).st = 1) (v : V) :
    Inv (Tab.put S (place k c j) ⟨1, k, v⟩) c ∧ (∀ k' v', Has (Tab.put S (place k c j) ⟨1, k, v⟩) c k' v' ↔ (k' = k ∧ v' = v) ∨ (k' ≠ k ∧ Has S c k' v')) ∧
      fulls (Tab.put S (place k c j) ⟨1, k, v⟩) c = fulls S c ∧ deads (Tab.put S (place k c j) ⟨1, k, v⟩) c = deads S c := by
  have hp := place_lt k (c := c) (by have := hf.1; omega) j
  obtain ⟨q, hq, e⟩ := h.room
  obtain ⟨a1, a2⟩ := h.put hf v ⟨q, hq, fun e2 => by subst e2; omega, e⟩
  have f1 := fulls_put S hp ⟨1, k, v⟩
  have f2 := deads_put S hp ⟨1, k, v⟩
  rw [h1] at f1 f2
  simp at f1 f2
  exact ⟨a1, a2, f1, f2⟩
theorem Found.none (hf : Found S c k j) (h1 : (S (place k c j)).st ≠ 1) : (S (place k c j)).st = 0 := by
  rcases hf.2.2 with e | e
  · exact e
  · exact (h1 e.1).elim
theorem Inv.putNew (h : Inv S c) (hf : Found S c k j) (h1 : (S (place k c j)).st ≠ 1) (hc : fulls S c + deads S c + 1 < c) (v : V) :
    Inv (Tab.put S (place k c j) ⟨1, k, v⟩) c ∧ (∀ k' v', Has (Tab.put S (place k c j) ⟨1, k, v⟩) c k' v' ↔ (k' = k ∧ v' = v) ∨ (k' ≠ k ∧ Has S c k' v')) ∧
      fulls (Tab.put S (place k c j) ⟨1, k, v⟩) c = fulls S c + 1 ∧ deads (Tab.put S (place k c j) ⟨1, k, v⟩) c = deads S c := by
  have hp := place_lt k (c := c) (by have := hf.1; omega) j
  have h0 := hf.none h1
  obtain ⟨a1, a2⟩ := h.put hf v (room_other h.sts hc _)
  have f1 := fulls_put S hp ⟨1, k, v⟩
  have f2 := deads_put S hp ⟨1, k, v⟩
  rw [h0] at f1 f2
  simp at f1 f2
  exact ⟨a1, a2, f1, f2⟩
theorem Inv.delSlot (h : Inv S c) (hf : Found S c k j) (h1 : (S (place k c j)).st = 1) (z : List (BitVec 8)) (v : V) :
    Inv (Tab.put S (place k c j) ⟨2, z, v⟩) c ∧ (∀ k' v', Has (Tab.put S (place k c j) ⟨2, z, v⟩) c k' v' ↔ k' ≠ k ∧ Has S c k' v') ∧
      fulls (Tab.put S (place k c j) ⟨2, z, v⟩) c + 1 = fulls S c ∧ deads (Tab.put S (place k c j) ⟨2, z, v⟩) c = deads S c + 1 := by
  have hp := place_lt k (c := c) (by have := hf.1; omega) j
  obtain ⟨a1, a2⟩ := h.del hf h1 z v
  have f1 := fulls_put S hp ⟨2, z, v⟩
  have f2 := deads_put S hp ⟨2, z, v⟩
  rw [h1] at f1 f2
  simp at f1 f2
  exact ⟨a1, a2, f1, f2⟩
/-- A table made anew, so far. -/
structure Part (S : Nat → Slot V) (i : Nat) (T : Nat → Slot V) (c : Nat) : Prop where
  inv : Inv T c
  has : ∀ k v, Has T c k v ↔ Has S i k v
  nf : fulls T c = fulls S i
  nd : deads T c = 0
theorem cnt_none {P : Nat → Bool} {c : Nat} (h : ∀ i, i < c → P i = false) : cnt P c = 0 := by
  induction c with
  | zero => rfl
  | succ c ih => unfold cnt; rw [ih fun i hi => h i (by omega), h c (by omega)]; rfl
theorem inv_empty (z : Slot V) (hz : z.st = 0) {c : Nat} (hc : 0 < c) : Inv (fun _ => z) c := ⟨fun p hp h => absurd (hz.symm.trans h) (by decide), ⟨0, hc, hz⟩, fun p hp => (show z.st ≤ 2 by omega)⟩
theorem has_empty (z : Slot V) (hz : z.st = 0) (c : Nat) (k : List (BitVec 8)) (v : V) : ¬ Has (fun _ => z) c k v := by
  rintro ⟨p, _, h, _⟩
  simp only [hz] at h
  cases h
theorem part_start (S : Nat → Slot V) (z : Slot V) (hz : z.st = 0) {c : Nat} (hc : 0 < c) : Part S 0 (fun _ => z) c :=
  ⟨inv_empty z hz hc, fun k v => ⟨fun h => (has_empty z hz c k v h).elim, fun ⟨p, hp, _⟩ => by omega⟩, cnt_none fun i hi => by simp only [hz]; rfl, cnt_none fun i hi => by simp only [hz]; rfl⟩
theorem Part.skip {T : Nat → Slot V} {i c : Nat} (h : Part S i T c) (hi : (S i).st ≠ 1) : Part S (i + 1) T c := by
  refine ⟨h.inv, fun k v => (h.has k v).trans ⟨?_, ?_⟩, ?_, h.nd⟩
  · rintro ⟨p, hp, h2⟩
    exact ⟨p, by omega, h2⟩
  · rintro ⟨p, hp, h2⟩
    rcases Nat.lt_or_ge p i with e | e
    · exact ⟨p, e, h2⟩
    · obtain rfl : p = i := by omega
      exact (hi h2.1).elim
  · rw [h.nf]
    unfold fulls
    rw [cnt]
    simp [hi]
/-- A full slot goes over: its search ends at an empty one. -/
theorem Part.empty {T : Nat → Slot V} {i c c' : Nat} (hS : Inv S c') (hi : i < c') (h : Part S i T c) (h1 : (S i).st = 1) (hf : Found T c (S i).key j) : (T (place (S i).key c j)).st = 0 := by
  rcases hf.2.2 with e | e
  · exact e
  · exfalso
    have hh : Has T c (S i).key (T (place (S i).key c j)).val := ⟨_, place_lt _ (by have := hf.1; omega) _, e.1, e.2, rfl⟩
    obtain ⟨p, hp, e1, e2, _⟩ := (h.has _ _).1 hh
    obtain ⟨j1, f1, q1⟩ := hS.reach i hi h1
    have := hS.at f1 (by omega) e1 e2
    omega
theorem Part.take {T : Nat → Slot V} {i c c' : Nat} (hS : Inv S c') (hi : i < c') (h : Part S i T c) (h1 : (S i).st = 1) (hf : Found T c (S i).key j) (hc : fulls S c' < c) :
    Part S (i + 1) (Tab.put T (place (S i).key c j) (S i)) c := by
  have h0 := h.empty hS hi h1 hf
  have hp := place_lt (S i).key (c := c) (by have := hf.1; omega) j
  have hmono : ∀ n m, n ≤ m → fulls S n ≤ fulls S m := fun n m hnm => by
    induction hnm with
    | refl => exact Nat.le_refl _
    | step _ ih => exact Nat.le_trans ih (by unfold fulls; rw [cnt]; omega)
  have hs1 : fulls S (i + 1) = fulls S i + 1 := by
    unfold fulls
    rw [cnt]
    simp [h1]
  have hle := hmono (i + 1) c' (by omega)
  have hnn : ∀ v, ¬ Has S i (S i).key v := fun v hh => by
    obtain ⟨p, hp, e1, e2, _⟩ := hh
    obtain ⟨j1, f1, q1⟩ := hS.reach i hi h1
    have := hS.at f1 (by omega) e1 e2
    omega
  have he : (S i) = ⟨1, (S i).key, (S i).val⟩ := by
    rw [← h1]
  obtain ⟨g1, g2⟩ := h.inv.put hf (S i).val (room_other h.inv.sts (by rw [h.nf, h.nd]; omega) _)
  rw [← he] at g1 g2
  refine ⟨g1, fun k v => (g2 k v).trans ⟨?_, ?_⟩, ?_, ?_⟩
  · rintro (⟨rfl, rfl⟩ | ⟨hn, hh⟩)
    · exact ⟨i, by omega, h1, rfl, rfl⟩
    · obtain ⟨p, hp, h2⟩ := (h.has k v).1 hh
      exact ⟨p, by omega, h2⟩
  · rintro ⟨p, hp, e1, e2, e3⟩
    rcases Nat.lt_or_ge p i with e | e
    · have h3 : Has S i k v := ⟨p, e, e1, e2, e3⟩
      refine .inr ⟨fun e4 => ?_, (h.has k v).2 h3⟩
      subst e4
      exact hnn v h3
    · obtain rfl : p = i := by omega
      exact .inl ⟨e2.symm, e3.symm⟩
  · have := fulls_put T hp (S i)
    rw [h0, h1] at this
    rw [hs1, ← h.nf]
    simpa using this
  · have := deads_put T hp (S i)
    rw [h0, h1, h.nd] at this
    simpa using this
end
theorem Inv.look {V : Type} {S : Nat → Slot V} {c : Nat} (h : Inv S c) (k : List (BitVec 8)) : ∃ v0 : Option V, ∀ v, Has S c k v ↔ v0 = some v := by
  obtain ⟨j, hj⟩ := found_of_room h.room k
  by_cases h1 : (S (place k c j)).st = 1
  · refine ⟨some (S (place k c j)).val, fun v => (h.hit hj h1 v).trans ⟨fun e => by rw [e], fun e => (Option.some.inj e).symm⟩⟩
  · exact ⟨none, fun v => ⟨fun e => (h.miss hj h1 v e).elim, fun e => by cases e⟩⟩
theorem has_fulls {V : Type} {S : Nat → Slot V} {c : Nat} {k : List (BitVec 8)} {v : V} (h : Has S c k v) : 0 < fulls S c := by
  obtain ⟨p, hp, h1, _⟩ := h
  have := cnt_without (P := fun i => (S i).st == 1) hp (by simp [h1])
  unfold fulls
  omega
/-- How many slots a table made anew has, for so many keys. -/
def Sized (N c : Nat) : Prop := (∃ m, c = 2 ^ m) ∧ 8 ≤ c ∧ 2 * N ≤ c ∧ (c = 8 ∨ c < 4 * N)
theorem pow_double {a b : Nat} (h : 2 ^ a < 2 ^ b) : 2 * 2 ^ a ≤ 2 ^ b := by
  have h1 : a < b := (Nat.pow_lt_pow_iff_right (by decide)).1 h
  have h2 := Nat.pow_le_pow_right (n := 2) (by decide) (show a + 1 ≤ b by omega)
  rw [Nat.pow_succ] at h2
  omega
theorem Sized.unique {N c d : Nat} (h : Sized N c) (k : Sized N d) : c = d := by
  obtain ⟨⟨m, rfl⟩, h2, h3, h4⟩ := h
  obtain ⟨⟨n, rfl⟩, k2, k3, k4⟩ := k
  rcases Nat.lt_trichotomy (2 ^ m) (2 ^ n) with e | e | e
  · have := pow_double e
    omega
  · exact e
  · have := pow_double e
    omega
/-- What a Put makes of the slots, the keys and the dead ones. -/
def PutNums (c n g c' n' g' : Nat) (had : Prop) : Prop :=
  (had → n' = n ∧ c' = c ∧ g' = g) ∧ (¬ had → n' = n + 1 ∧ (4 * (n + g + 1) ≤ 3 * c → c' = c ∧ g' = g) ∧ (3 * c < 4 * (n + g + 1) → Sized (n + 1) c' ∧ g' = 0))
/-- What a Delete that found its key makes of them. -/
def DelNums (c n g c' n' g' : Nat) : Prop :=
  n' + 1 = n ∧ (8 < c ∧ 8 * n' < c → Sized n' c' ∧ g' = 0) ∧ (¬ (8 < c ∧ 8 * n' < c) → c' = c ∧ g' = g + 1)
end Go.Proofs.Ytahmnpbfjfllmaa.Tab
