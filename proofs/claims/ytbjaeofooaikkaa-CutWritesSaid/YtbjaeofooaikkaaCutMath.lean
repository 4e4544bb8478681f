/- Plain facts on streams that are cut: where a chunk ends, which chunks a stream has. No program stands here. -/
import Derived.Test.YtbjaeofooaikkaaRollMath
namespace CutMath

abbrev B := BitVec 8
/-- A shape. -/
structure Sh where
  L : Nat
  M : Nat
  K : Nat
  W : Nat
  s : BitVec 32
structure Sh.Good (h : Sh) : Prop where
  w1 : 1 ≤ h.W
  w63 : h.W ≤ 63
  wl : h.W ≤ h.L
  lm : h.L ≤ h.M
  m : h.M ≤ 8192
  k : h.K ≤ 20

def lastB (n : Nat) (l : List B) : List B := l.drop (l.length - n)
def maskOf (k : Nat) : BitVec 32 := 1#32 <<< k - 1#32
/-- Whether a chunk of these bytes ends with them. -/
def ends (h : Sh) (b : List B) : Bool := if b.length = h.M then true else if b.length < h.L then false else decide (RollMath.sum h.s (lastB h.W b) &&& maskOf h.K = 0#32)

theorem mask_mod (x : BitVec 32) (k : Nat) (hk : k ≤ 20) : x &&& maskOf k = 0#32 ↔ x.toNat % 2 ^ k = 0 := by
  have hp : 2 ^ k ≤ 2 ^ 20 := Nat.pow_le_pow_right (by decide) hk
  have hp0 : 0 < 2 ^ k := Nat.pow_pos (by decide)
  have hm : (maskOf k).toNat = 2 ^ k - 1 := by
    unfold maskOf
    have e : (1#32 <<< k).toNat = 2 ^ k := by
      rw [BitVec.toNat_shiftLeft, Nat.shiftLeft_eq]
      show 1 * 2 ^ k % 2 ^ 32 = 2 ^ k
      rw [Nat.one_mul, Nat.mod_eq_of_lt (by omega)]
    rw [BitVec.toNat_sub, e]
    show (2 ^ 32 - 1 + 2 ^ k) % 2 ^ 32 = 2 ^ k - 1
    omega
  rw [← BitVec.toNat_inj, BitVec.toNat_and, hm, Nat.and_two_pow_sub_one_eq_mod]
  exact Iff.rfl

/-- The stream goes on with these bytes, so many being held: the chunks that end, what is held then. -/
def feed (h : Sh) : List B → List B → List (List B) × List B
  | held, [] => ([], held)
  | held, c :: r => if ends h (held ++ [c]) then ((held ++ [c]) :: (feed h [] r).1, (feed h [] r).2) else feed h (held ++ [c]) r

theorem feed_nil (h : Sh) (held : List B) : feed h held [] = ([], held) := rfl
theorem feed_cons (h : Sh) (held : List B) (c : B) (r : List B) :
    feed h held (c :: r) = if ends h (held ++ [c]) then ((held ++ [c]) :: (feed h [] r).1, (feed h [] r).2) else feed h (held ++ [c]) r := rfl
theorem feed_append (h : Sh) : ∀ (a b held : List B), feed h held (a ++ b) = ((feed h held a).1 ++ (feed h (feed h held a).2 b).1, (feed h (feed h held a).2 b).2)
  | [], b, held => by simp [feed_nil]
  | c :: a, b, held => by
    rw [List.cons_append, feed_cons, feed_cons]
    split
    · rw [feed_append h a b []]; rfl
    · rw [feed_append h a b (held ++ [c])]
/-- One byte more. -/
theorem feed_snoc (h : Sh) (a held : List B) (c : B) :
    feed h held (a ++ [c]) = if ends h ((feed h held a).2 ++ [c]) then ((feed h held a).1 ++ [(feed h held a).2 ++ [c]], []) else ((feed h held a).1, (feed h held a).2 ++ [c]) := by
  rw [feed_append, feed_cons]
  split <;> simp [feed_nil]
/-- All bytes are in the chunks, or held. -/
theorem feed_join (h : Sh) : ∀ (a held : List B), (feed h held a).1.flatten ++ (feed h held a).2 = held ++ a
  | [], held => by simp [feed_nil]
  | c :: a, held => by
    rw [feed_cons]
    split
    · simp only [List.flatten_cons]
      rw [List.append_assoc, feed_join h a []]; simp
    · rw [feed_join h a]; simp
/-- Nothing ends within. -/
def Open (h : Sh) (held : List B) : Prop := ∀ n, 1 ≤ n → n ≤ held.length → ends h (held.take n) = false
theorem open_nil (h : Sh) : Open h [] := fun n h1 h2 => by simp at h2; omega
theorem open_snoc {h : Sh} {held : List B} {c : B} (ho : Open h held) (he : ends h (held ++ [c]) = false) : Open h (held ++ [c]) := by
  intro n h1 h2
  rw [List.length_append, List.length_singleton] at h2
  by_cases hn : n ≤ held.length
  · rw [List.take_append_of_le_length hn]; exact ho n h1 hn
  · rw [List.take_of_length_le (by rw [List.length_append, List.length_singleton]; omega)]; exact he
theorem feed_open (h : Sh) : ∀ (a held : List B), Open h held → Open h (feed h held a).2
  | [], _, ho => ho
  | c :: a, held, ho => by
    rw [feed_cons]
    split
    · exact feed_open h a [] (open_nil h)
    · rename_i he; exact feed_open h a _ (open_snoc ho (Bool.eq_false_iff.2 he))
/-- A whole chunk: it ends with its last byte, and not before. -/
def Whole (h : Sh) (c : List B) : Prop := ends h c = true ∧ ∃ d x, c = d ++ [x] ∧ Open h d
theorem feed_whole (h : Sh) : ∀ (a held : List B), Open h held → ∀ c ∈ (feed h held a).1, Whole h c
  | [], _, _, c, hc => by simp [feed_nil] at hc
  | x :: a, held, ho, c, hc => by
    rw [feed_cons] at hc
    split at hc
    · rename_i he
      rcases List.mem_cons.1 hc with rfl | hc
      · exact ⟨he, held, x, rfl, ho⟩
      · exact feed_whole h a [] (open_nil h) c hc
    · rename_i he; exact feed_whole h a _ (open_snoc ho (Bool.eq_false_iff.2 he)) c hc
theorem open_lt {h : Sh} (g : h.Good) {held : List B} (ho : Open h held) : held.length < h.M := by
  have h1 := g.w1
  have h2 := g.wl
  have h3 := g.lm
  rcases Nat.lt_or_ge held.length h.M with hl | hl
  · exact hl
  · exfalso
    have := ho h.M (by omega) hl
    unfold ends at this
    rw [if_pos (by rw [List.length_take]; omega)] at this
    cases this
theorem whole_size {h : Sh} (g : h.Good) {c : List B} (hw : Whole h c) : h.L ≤ c.length ∧ c.length ≤ h.M ∧ 1 ≤ c.length := by
  obtain ⟨he, d, x, rfl, ho⟩ := hw
  have h1 := open_lt g ho
  have h3 := g.lm
  rw [List.length_append, List.length_singleton] at *
  refine ⟨?_, by omega, by omega⟩
  unfold ends at he
  rw [List.length_append, List.length_singleton] at he
  split at he
  · omega
  · split at he
    · cases he
    · omega

/-- A whole chunk at the head of a stream. -/
theorem feed_hit (h : Sh) : ∀ (r held : List B) (n : Nat), 1 ≤ n → n ≤ r.length → (∀ m, 1 ≤ m → m < n → ends h (held ++ r.take m) = false) → ends h (held ++ r.take n) = true →
    feed h held r = ((held ++ r.take n) :: (feed h [] (r.drop n)).1, (feed h [] (r.drop n)).2)
  | [], _, n, h1, h2, _, _ => by simp at h2; omega
  | c :: r, held, n, h1, h2, h3, h4 => by
    rw [feed_cons]
    by_cases hn : n = 1
    · subst hn
      rw [if_pos (by simpa using h4)]
      simp
    · have := h3 1 (Nat.le_refl _) (by omega)
      rw [if_neg (by simpa using this)]
      obtain ⟨m, rfl⟩ : ∃ m, n = m + 1 := ⟨n - 1, by omega⟩
      rw [feed_hit h r (held ++ [c]) m (by omega) (by simp at h2; omega) (fun j hj1 hj2 => by have := h3 (j + 1) (by omega) (by omega); simpa using this) (by simpa using h4)]
      simp
/-- None. -/
theorem feed_miss (h : Sh) : ∀ (r held : List B), (∀ m, 1 ≤ m → m ≤ r.length → ends h (held ++ r.take m) = false) → feed h held r = ([], held ++ r)
  | [], held, _ => by simp [feed_nil]
  | c :: r, held, h3 => by
    rw [feed_cons, if_neg (by have := h3 1 (by omega) (by simp); simpa using this), feed_miss h r (held ++ [c]) (fun m h1 h2 => by have := h3 (m + 1) (by omega) (by simp; omega); simpa using this)]
    simp

/-- The chunks of a stream. -/
def split (h : Sh) (b : List B) : List (List B) := (feed h [] b).1 ++ (if (feed h [] b).2 = [] then [] else [(feed h [] b).2])
def endedB (h : Sh) (b : List B) : Bool := decide ((feed h [] b).2 = [])
theorem split_join (h : Sh) (b : List B) : (split h b).flatten = b := by
  have := feed_join h b []
  unfold split
  split
  · rename_i e; rw [e] at this; simpa using this
  · rw [List.flatten_append]; simpa using this
theorem split_nil (h : Sh) : split h [] = [] := rfl
theorem split_of_feed {h : Sh} {b : List B} {o : List (List B)} {k : List B} (e : feed h [] b = (o, k)) : split h b = o ++ (if k = [] then [] else [k]) := by unfold split; rw [e]
theorem split_hit {h : Sh} {r : List B} {n : Nat} (h1 : 1 ≤ n) (h2 : n ≤ r.length) (h3 : ∀ m, 1 ≤ m → m < n → ends h (r.take m) = false) (h4 : ends h (r.take n) = true) :
    split h r = r.take n :: split h (r.drop n) := by
  unfold split
  rw [feed_hit h r [] n h1 h2 (by simpa using h3) (by simpa using h4)]
  simp
theorem split_miss {h : Sh} {r : List B} (h3 : ∀ m, 1 ≤ m → m ≤ r.length → ends h (r.take m) = false) (hr : r ≠ []) : split h r = [r] := by
  unfold split
  rw [feed_miss h r [] (by simpa using h3)]
  simp [hr]
theorem ended_hit {h : Sh} {r : List B} {n : Nat} (h1 : 1 ≤ n) (h2 : n ≤ r.length) (h3 : ∀ m, 1 ≤ m → m < n → ends h (r.take m) = false) (h4 : ends h (r.take n) = true) :
    endedB h r = endedB h (r.drop n) := by
  unfold endedB
  rw [feed_hit h r [] n h1 h2 (by simpa using h3) (by simpa using h4)]
theorem ended_miss {h : Sh} {r : List B} (h3 : ∀ m, 1 ≤ m → m ≤ r.length → ends h (r.take m) = false) (hr : r ≠ []) : endedB h r = false := by
  unfold endedB
  rw [feed_miss h r [] (by simpa using h3)]
  simp [hr]
/-- Sizes of chunks: each but the last of least to most bytes. -/
theorem split_sizes {h : Sh} (g : h.Good) (b : List B) (i : Nat) (hi : i < (split h b).length) :
    1 ≤ ((split h b)[i]).length ∧ ((split h b)[i]).length ≤ h.M ∧ (i < (split h b).length - 1 → h.L ≤ ((split h b)[i]).length) := by
  have hw := feed_whole h b [] (open_nil h)
  have ho := open_lt g (feed_open h b [] (open_nil h))
  unfold split at hi ⊢
  by_cases hlt : i < (feed h [] b).1.length
  · have hm := hw _ (List.getElem_mem hlt)
    have := whole_size g hm
    simp only [List.getElem_append_left hlt]
    exact ⟨by omega, by omega, fun _ => by omega⟩
  · split at hi
    · simp at hi; omega
    · rename_i hne
      simp at hi
      have e : i = (feed h [] b).1.length := by omega
      subst e
      have hpos : 0 < (feed h [] b).2.length := List.length_pos_iff.2 hne
      simp [hne]
      omega

/-- A stream begins with a whole chunk, or has none. -/
theorem head_or (h : Sh) (b : List B) : (∃ n, 1 ≤ n ∧ n ≤ b.length ∧ (∀ m, 1 ≤ m → m < n → ends h (b.take m) = false) ∧ ends h (b.take n) = true) ∨ (∀ m, 1 ≤ m → m ≤ b.length → ends h (b.take m) = false) := by
  have key : ∀ k, k ≤ b.length → (∃ n, 1 ≤ n ∧ n ≤ k ∧ (∀ m, 1 ≤ m → m < n → ends h (b.take m) = false) ∧ ends h (b.take n) = true) ∨ (∀ m, 1 ≤ m → m ≤ k → ends h (b.take m) = false) := by
    intro k
    induction k with
    | zero => intro _; right; intro m h1 h2; omega
    | succ k ih =>
      intro hk
      rcases ih (by omega) with ⟨n, h1, h2, h3, h4⟩ | h0
      · exact .inl ⟨n, h1, by omega, h3, h4⟩
      · cases he : ends h (b.take (k + 1))
        · right
          intro m h1 h2
          by_cases hm : m = k + 1
          · rw [hm]; exact he
          · exact h0 m h1 (by omega)
        · exact .inl ⟨k + 1, by omega, Nat.le_refl _, fun m h1 h2 => h0 m h1 (by omega), he⟩
  rcases key b.length (Nat.le_refl _) with ⟨n, h1, h2, h3, h4⟩ | h0
  · exact .inl ⟨n, h1, h2, h3, h4⟩
  · exact .inr h0
/-- How many bytes the first chunks have. -/
def pre (l : List (List B)) (p : Nat) : Nat := ((l.take p).map List.length).sum
theorem pre_zero (l : List (List B)) : pre l 0 = 0 := by simp [pre]
theorem pre_succ (l : List (List B)) (p : Nat) (hp : p < l.length) : pre l (p + 1) = pre l p + (l[p]).length := by
  unfold pre; rw [List.take_succ_eq_append_getElem hp, List.map_append, List.sum_append]; rfl
theorem pre_cons (c : List B) (l : List (List B)) (p : Nat) : pre (c :: l) (p + 1) = c.length + pre l p := by simp [pre]
theorem split_meets (h : Sh) : ∀ (p : Nat) (a r : List B), p ≤ (split h (a ++ r)).length → pre (split h (a ++ r)) p = a.length → (split h (a ++ r)).drop p = split h r
  | 0, a, r, _, h2 => by
    rw [pre_zero] at h2
    rw [List.eq_nil_of_length_eq_zero h2.symm]; rfl
  | p + 1, a, r, h1, h2 => by
    rcases head_or h (a ++ r) with ⟨n, g1, g2, g3, g4⟩ | g0
    · have e := split_hit g1 g2 g3 g4
      rw [e] at h1 h2 ⊢
      rw [pre_cons, List.length_take, Nat.min_eq_left g2] at h2
      rw [List.drop_succ_cons]
      have hn : n ≤ a.length := by omega
      have ed : (a ++ r).drop n = a.drop n ++ r := List.drop_append_of_le_length hn
      rw [ed] at h1 h2 ⊢
      exact split_meets h p (a.drop n) r (by simpa using h1) (by rw [List.length_drop]; omega)
    · by_cases hr : a ++ r = []
      · rw [hr, split_nil] at h1; simp at h1
      · have e := split_miss g0 hr
        rw [e] at h1 h2 ⊢
        have hp : p = 0 := by simp at h1; omega
        subst hp
        rw [pre_cons, pre_zero, List.length_append] at h2
        have : r = [] := List.eq_nil_of_length_eq_zero (by omega)
        subst this
        rfl

/-! Without bits; with one size. -/
def often (h : Sh) : Sh := { h with K := 0, M := 8192 }
def oneSize (h : Sh) (k : Nat) : Sh := { h with K := k, M := h.L }
theorem ends_often (h : Sh) (hL : h.L ≤ 8192) (b : List B) : ends (often h) b = decide (h.L ≤ b.length) := by
  unfold ends often
  have e : maskOf 0 = 0#32 := rfl
  simp only [e, BitVec.and_zero, decide_true]
  by_cases h1 : b.length = 8192
  · rw [if_pos h1]; symm; rw [decide_eq_true_eq]; omega
  · rw [if_neg h1]
    by_cases h2 : b.length < h.L
    · rw [if_pos h2]; symm; rw [decide_eq_false_iff_not]; omega
    · rw [if_neg h2]; symm; rw [decide_eq_true_eq]; omega
theorem ends_one (h : Sh) (k : Nat) (b : List B) (hb : b.length ≤ h.L) : ends (oneSize h k) b = decide (h.L ≤ b.length) := by
  unfold ends oneSize
  simp only
  by_cases h1 : b.length = h.L
  · rw [if_pos h1]; symm; rw [decide_eq_true_eq]; omega
  · rw [if_neg h1, if_pos (by omega)]; symm; rw [decide_eq_false_iff_not]; omega
theorem feed_often (h : Sh) (k : Nat) (h1 : 1 ≤ h.L) (hL : h.L ≤ 8192) : ∀ (a held : List B), held.length < h.L → feed (often h) held a = feed (oneSize h k) held a
  | [], _, _ => rfl
  | c :: a, held, hl => by
    rw [feed_cons, feed_cons, ends_often h hL, ends_one h k _ (by rw [List.length_append, List.length_singleton]; omega)]
    by_cases hd : h.L ≤ (held ++ [c]).length
    · rw [if_pos (by simpa using hd), if_pos (by simpa using hd), feed_often h k h1 hL a [] (by show 0 < h.L; omega)]
    · rw [if_neg (by simpa using hd), if_neg (by simpa using hd)]
      exact feed_often h k h1 hL a _ (by omega)
theorem split_often (h : Sh) (k : Nat) (h1 : 1 ≤ h.L) (hL : h.L ≤ 8192) (b : List B) : split (often h) b = split (oneSize h k) b := by
  unfold split; rw [feed_often h k h1 hL b [] (by show 0 < h.L; omega)]
theorem often_sizes (h : Sh) (h1 : 1 ≤ h.L) (hL : h.L ≤ 8192) (b : List B) (i : Nat) (hi : i < (split (often h) b).length - 1) : ((split (often h) b)[i]'(by omega)).length = h.L := by
  have hw := feed_whole (often h) b [] (open_nil _)
  have hlt : i < (feed (often h) [] b).1.length := by
    unfold split at hi
    by_cases he : (feed (often h) [] b).2 = []
    · simp [he] at hi; omega
    · simp [he] at hi; omega
  have e : (split (often h) b)[i]'(by omega) = (feed (often h) [] b).1[i] := by
    unfold split
    simp only [List.getElem_append_left hlt]
  rw [e]
  obtain ⟨he, d, x, hd, ho⟩ := hw _ (List.getElem_mem hlt)
  rw [hd] at he ⊢
  rw [ends_often h hL, decide_eq_true_eq, List.length_append, List.length_singleton] at he
  rw [List.length_append, List.length_singleton]
  by_cases hdl : d.length = 0
  · omega
  · have := ho d.length (by omega) (Nat.le_refl _)
    rw [List.take_length, ends_often h hL, decide_eq_false_iff_not] at this
    omega
theorem feed_few (h : Sh) : ∀ (a held : List B), (feed h held a).1.length ≤ a.length
  | [], _ => Nat.le_refl _
  | c :: a, held => by
    rw [feed_cons]
    split
    · have := feed_few h a []; simp; omega
    · have := feed_few h a (held ++ [c]); simp; omega
end CutMath
