/- Places by their times, the latest first: what a sort and its merges do, in plain mathematics. No program stands here. -/
import Derived.ProofKit
namespace Go.Proofs.Ytogoiikgiohlhaa.Sm

/-- x stands ahead of y: it is later, or as late and of a greater place. -/
def Bef (K : Int → Int) (x y : Int) : Prop := K y < K x ∨ (K y = K x ∧ y < x)
theorem Bef.trans {K : Int → Int} {x y z : Int} (h : Bef K x y) (k : Bef K y z) : Bef K x z := by unfold Bef at *; omega
theorem Bef.irrefl {K : Int → Int} {x : Int} : ¬ Bef K x x := by unfold Bef; omega
theorem Bef.le {K : Int → Int} {x y : Int} (h : Bef K x y) : K y ≤ K x := by unfold Bef at h; omega
theorem bef_of_lt {K : Int → Int} {x y : Int} (h : K y < K x) : Bef K x y := .inl h
theorem bef_of_le {K : Int → Int} {x y : Int} (h : K y ≤ K x) (o : y < x) : Bef K x y := by unfold Bef; omega

def Sorted (K : Int → Int) (d : Nat → Int) (a b : Nat) : Prop := ∀ i j, a ≤ i → i < j → j < b → Bef K (d i) (d j)
def Older (d : Nat → Int) (a m b : Nat) : Prop := ∀ i j, a ≤ i → i < m → m ≤ j → j < b → d j < d i
def Decr (d : Nat → Int) (a b : Nat) : Prop := ∀ i j, a ≤ i → i < j → j < b → d j < d i
/-- d' holds between a and b what d holds there; without, nothing has turned. -/
structure Same (d d' : Nat → Int) (a b : Nat) : Prop where
  fwd : ∀ i, a ≤ i → i < b → ∃ j, a ≤ j ∧ j < b ∧ d' j = d i
  bwd : ∀ i, a ≤ i → i < b → ∃ j, a ≤ j ∧ j < b ∧ d j = d' i
  out : ∀ i, (i < a ∨ b ≤ i) → d' i = d i
theorem Same.refl (d : Nat → Int) (a b : Nat) : Same d d a b := ⟨fun i h1 h2 => ⟨i, h1, h2, rfl⟩, fun i h1 h2 => ⟨i, h1, h2, rfl⟩, fun _ _ => rfl⟩
theorem Same.trans {d e f : Nat → Int} {a b : Nat} (h : Same d e a b) (k : Same e f a b) : Same d f a b where
  fwd i h1 h2 := by
    obtain ⟨j, j1, j2, j3⟩ := h.fwd i h1 h2
    obtain ⟨l, l1, l2, l3⟩ := k.fwd j j1 j2
    exact ⟨l, l1, l2, l3.trans j3⟩
  bwd i h1 h2 := by
    obtain ⟨j, j1, j2, j3⟩ := k.bwd i h1 h2
    obtain ⟨l, l1, l2, l3⟩ := h.bwd j j1 j2
    exact ⟨l, l1, l2, l3.trans j3⟩
  out i hi := (k.out i hi).trans (h.out i hi)
theorem Same.wide {d e : Nat → Int} {a b a' b' : Nat} (h : Same d e a b) (ha : a' ≤ a) (hb : b ≤ b') : Same d e a' b' where
  fwd i h1 h2 := by
    by_cases hc : a ≤ i ∧ i < b
    · obtain ⟨j, j1, j2, j3⟩ := h.fwd i hc.1 hc.2
      exact ⟨j, by omega, by omega, j3⟩
    · exact ⟨i, h1, h2, h.out i (by omega)⟩
  bwd i h1 h2 := by
    by_cases hc : a ≤ i ∧ i < b
    · obtain ⟨j, j1, j2, j3⟩ := h.bwd i hc.1 hc.2
      exact ⟨j, by omega, by omega, j3⟩
    · exact ⟨i, h1, h2, (h.out i (by omega)).symm⟩
  out i hi := h.out i (by omega)
theorem Sorted.congr {K : Int → Int} {d e : Nat → Int} {a b : Nat} (h : Sorted K d a b) (he : ∀ i, a ≤ i → i < b → e i = d i) : Sorted K e a b := fun i j h1 h2 h3 => by
  rw [he i h1 (by omega), he j (by omega) h3]; exact h i j h1 h2 h3
theorem Sorted.empty {K : Int → Int} {d : Nat → Int} {a b : Nat} (h : b ≤ a + 1) : Sorted K d a b := fun i j h1 h2 h3 => by omega
theorem Older.same {d e f : Nat → Int} {a m b : Nat} (h : Older d a m b) (k : Same d e a m) (l : Same e f m b) : Older f a m b := fun i j h1 h2 h3 h4 => by
  rw [l.out i (.inl h2)]
  obtain ⟨x, x1, x2, x3⟩ := k.bwd i h1 h2
  obtain ⟨y, y1, y2, y3⟩ := l.bwd j h3 h4
  rw [← x3, ← y3, k.out y (.inr y1)]
  exact h x y x1 x2 y1 y2

/-- Two of the places change. -/
def swp (d : Nat → Int) (i j : Nat) : Nat → Int := fun k => if k = i then d j else if k = j then d i else d k
def put (d : Nat → Int) (i : Nat) (v : Int) : Nat → Int := fun k => if k = i then v else d k
theorem swp_put (d : Nat → Int) (i j : Nat) : put (put d i (d j)) j (d i) = swp d i j := by
  funext k; unfold put swp
  by_cases h1 : k = i <;> by_cases h2 : k = j <;> simp_all

/-! Insertion. -/
/-- d with what stood at i brought to j. -/
def sunk (d : Nat → Int) (i j : Nat) : Nat → Int := fun k => if k < j then d k else if k = j then d i else if k ≤ i then d (k - 1) else d k
theorem sunk_self (d : Nat → Int) (i : Nat) : sunk d i i = d := by
  funext k; unfold sunk
  split; rfl
  split; (rename_i h; rw [h])
  split; (exfalso; omega)
  rfl
theorem sunk_step (d : Nat → Int) (i j : Nat) (h0 : 0 < j) (h : j ≤ i) : swp (sunk d i j) j (j - 1) = sunk d i (j - 1) := by
  funext k; unfold swp sunk
  by_cases h1 : k = j
  · subst h1
    rw [if_pos rfl, if_pos (by omega), if_neg (by omega), if_neg (by omega), if_pos (by omega)]
  · rw [if_neg h1]
    by_cases h2 : k = j - 1
    · subst h2
      rw [if_pos rfl, if_neg (by omega), if_pos rfl, if_neg (by omega), if_pos rfl]
    · rw [if_neg h2]
      by_cases h3 : k < j - 1
      · rw [if_pos (by omega), if_pos h3]
      · rw [if_neg (by omega), if_neg h1, if_neg h3, if_neg h2]
theorem sunk_same (d : Nat → Int) (i j a : Nat) (ha : a ≤ j) (h : j ≤ i) : Same d (sunk d i j) a (i + 1) where
  fwd k h1 h2 := by
    by_cases e : k < j
    · exact ⟨k, h1, h2, by unfold sunk; rw [if_pos e]⟩
    · by_cases e2 : k = i
      · exact ⟨j, ha, by omega, by unfold sunk; rw [if_neg (by omega), if_pos rfl, e2]⟩
      · exact ⟨k + 1, by omega, by omega, by unfold sunk; rw [if_neg (by omega), if_neg (by omega), if_pos (by omega)]; rfl⟩
  bwd k h1 h2 := by
    unfold sunk
    by_cases e : k < j
    · exact ⟨k, h1, h2, by rw [if_pos e]⟩
    · by_cases e2 : k = j
      · exact ⟨i, by omega, by omega, by rw [if_neg e, if_pos e2]⟩
      · exact ⟨k - 1, by omega, by omega, by rw [if_neg e, if_neg e2, if_pos (by omega)]⟩
  out k hk := by
    unfold sunk
    by_cases e : k < j
    · rw [if_pos e]
    · rw [if_neg e, if_neg (by omega), if_neg (by omega)]
/-- Where what is brought on has come to its place. -/
theorem sunk_sorted {K : Int → Int} {d : Nat → Int} {a i j : Nat} (hs : Sorted K d a i) (ho : ∀ k, a ≤ k → k < i → d i < d k) (ha : a ≤ j) (hj : j ≤ i)
    (hp : ∀ k, j ≤ k → k < i → K (d k) < K (d i)) (he : j = a ∨ ¬ K (d (j - 1)) < K (d i)) : Sorted K (sunk d i j) a (i + 1) := by
  intro x y h1 h2 h3
  unfold sunk
  by_cases hx : x < j
  · rw [if_pos hx]
    by_cases hy : y < j
    · rw [if_pos hy]; exact hs x y h1 h2 (by omega)
    · rw [if_neg hy]
      by_cases hy2 : y = j
      · rw [if_pos hy2]
        have he := he.resolve_left (by omega)
        have hxj : K (d (j - 1)) ≤ K (d x) := by
          by_cases q : x = j - 1
          · rw [q]; exact Int.le_refl _
          · exact (hs x (j - 1) h1 (by omega) (by omega)).le
        exact bef_of_le (by omega) (ho x h1 (by omega))
      · rw [if_neg hy2, if_pos (by omega)]
        exact hs x (y - 1) h1 (by omega) (by omega)
  · rw [if_neg hx, if_neg (show ¬ y < j by omega), if_neg (show ¬ y = j by omega), if_pos (show y ≤ i by omega)]
    by_cases hx2 : x = j
    · rw [if_pos hx2]; exact bef_of_lt (hp (y - 1) (by omega) (by omega))
    · rw [if_neg hx2, if_pos (by omega)]
      exact hs (x - 1) (y - 1) (by omega) (by omega) (by omega)
/-- What holds ahead of each insertion. -/
structure Ins (K : Int → Int) (d e : Nat → Int) (a b i : Nat) : Prop where
  low : a ≤ i
  sorted : Sorted K e a i
  same : Same d e a i
theorem Ins.start {K : Int → Int} {d : Nat → Int} {a b : Nat} : Ins K d d a b (a + 1) := ⟨by omega, Sorted.empty (by omega), Same.refl d a _⟩
theorem Ins.older {K : Int → Int} {d e : Nat → Int} {a b i : Nat} (h : Ins K d e a b i) (hd : Decr d a b) (hi : i < b) : ∀ k, a ≤ k → k < i → e i < e k := fun k h1 h2 => by
  obtain ⟨x, x1, x2, x3⟩ := h.same.bwd k h1 h2
  rw [← x3, h.same.out i (.inr (Nat.le_refl _))]
  exact hd x i x1 x2 hi
theorem Ins.next {K : Int → Int} {d e : Nat → Int} {a b i j : Nat} (h : Ins K d e a b i) (hd : Decr d a b) (hi : i < b) (ha : a ≤ j) (hj : j ≤ i)
    (hp : ∀ k, j ≤ k → k < i → K (e k) < K (e i)) (he : j = a ∨ ¬ K (e (j - 1)) < K (e i)) : Ins K d (sunk e i j) a b (i + 1) :=
  ⟨by have := h.low; omega, sunk_sorted h.sorted (h.older hd hi) ha hj hp he, (h.same.wide (Nat.le_refl _) (by omega)).trans (sunk_same e i j a ha hj)⟩

/-! One row brought ahead of another. -/
def rot (d : Nat → Int) (s m e : Nat) : Nat → Int := fun i => if i < s then d i else if i < s + (e - m) then d (i + (m - s)) else if i < e then d (i - (e - m)) else d i
theorem rot_left (d : Nat → Int) (m e : Nat) (h : m ≤ e) : rot d m m e = d := by
  funext i; unfold rot
  split; rfl
  split; (congr 1; omega)
  split; (exfalso; omega)
  rfl
theorem rot_right (d : Nat → Int) (s m : Nat) (_h : s ≤ m) : rot d s m m = d := by
  funext i; unfold rot
  split; rfl
  split; (exfalso; omega)
  split; (congr 1; omega)
  rfl
theorem rot_same (d : Nat → Int) (s m e : Nat) (h1 : s ≤ m) (h2 : m ≤ e) : Same d (rot d s m e) s e where
  fwd i a b := by
    by_cases c : i < m
    · exact ⟨i + (e - m), by omega, by omega, by unfold rot; rw [if_neg (by omega), if_neg (by omega), if_pos (by omega)]; congr 1; omega⟩
    · exact ⟨i - (m - s), by omega, by omega, by unfold rot; rw [if_neg (by omega), if_pos (by omega)]; congr 1; omega⟩
  bwd i a b := by
    unfold rot
    by_cases c : i < s + (e - m)
    · exact ⟨i + (m - s), by omega, by omega, by rw [if_neg (by omega), if_pos c]⟩
    · exact ⟨i - (e - m), by omega, by omega, by rw [if_neg (by omega), if_neg c, if_pos b]⟩
  out i hi := by
    unfold rot
    by_cases c : i < s
    · rw [if_pos c]
    · rw [if_neg c, if_neg (by omega), if_neg (by omega)]
/-- Two rows of one length change. -/
def swr (d : Nat → Int) (a b n : Nat) : Nat → Int := fun i => if a ≤ i ∧ i < a + n then d (i - a + b) else if b ≤ i ∧ i < b + n then d (i - b + a) else d i
theorem swr_zero (d : Nat → Int) (a b : Nat) : swr d a b 0 = d := by
  funext i; unfold swr; rw [if_neg (by omega), if_neg (by omega)]
theorem swr_step (d : Nat → Int) (a b n : Nat) (h : a + n < b) : swp (swr d a b n) (a + n) (b + n) = swr d a b (n + 1) := by
  funext i; unfold swp swr
  by_cases h1 : i = a + n
  · subst h1
    rw [if_pos rfl, if_neg (by omega), if_neg (by omega), if_pos (by omega)]; congr 1; omega
  · rw [if_neg h1]
    by_cases h2 : i = b + n
    · subst h2
      rw [if_pos rfl, if_neg (by omega), if_neg (by omega), if_neg (by omega), if_pos (by omega)]; congr 1; omega
    · rw [if_neg h2]
      by_cases h3 : a ≤ i ∧ i < a + n
      · rw [if_pos h3, if_pos (by omega)]
      · rw [if_neg h3, if_neg (show ¬ (a ≤ i ∧ i < a + (n + 1)) by omega)]
        by_cases h4 : b ≤ i ∧ i < b + n
        · rw [if_pos h4, if_pos (by omega)]
        · rw [if_neg h4, if_neg (by omega)]
/-- What is left to do: rows of i and of j around m. -/
theorem rot_more (d : Nat → Int) (m i j : Nat) (h : j < i) (hi : i ≤ m) : rot (swr d (m - i) m j) (m - (i - j)) m (m + j) = rot d (m - i) m (m + j) := by
  funext k; unfold rot swr
  by_cases h1 : k < m - i
  · rw [if_pos (show k < m - (i - j) by omega), if_neg (by omega), if_neg (by omega), if_pos h1]
  · rw [if_neg h1]
    by_cases h2 : k < m - i + (m + j - m)
    · rw [if_pos h2, if_pos (show k < m - (i - j) by omega), if_pos (by omega)]; congr 1; omega
    · rw [if_neg h2]
      by_cases h3 : k < m + j
      · rw [if_pos h3, if_neg (show ¬ k < m - (i - j) by omega)]
        by_cases h4 : k < m - (i - j) + (m + j - m)
        · rw [if_pos h4]
          by_cases h5 : m ≤ k + (m - (m - (i - j))) ∧ k + (m - (m - (i - j))) < m + j
          · rw [if_neg (show ¬ (m - i ≤ k + (m - (m - (i - j))) ∧ k + (m - (m - (i - j))) < m - i + j) by omega), if_pos h5, if_pos h3]; exact congrArg d (by omega)
          · exfalso; omega
        · rw [if_neg h4, if_pos h3, if_neg (by omega), if_neg (by omega)]
      · rw [if_neg h3, if_neg (by omega), if_neg (by omega), if_neg (by omega), if_neg (by omega), if_neg (by omega)]
theorem rot_less (d : Nat → Int) (m i j : Nat) (h : i < j) (hi : i ≤ m) : rot (swr d (m - i) (m + j - i) i) (m - i) m (m + (j - i)) = rot d (m - i) m (m + j) := by
  funext k; unfold rot swr
  by_cases h1 : k < m - i
  · rw [if_pos h1, if_pos h1, if_neg (by omega), if_neg (by omega)]
  · rw [if_neg h1, if_neg h1]
    by_cases h2 : k < m - i + (m + (j - i) - m)
    · rw [if_pos h2, if_pos (show k < m - i + (m + j - m) by omega)]
      rw [if_neg (by omega), if_neg (by omega)]
    · rw [if_neg h2]
      by_cases h3 : k < m + (j - i)
      · rw [if_pos h3]
        rw [if_pos (show k < m - i + (m + j - m) by omega), if_pos (by omega)]; congr 1; omega
      · rw [if_neg h3, if_neg (show ¬ k < m - i + (m + j - m) by omega)]
        by_cases h4 : k < m + j
        · rw [if_pos h4, if_neg (by omega), if_pos (by omega)]; congr 1; omega
        · rw [if_neg h4, if_neg (by omega), if_neg (by omega)]
theorem rot_even (d : Nat → Int) (m i : Nat) (hi : i ≤ m) : swr d (m - i) m i = rot d (m - i) m (m + i) := by
  funext k; unfold rot swr
  by_cases h1 : k < m - i
  · rw [if_pos h1, if_neg (by omega), if_neg (by omega)]
  · rw [if_neg h1]
    by_cases h2 : k < m - i + (m + i - m)
    · rw [if_pos h2, if_pos (by omega)]; congr 1; omega
    · rw [if_neg h2, if_neg (by omega)]
      by_cases h3 : k < m + i
      · rw [if_pos h3, if_pos (by omega)]; congr 1; omega
      · rw [if_neg h3, if_neg (by omega)]

/-! Merging. -/
section
variable {K : Int → Int} {d : Nat → Int} {a m b : Nat}
/-- One element ahead: it goes behind all that are later than it. -/
theorem merge_one (hs : Sorted K d (a + 1) b) (ho : ∀ j, a + 1 ≤ j → j < b → d j < d a) {i : Nat} (h1 : a + 1 ≤ i) (h2 : i ≤ b)
    (hlo : i = a + 1 ∨ K (d a) < K (d (i - 1))) (hhi : i = b ∨ ¬ K (d a) < K (d i)) : Sorted K (rot d a (a + 1) i) a b := by
  intro x y q1 q2 q3
  unfold rot
  have lo : ∀ k, a + 1 ≤ k → k < i → K (d a) < K (d k) := fun k k1 k2 => by
    have := hlo.resolve_left (by omega)
    by_cases e : k = i - 1
    · rw [e]; exact this
    · have := (hs k (i - 1) k1 (by omega) (by omega)).le; omega
  have hi : ∀ k, i ≤ k → k < b → Bef K (d a) (d k) := fun k k1 k2 => by
    have h3 := hhi.resolve_left (by omega)
    refine bef_of_le ?_ (ho k (by omega) k2)
    by_cases e : k = i
    · rw [e]; omega
    · have := (hs i k h1 (by omega) k2).le; omega
  rw [if_neg (show ¬ x < a by omega), if_neg (show ¬ y < a by omega)]
  by_cases c1 : x < a + (i - (a + 1))
  · rw [if_pos c1]
    by_cases c2 : y < a + (i - (a + 1))
    · rw [if_pos c2]; exact hs _ _ (by omega) (by omega) (by omega)
    · rw [if_neg c2]
      by_cases c3 : y < i
      · rw [if_pos c3, show y - (i - (a + 1)) = a by omega]; exact bef_of_lt (lo _ (by omega) (by omega))
      · rw [if_neg c3]; exact hs _ _ (by omega) (by omega) (by omega)
  · rw [if_neg c1, if_neg (show ¬ y < a + (i - (a + 1)) by omega)]
    by_cases c3 : x < i
    · rw [if_pos c3, if_neg (show ¬ y < i by omega), show x - (i - (a + 1)) = a by omega]; exact hi y (by omega) q3
    · rw [if_neg c3, if_neg (show ¬ y < i by omega)]; exact hs _ _ (by omega) (by omega) (by omega)
/-- One element behind: it goes ahead of all that are no later than it. -/
theorem merge_last (hs : Sorted K d a m) (ho : ∀ i, a ≤ i → i < m → d m < d i) {i : Nat} (h1 : a ≤ i) (h2 : i ≤ m)
    (hlo : i = a ∨ ¬ K (d (i - 1)) < K (d m)) (hhi : i = m ∨ K (d i) < K (d m)) : Sorted K (sunk d m i) a (m + 1) := by
  refine sunk_sorted hs ho h1 h2 (fun k k1 k2 => ?_) hlo
  have := hhi.resolve_left (by omega)
  by_cases e : k = i
  · rw [e]; exact this
  · have := (hs i k h1 (by omega) k2).le; omega

/-- Behind the turn all that stands ahead of mid is ahead of all behind it. -/
theorem cross (h1 : Sorted K d a m) (h2 : Sorted K d m b) (ho : Older d a m b) (_hab : a < m) (_hmb : m < b) {mid s e s0 r0 : Nat} (_hm1 : a ≤ mid) (_hm2 : mid < b) (hmid : 2 * mid ≤ a + b ∧ a + b ≤ 2 * mid + 1)
    (h0 : (mid < m ∧ s0 + b = mid + m ∧ r0 = mid) ∨ (m ≤ mid ∧ s0 = a ∧ r0 = m)) (q1 : s0 ≤ s) (q2 : s ≤ r0) (he : e + s = mid + m)
    (hlo : s = s0 ∨ ¬ K (d (s - 1)) < K (d e)) (hhi : s = r0 ∨ K (d s) < K (d (e - 1))) :
    ∀ i j, a ≤ i → i < mid → mid ≤ j → j < b → Bef K (rot d s m e i) (rot d s m e j) := by
  intro i j i1 i2 j1 j2
  unfold rot
  rw [if_neg (show ¬ j < s by omega), if_neg (show ¬ j < s + (e - m) by omega)]
  by_cases ci : i < s
  · rw [if_pos ci]
    by_cases cj : j < e
    · rw [if_pos cj]; exact h1 _ _ i1 (by omega) (by omega)
    · rw [if_neg cj]
      have hlo := hlo.resolve_left (by omega)
      refine bef_of_le ?_ (ho i j i1 (by omega) (by omega) j2)
      have k1 : K (d (s - 1)) ≤ K (d i) := by
        by_cases c : i = s - 1
        · rw [c]; exact Int.le_refl _
        · exact (h1 i (s - 1) i1 (by omega) (by omega)).le
      have k2 : K (d j) ≤ K (d e) := by
        by_cases c : j = e
        · rw [c]; exact Int.le_refl _
        · exact (h2 e j (by omega) (by omega) j2).le
      omega
  · rw [if_neg ci, if_pos (show i < s + (e - m) by omega)]
    by_cases cj : j < e
    · rw [if_pos cj]
      have hhi := hhi.resolve_left (by omega)
      refine bef_of_lt ?_
      have k1 : K (d (e - 1)) ≤ K (d (i + (m - s))) := by
        by_cases c : i + (m - s) = e - 1
        · rw [c]; exact Int.le_refl _
        · exact (h2 (i + (m - s)) (e - 1) (by omega) (by omega) (by omega)).le
      have k2 : K (d (j - (e - m))) ≤ K (d s) := by
        by_cases c : j - (e - m) = s
        · rw [c]; exact Int.le_refl _
        · exact (h1 s (j - (e - m)) (by omega) (by omega) (by omega)).le
      omega
    · rw [if_neg cj]; exact h2 _ _ (by omega) (by omega) j2
/-- The first half behind the turn: two sorted rows. -/
theorem half1 (h1 : Sorted K d a m) (h2 : Sorted K d m b) (ho : Older d a m b) {s e : Nat} (_q1 : a ≤ s) (q2 : s ≤ m) (q3 : m ≤ e) (q4 : e ≤ b) :
    Sorted K (rot d s m e) a s ∧ Sorted K (rot d s m e) s (s + (e - m)) ∧ Older (rot d s m e) a s (s + (e - m)) := by
  refine ⟨fun i j i1 i2 i3 => ?_, fun i j i1 i2 i3 => ?_, fun i j i1 i2 i3 i4 => ?_⟩
  · unfold rot; rw [if_pos (by omega), if_pos (by omega)]; exact h1 i j i1 i2 (by omega)
  · unfold rot; rw [if_neg (by omega), if_pos (by omega), if_neg (by omega), if_pos (by omega)]; exact h2 _ _ (by omega) (by omega) (by omega)
  · unfold rot; rw [if_neg (by omega), if_pos (by omega), if_pos (by omega)]; exact ho _ _ i1 (by omega) (by omega) (by omega)
theorem half2 (h1 : Sorted K d a m) (h2 : Sorted K d m b) (ho : Older d a m b) {s e : Nat} (q1 : a ≤ s) (q2 : s ≤ m) (q3 : m ≤ e) (_q4 : e ≤ b) :
    Sorted K (rot d s m e) (s + (e - m)) e ∧ Sorted K (rot d s m e) e b ∧ Older (rot d s m e) (s + (e - m)) e b := by
  refine ⟨fun i j i1 i2 i3 => ?_, fun i j i1 i2 i3 => ?_, fun i j i1 i2 i3 i4 => ?_⟩
  · unfold rot; rw [if_neg (by omega), if_neg (by omega), if_pos (by omega), if_neg (by omega), if_neg (by omega), if_pos (by omega)]; exact h1 _ _ (by omega) (by omega) (by omega)
  · unfold rot; rw [if_neg (by omega), if_neg (by omega), if_neg (by omega), if_neg (by omega), if_neg (by omega), if_neg (by omega)]; exact h2 _ _ (by omega) (by omega) (by omega)
  · unfold rot; rw [if_neg (by omega), if_neg (by omega), if_neg (by omega), if_neg (by omega), if_neg (by omega), if_pos (by omega)]; exact ho _ _ (by omega) (by omega) (by omega) i4
theorem Same.older {e : Nat → Int} (h : Older d a m b) (k : ∀ i, a ≤ i → i < b → e i = d i) : Older e a m b := fun i j h1 h2 h3 h4 => by
  rw [k i h1 (by omega), k j (by omega) h4]; exact h i j h1 h2 h3 h4
/-- Two halves, sorted each, the first ahead of the second. -/
theorem join_halves {e f : Nat → Int} {mid : Nat} (hx : ∀ i j, a ≤ i → i < mid → mid ≤ j → j < b → Bef K (d i) (d j)) (s1 : Sorted K e a mid) (z1 : Same d e a mid) (s2 : Sorted K f mid b) (z2 : Same e f mid b) : Sorted K f a b := by
  intro i j h1 h2 h3
  by_cases c1 : j < mid
  · rw [z2.out i (.inl (by omega)), z2.out j (.inl c1)]; exact s1 i j h1 h2 c1
  · by_cases c2 : mid ≤ i
    · exact s2 i j c2 h2 h3
    · rw [z2.out i (.inl (by omega))]
      obtain ⟨x, x1, x2, x3⟩ := z1.bwd i h1 (by omega)
      obtain ⟨y, y1, y2, y3⟩ := z2.bwd j (by omega) h3
      rw [← x3, ← y3, z1.out y (.inr y1)]
      exact hx x y x1 x2 y1 y2
end
end Go.Proofs.Ytogoiikgiohlhaa.Sm
