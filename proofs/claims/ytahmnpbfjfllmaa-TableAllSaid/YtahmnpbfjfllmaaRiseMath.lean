/- The full slots of a table, in the order of their keys: plain facts. -/
import Derived.Test.YtahmnpbfjfllmaaMem
import Derived.Test.YtahmnpbfjfllmaaKeyMath
import Derived.Sort.Statements
namespace Go.Proofs.Ytahmnpbfjfllmaa
open Go Go.RowKit

def fullL (S : Nat → SlotI) : Nat → List SlotI
  | 0 => []
  | c + 1 => fullL S c ++ (if (S c).st = 1 then [S c] else [])
section
variable {S : Nat → SlotI} {c : Nat}
theorem mem_fullL {x : SlotI} : ∀ {c : Nat}, x ∈ fullL S c ↔ ∃ p, p < c ∧ (S p).st = 1 ∧ x = S p
  | 0 => ⟨fun h => by simp [fullL] at h, fun ⟨p, h, _⟩ => by omega⟩
  | c + 1 => by
    unfold fullL
    rw [List.mem_append, mem_fullL]
    constructor
    · rintro (⟨p, h1, h2, h3⟩ | h)
      · exact ⟨p, by omega, h2, h3⟩
      · by_cases e : (S c).st = 1
        · rw [if_pos e, List.mem_singleton] at h
          exact ⟨c, by omega, e, h⟩
        · rw [if_neg e] at h; simp at h
    · rintro ⟨p, h1, h2, h3⟩
      by_cases e : p = c
      · subst e
        right
        rw [if_pos h2, h3]; simp
      · exact .inl ⟨p, by omega, h2, h3⟩
theorem len_fullL : ∀ c, (fullL S c).length = Tab.fulls S c
  | 0 => rfl
  | c + 1 => by
    unfold fullL Tab.fulls Tab.cnt
    rw [List.length_append, len_fullL c]
    unfold Tab.fulls
    by_cases e : (S c).st = 1
    · rw [if_pos e, if_pos (by simpa using e)]; rfl
    · rw [if_neg e, if_neg (by simpa using e)]; rfl
/-- No key stands twice. -/
theorem apart_fullL (h : Tab.Inv S c) : ∀ n, n ≤ c → (fullL S n).Pairwise fun x y => x.key ≠ y.key
  | 0, _ => List.Pairwise.nil
  | n + 1, hn => by
    unfold fullL
    rw [List.pairwise_append]
    refine ⟨apart_fullL h n (by omega), ?_, ?_⟩
    · split <;> simp
    · intro x hx y hy e
      by_cases e1 : (S n).st = 1
      · rw [if_pos e1, List.mem_singleton] at hy
        subst hy
        obtain ⟨p, hp, h1, rfl⟩ := mem_fullL.1 hx
        obtain ⟨j, hj, hjp⟩ := h.reach n (by omega) e1
        have := h.at hj (p := p) (by omega) h1 e
        omega
      · rw [if_neg e1] at hy; simp at hy
end
/-- A table's rows, rising. -/
structure RiseOf (S : Nat → SlotI) (c : Nat) (L : List SlotI) : Prop where
  mem : ∀ x, x ∈ L ↔ ∃ p, p < c ∧ (S p).st = 1 ∧ x = S p
  up : L.Pairwise fun x y => cmpB x.key y.key < 0
  len : L.length = Tab.fulls S c
  key : ∀ x ∈ L, x.key.length = 32
theorem rise_of {S : Nat → SlotI} {c : Nat} {L : List SlotI} (h : Tab.Inv S c) (hk : ∀ p, p < c → (S p).key.length = 32) (hp : L.Perm (fullL S c)) (hs : L.Pairwise fun x y => ¬ cmpB y.key x.key < 0) : RiseOf S c L := by
  have hm : ∀ x, x ∈ L ↔ ∃ p, p < c ∧ (S p).st = 1 ∧ x = S p := fun x => hp.mem_iff.trans mem_fullL
  have hkl : ∀ x ∈ L, x.key.length = 32 := fun x hx => by
    obtain ⟨p, hp, _, rfl⟩ := (hm x).1 hx
    exact hk p hp
  refine ⟨hm, ?_, by rw [hp.length_eq, len_fullL], hkl⟩
  have ha : L.Pairwise fun x y => x.key ≠ y.key := (hp.pairwise_iff fun e => fun e2 => e e2.symm).2 (apart_fullL h c (Nat.le_refl _))
  refine (List.pairwise_and_iff.2 ⟨hs, ha⟩).imp_of_mem ?_
  intro x y hx hy hxy
  have q := cmpB_swap x.key y.key ((hkl x hx).trans (hkl y hy).symm)
  rcases Int.lt_trichotomy (cmpB x.key y.key) 0 with e | e | e
  · exact e
  · exact (hxy.2 (q.2.1 e)).elim
  · exact (hxy.1 (q.1.2 e)).elim
/-- Two rows that rise and hold the same are one. -/
theorem rise_unique {α : Type} (key : α → List (BitVec 8)) : ∀ {L M : List α}, (∀ x ∈ L, (key x).length = 32) → (∀ x ∈ M, (key x).length = 32) → L.Pairwise (fun x y => cmpB (key x) (key y) < 0) → M.Pairwise (fun x y => cmpB (key x) (key y) < 0) → (∀ x, x ∈ L ↔ x ∈ M) → L = M
  | [], [], _, _, _, _, _ => rfl
  | [], y :: M, _, _, _, _, h => by have := (h y).2 (by simp); simp at this
  | x :: L, [], _, _, _, _, h => by have := (h x).1 (by simp); simp at this
  | x :: L, y :: M, kL, kM, hL, hM, h => by
    rw [List.pairwise_cons] at hL hM
    have irr : ∀ k : List (BitVec 8), ¬ cmpB k k < 0 := fun k e => by rw [cmpB_refl] at e; omega
    have hxy : x = y := by
      rcases List.mem_cons.1 ((h x).1 (by simp)) with e | e
      · exact e
      · rcases List.mem_cons.1 ((h y).2 (by simp)) with e2 | e2
        · exact e2.symm
        · exact (irr _ (cmpB_trans (key x) (key y) (key x) ((kL x (by simp)).trans (kM y (by simp)).symm) ((kM y (by simp)).trans (kL x (by simp)).symm) (hL.1 y e2) (hM.1 x e))).elim
    subst hxy
    congr 1
    refine rise_unique key (fun z hz => kL z (by simp [hz])) (fun z hz => kM z (by simp [hz])) hL.2 hM.2 fun z => ?_
    constructor
    · intro hz
      rcases List.mem_cons.1 ((h z).1 (by simp [hz])) with e | e
      · subst e
        exact (irr _ (hL.1 z hz)).elim
      · exact e
    · intro hz
      rcases List.mem_cons.1 ((h z).2 (by simp [hz])) with e | e
      · subst e
        exact (irr _ (hM.1 z hz)).elim
      · exact e
/-! The order that the sort goes by. -/
abbrev KSlot := { s : SlotI // s.key.length = 32 }
instance : Inhabited KSlot := ⟨⟨zeroSlot, rfl⟩⟩
def ksC (x : KSlot) : List Value := slotC x.1
theorem len_ksC (x : KSlot) : (ksC x).length = 34 := length_slotC x.2
theorem one_ksC (x : KSlot) : ∀ v ∈ ksC x, v.oneCell' = true := one_slotC x.1
def cmpK (x y : KSlot) : Int := cmpB x.1.key y.1.key
def ltK (x y : KSlot) : Bool := decide (cmpK x y < 0)
theorem swoK : Sort.SWO ltK where
  irrefl x := by unfold ltK cmpK; rw [cmpB_refl]; rfl
  trans x y z h1 h2 := by
    unfold ltK cmpK at *
    rw [decide_eq_true_eq] at *
    exact cmpB_trans _ _ _ (x.2.trans y.2.symm) (y.2.trans z.2.symm) h1 h2
  ntrans x y z h1 h2 := by
    unfold ltK cmpK at *
    rw [decide_eq_false_iff_not] at *
    intro h3
    have q1 := cmpB_swap x.1.key y.1.key (x.2.trans y.2.symm)
    have q2 := cmpB_swap y.1.key z.1.key (y.2.trans z.2.symm)
    by_cases e1 : cmpB x.1.key y.1.key = 0
    · rw [q1.2.1 e1] at h3; exact h2 h3
    · by_cases e2 : cmpB y.1.key z.1.key = 0
      · rw [← q2.2.1 e2] at h3; exact h1 h3
      · have a1 : cmpB y.1.key x.1.key < 0 := q1.1.2 (by omega)
        have a2 : cmpB z.1.key y.1.key < 0 := q2.1.2 (by omega)
        have a3 := cmpB_trans _ _ _ (z.2.trans y.2.symm) (y.2.trans x.2.symm) a2 a1
        have a4 := cmpB_trans _ _ _ (x.2.trans z.2.symm) (z.2.trans x.2.symm) h3 a3
        rw [cmpB_refl] at a4
        omega
/-- The model's words for a sorted row, as a list's. -/
theorem list_sorted (d : Array KSlot) (h : Sort.SortedIn ltK 0 d.size d) : d.toList.Pairwise fun x y => ¬ cmpK y x < 0 := by
  rw [List.pairwise_iff_getElem]
  intro i j hi hj hij
  rw [Array.length_toList] at hi hj
  have := h i j (Nat.zero_le _) hij hj
  rw [getElem!_pos d i hi, getElem!_pos d j hj] at this
  unfold ltK at this
  rw [decide_eq_false_iff_not] at this
  exact this
theorem list_perm (d d' : Array KSlot) (h : Sort.PermIn 0 d.size d d') : d'.toList.Perm d.toList := by
  have h3 := h.2.2
  have e1 : d'.extract 0 d.size = d' := by rw [← h.1]; simp
  have e2 : d.extract 0 d.size = d := by simp
  rwa [e1, e2] at h3
end Go.Proofs.Ytahmnpbfjfllmaa
