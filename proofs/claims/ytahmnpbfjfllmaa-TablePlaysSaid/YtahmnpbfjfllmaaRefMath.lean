/- The document's own table in plain mathematics: pairs in the order of their keys; how it goes beside a table of slots. -/
import Derived.Test.YtahmnpbfjfllmaaRiseMath
namespace Go.Proofs.Ytahmnpbfjfllmaa
open Go Go.RowKit

structure KV where
  key : List (BitVec 8)
  val : Int
deriving DecidableEq
def kvAt (L : List KV) (i : Nat) : KV := L.getD i ⟨[], 0⟩
theorem kvAt_lt {L : List KV} {i : Nat} (h : i < L.length) : kvAt L i = L[i] := by simp [kvAt, List.getD_eq_getElem?_getD, List.getElem?_eq_getElem h]
/-- Where a key stands among them; none: nowhere. -/
def AtOf (L : List KV) (k : List (BitVec 8)) (at_ : Int) : Prop := (at_ = -1 ∧ ∀ p ∈ L, p.key ≠ k) ∨ ∃ i : Nat, ∃ h : i < L.length, at_ = i ∧ L[i].key = k
/-- What a Put makes of them. -/
def PutSpec (L : List KV) (k : List (BitVec 8)) (v : Int) (L' : List KV) : Prop :=
  (∃ i : Nat, ∃ h : i < L.length, L[i].key = k ∧ L' = L.set i ⟨k, v⟩) ∨
  ((∀ p ∈ L, p.key ≠ k) ∧ ∃ j, j ≤ L.length ∧ (∀ m (h : m < L.length), m < j → ¬ cmpB k L[m].key < 0) ∧ (∀ h : j < L.length, cmpB k L[j].key < 0) ∧ L' = L.take j ++ ⟨k, v⟩ :: L.drop j)
/-- The document's pairs are the table's. -/
structure Sim (S : Nat → SlotI) (c : Nat) (L : List KV) : Prop where
  has : ∀ k v, Tab.Has S c k v ↔ ⟨k, v⟩ ∈ L
  up : L.Pairwise fun x y => cmpB x.key y.key < 0
  key : ∀ p ∈ L, p.key.length = 32
section
variable {S S' : Nat → SlotI} {c c' : Nat} {L L' : List KV} {k : List (BitVec 8)} {v : Int}
theorem cmpB_irr (k : List (BitVec 8)) : ¬ cmpB k k < 0 := fun e => by rw [cmpB_refl] at e; omega
theorem cmpB_asym {k m : List (BitVec 8)} (hk : k.length = 32) (hm : m.length = 32) (h1 : cmpB k m < 0) (h2 : cmpB m k < 0) : False := cmpB_irr k (cmpB_trans k m k (hk.trans hm.symm) (hm.trans hk.symm) h1 h2)
theorem cmpB_tri {k m : List (BitVec 8)} (hk : k.length = 32) (hm : m.length = 32) (h1 : ¬ cmpB k m < 0) (h2 : k ≠ m) : cmpB m k < 0 := by
  have q := cmpB_swap k m (hk.trans hm.symm)
  rcases Int.lt_trichotomy (cmpB k m) 0 with e | e | e
  · exact (h1 e).elim
  · exact (h2 (q.2.1 e)).elim
  · exact q.1.2 e
theorem Sim.one (h : Sim S c L) {p q : KV} (hp : p ∈ L) (hq : q ∈ L) (e : p.key = q.key) : p = q := by
  obtain ⟨i, hi, rfl⟩ := List.getElem_of_mem hp
  obtain ⟨j, hj, rfl⟩ := List.getElem_of_mem hq
  rcases Nat.lt_trichotomy i j with hij | hij | hij
  · have := List.pairwise_iff_getElem.1 h.up i j hi hj hij
    rw [e] at this
    exact (cmpB_irr _ this).elim
  · subst hij; rfl
  · have := List.pairwise_iff_getElem.1 h.up j i hj hi hij
    rw [e] at this
    exact (cmpB_irr _ this).elim
theorem Sim.had (h : Sim S c L) (k : List (BitVec 8)) : (∃ v, Tab.Has S c k v) ↔ ∃ p ∈ L, p.key = k := by
  constructor
  · rintro ⟨v, hv⟩
    exact ⟨_, (h.has k v).1 hv, rfl⟩
  · rintro ⟨p, hp, rfl⟩
    exact ⟨p.val, (h.has _ _).2 hp⟩
theorem Sim.put (h : Sim S c L) (hk : k.length = 32) (hS : ∀ k' v', Tab.Has S' c' k' v' ↔ (k' = k ∧ v' = v) ∨ (k' ≠ k ∧ Tab.Has S c k' v')) (hp : PutSpec L k v L') : Sim S' c' L' := by
  rcases hp with ⟨i, hi, hik, rfl⟩ | ⟨hno, j, hj, hlo, hhi, rfl⟩
  · have hmem : ∀ p, p ∈ L.set i ⟨k, v⟩ ↔ p = ⟨k, v⟩ ∨ (p.key ≠ k ∧ p ∈ L) := by
      intro p
      constructor
      · intro hp
        obtain ⟨m, hm, rfl⟩ := List.getElem_of_mem hp
        rw [List.length_set] at hm
        by_cases e : m = i
        · subst e; left; simp
        · right
          rw [List.getElem_set_ne (fun e2 => e e2.symm)]
          refine ⟨fun e2 => ?_, List.getElem_mem _⟩
          have e3 : L[m] = L[i] := h.one (List.getElem_mem hm) (List.getElem_mem hi) (e2.trans hik.symm)
          rcases Nat.lt_trichotomy m i with hmi | hmi | hmi
          · have := List.pairwise_iff_getElem.1 h.up m i hm hi hmi
            rw [e3] at this; exact cmpB_irr _ this
          · exact e hmi
          · have := List.pairwise_iff_getElem.1 h.up i m hi hm hmi
            rw [e3] at this; exact cmpB_irr _ this
      · rintro (rfl | ⟨h1, h2⟩)
        · exact List.mem_iff_getElem.2 ⟨i, by rw [List.length_set]; exact hi, by simp⟩
        · obtain ⟨m, hm, rfl⟩ := List.getElem_of_mem h2
          have e : m ≠ i := fun e => by subst e; exact h1 hik
          exact List.mem_iff_getElem.2 ⟨m, by rw [List.length_set]; exact hm, by rw [List.getElem_set_ne (fun e2 => e e2.symm)]⟩
    refine ⟨fun k' v' => ?_, ?_, fun p hp => ?_⟩
    · rw [hS, hmem, h.has]
      simp only [KV.mk.injEq]
    · rw [List.pairwise_iff_getElem]
      intro a b ha hb hab
      rw [List.length_set] at ha hb
      have q := List.pairwise_iff_getElem.1 h.up a b ha hb hab
      by_cases ea : a = i
      · subst ea
        rw [List.getElem_set_self, List.getElem_set_ne (by omega)]
        rw [hik] at q; exact q
      · by_cases eb : b = i
        · subst eb
          rw [List.getElem_set_self, List.getElem_set_ne (by omega)]
          rw [hik] at q; exact q
        · rw [List.getElem_set_ne (by omega), List.getElem_set_ne (by omega)]; exact q
    · rcases (hmem p).1 hp with rfl | ⟨_, h2⟩
      · exact hk
      · exact h.key p h2
  · have hmem : ∀ p, p ∈ L.take j ++ ⟨k, v⟩ :: L.drop j ↔ p = ⟨k, v⟩ ∨ (p.key ≠ k ∧ p ∈ L) := by
      intro p
      rw [List.mem_append, List.mem_cons]
      constructor
      · rintro (h1 | rfl | h1)
        · exact .inr ⟨hno p (List.mem_of_mem_take h1), List.mem_of_mem_take h1⟩
        · exact .inl rfl
        · exact .inr ⟨hno p (List.mem_of_mem_drop h1), List.mem_of_mem_drop h1⟩
      · rintro (rfl | ⟨_, h1⟩)
        · exact .inr (.inl rfl)
        · rw [← List.take_append_drop j L, List.mem_append] at h1
          rcases h1 with h1 | h1
          · exact .inl h1
          · exact .inr (.inr h1)
    refine ⟨fun k' v' => ?_, ?_, fun p hp => ?_⟩
    · rw [hS, hmem, h.has]
      simp only [KV.mk.injEq]
    · have hu := h.up
      rw [← List.take_append_drop j L, List.pairwise_append] at hu
      rw [List.pairwise_append, List.pairwise_cons]
      have below : ∀ p ∈ L.take j, cmpB p.key k < 0 := by
        intro p hp
        obtain ⟨m, hm, e⟩ := List.getElem_of_mem hp
        rw [List.length_take] at hm
        rw [List.getElem_take] at e
        have hpL := List.mem_of_mem_take hp
        have := hlo m (by omega) (by omega)
        rw [e] at this
        exact cmpB_tri hk (h.key p hpL) this fun e2 => hno p hpL e2.symm
      have above : ∀ p ∈ L.drop j, cmpB k p.key < 0 := by
        intro p hp
        have hpL := List.mem_of_mem_drop hp
        obtain ⟨m, hm, e⟩ := List.getElem_of_mem hp
        rw [List.length_drop] at hm
        rw [List.getElem_drop] at e
        have hj2 : j < L.length := by omega
        have h0 := hhi hj2
        by_cases e0 : m = 0
        · subst e0; rw [← e]; exact h0
        · have := List.pairwise_iff_getElem.1 h.up j (j + m) hj2 (by omega) (by omega)
          rw [e] at this
          exact cmpB_trans k L[j].key p.key (hk.trans (h.key _ (List.getElem_mem hj2)).symm) ((h.key _ (List.getElem_mem hj2)).trans (h.key p hpL).symm) h0 this
      refine ⟨hu.1, ⟨above, hu.2.1⟩, fun x hx y hy => ?_⟩
      rcases List.mem_cons.1 hy with rfl | hy
      · exact below x hx
      · exact hu.2.2 x hx y hy
    · rcases (hmem p).1 hp with rfl | ⟨_, h2⟩
      · exact hk
      · exact h.key p h2
theorem Sim.del (h : Sim S c L) (hS : ∀ k' v', Tab.Has S' c' k' v' ↔ k' ≠ k ∧ Tab.Has S c k' v') {i : Nat} (hi : i < L.length) (hik : L[i].key = k) : Sim S' c' (L.take i ++ L.drop (i + 1)) := by
  have hL : L = L.take i ++ L[i] :: L.drop (i + 1) := by rw [List.getElem_cons_drop, List.take_append_drop]
  have hu := h.up
  rw [hL, List.pairwise_append, List.pairwise_cons] at hu
  have hmem : ∀ p, p ∈ L.take i ++ L.drop (i + 1) ↔ p.key ≠ k ∧ p ∈ L := by
    intro p
    constructor
    · intro hp
      refine ⟨fun e => ?_, ?_⟩
      · rcases List.mem_append.1 hp with hp | hp
        · have := hu.2.2 p hp L[i] List.mem_cons_self
          rw [e, hik] at this; exact cmpB_irr _ this
        · have := hu.2.1.1 p hp
          rw [e, hik] at this; exact cmpB_irr _ this
      · rcases List.mem_append.1 hp with hp | hp
        · exact List.mem_of_mem_take hp
        · exact List.mem_of_mem_drop hp
    · rintro ⟨h1, h2⟩
      rw [hL, List.mem_append, List.mem_cons] at h2
      rcases h2 with h2 | h2 | h2
      · exact List.mem_append.2 (.inl h2)
      · exact (h1 (h2 ▸ hik)).elim
      · exact List.mem_append.2 (.inr h2)
  refine ⟨fun k' v' => ?_, ?_, fun p hp => h.key p ((hmem p).1 hp).2⟩
  · rw [hS, hmem, h.has]
  · rw [List.pairwise_append]
    exact ⟨hu.1, hu.2.1.2, fun x hx y hy => hu.2.2 x hx y (List.mem_cons_of_mem _ hy)⟩
theorem Sim.rise {R : List SlotI} (h : Sim S c L) (hR : RiseOf S c R) : R.map (fun s => (⟨s.key, s.val⟩ : KV)) = L := by
  refine rise_unique (fun p : KV => p.key) ?_ h.key ?_ h.up ?_
  · intro x hx
    obtain ⟨s, hs, rfl⟩ := List.mem_map.1 hx
    exact hR.key s hs
  · rw [List.pairwise_map]; exact hR.up
  · intro p
    constructor
    · intro hp
      obtain ⟨s, hs, rfl⟩ := List.mem_map.1 hp
      obtain ⟨q, hq, h1, rfl⟩ := (hR.mem s).1 hs
      exact (h.has _ _).1 ⟨q, hq, h1, rfl, rfl⟩
    · intro hp
      obtain ⟨q, hq, h1, h2, h3⟩ := (h.has p.key p.val).2 hp
      refine List.mem_map.2 ⟨S q, (hR.mem _).2 ⟨q, hq, h1, rfl⟩, ?_⟩
      rw [h2, h3]
theorem Sim.len {R : List SlotI} (h : Sim S c L) (hR : RiseOf S c R) : L.length = Tab.fulls S c := by
  rw [← hR.len, ← h.rise hR, List.length_map]
theorem Sim.keys {R : List SlotI} (h : Sim S c L) (hR : RiseOf S c R) : R.map (·.key) = L.map (·.key) := by
  rw [← h.rise hR, List.map_map]; rfl
/-- Whatever a table has, some pairs are its. -/
theorem sim_exists (hi : Tab.Inv S c) (hk : ∀ p, p < c → (S p).key.length = 32) {R : List SlotI} (hR : RiseOf S c R) : Sim S c (R.map fun s => ⟨s.key, s.val⟩) := by
  refine ⟨fun k v => ?_, ?_, fun p hp => ?_⟩
  · constructor
    · rintro ⟨q, hq, h1, h2, h3⟩
      exact List.mem_map.2 ⟨S q, (hR.mem _).2 ⟨q, hq, h1, rfl⟩, by rw [h2, h3]⟩
    · intro hp
      obtain ⟨s, hs, e⟩ := List.mem_map.1 hp
      obtain ⟨q, hq, h1, rfl⟩ := (hR.mem s).1 hs
      injection e with e1 e2
      exact ⟨q, hq, h1, e1, e2⟩
  · rw [List.pairwise_map]; exact hR.up
  · obtain ⟨s, hs, rfl⟩ := List.mem_map.1 hp
    exact hR.key s hs
theorem putSpec_len (h : PutSpec L k v L') : ((∃ p ∈ L, p.key = k) → L'.length = L.length) ∧ (¬ (∃ p ∈ L, p.key = k) → L'.length = L.length + 1) := by
  rcases h with ⟨i, hi, hik, rfl⟩ | ⟨hno, j, hj, _, _, rfl⟩
  · exact ⟨fun _ => List.length_set, fun q => (q ⟨L[i], List.getElem_mem hi, hik⟩).elim⟩
  · refine ⟨fun ⟨p, hp, e⟩ => (hno p hp e).elim, fun _ => ?_⟩
    rw [List.length_append, List.length_cons, List.length_take, List.length_drop]; omega
end
end Go.Proofs.Ytahmnpbfjfllmaa
