/- A table and the document's, beside each other: what a Put, a Delete makes of both. -/
import Derived.Test.YtahmnpbfjfllmaaAlike
import Derived.Test.YtahmnpbfjfllmaaPlayed
namespace Go.Proofs.Ytahmnpbfjfllmaa
open Go Go.RowKit

theorem putNums_eq {c n g c1 n1 g1 c2 n2 g2 : Nat} {A B : Prop} (h : Tab.PutNums c n g c1 n1 g1 A) (k : Tab.PutNums c n g c2 n2 g2 B) (e : A ↔ B) : c1 = c2 ∧ n1 = n2 ∧ g1 = g2 := by
  by_cases ha : A
  · obtain ⟨q1, q2, q3⟩ := h.1 ha
    obtain ⟨r1, r2, r3⟩ := k.1 (e.1 ha)
    omega
  · have hb : ¬ B := fun q => ha (e.2 q)
    obtain ⟨q1, q2, q3⟩ := h.2 ha
    obtain ⟨r1, r2, r3⟩ := k.2 hb
    by_cases hc : 4 * (n + g + 1) ≤ 3 * c
    · have := q2 hc
      have := r2 hc
      omega
    · obtain ⟨q4, q5⟩ := q3 (by omega)
      obtain ⟨r4, r5⟩ := r3 (by omega)
      exact ⟨q4.unique r4, by omega, by omega⟩
theorem delNums_eq {c n g c1 n1 g1 c2 n2 g2 : Nat} (h : Tab.DelNums c n g c1 n1 g1) (k : Tab.DelNums c n g c2 n2 g2) : c1 = c2 ∧ n1 = n2 ∧ g1 = g2 := by
  obtain ⟨q1, q2, q3⟩ := h
  obtain ⟨r1, r2, r3⟩ := k
  have hn : n1 = n2 := by omega
  subst hn
  by_cases hc : 8 < c ∧ 8 * n1 < c
  · obtain ⟨q4, q5⟩ := q2 hc
    obtain ⟨r4, r5⟩ := r2 hc
    exact ⟨q4.unique r4, rfl, by omega⟩
  · have := q3 hc
    have := r3 hc
    omega
theorem rput_any {w : World} {x : Nat} {a : Option Addr} {cp : Nat} {L : List KV} {cap dead : Nat} (h : RefAt w x a cp L cap dead) (k : List (BitVec 8)) (hk : k.length = 32) (v : Int) (hL : L.length ≤ 90000) (hcap : cap ≤ 1048576) (hdead : dead ≤ 1048576) :
    Calls Try.prog 33 #[.pointer (some ⟨x, 0, none⟩), .agg (k.map U8).toArray, .int .i64 v] w (RPutPost w x L cap dead k v) := by
  by_cases e : ∃ p ∈ L, p.key = k
  · exact rput_same h k hk v e (by omega)
  · exact rput_new h k hk v (fun p hp e2 => e ⟨p, hp, e2⟩) hL hcap hdead
/-- What lies apart. -/
structure Aside (B h b x : Nat) (a : Option Addr) : Prop where
  hx : h ≠ x
  bx : b ≠ x
  ao : ∀ ad, a = some ad → ad.block ≠ h ∧ ad.block ≠ b ∧ ad.block ≠ x
  hB : B ≤ h
  bB : B ≤ b
  xB : B ≤ x
  aB : ∀ ad, a = some ad → B ≤ ad.block
section
variable {w w' : World} {B h b c n g x cp : Nat} {S : Nat → SlotI} {a : Option Addr} {L : List KV}
theorem Both.touch {F : Nat → Prop} (q : Both w h b c S n g x a cp L) (t : Touch F w w') (h1 : ¬ F h) (h2 : ¬ F b) (h3 : ¬ F x) (h4 : ∀ ad, a = some ad → ¬ F ad.block) : Both w' h b c S n g x a cp L :=
  ⟨q.tab.touch t h1 h2, q.ref.touch t h3 h4, q.sim, q.len⟩
theorem Both.drewN (q : Both w h b c S n g x a cp L) (m : Nat) : Both (w.drewN m) h b c S n g x a cp L := q.touch (F := fun _ => False) ((Touch.refl _ _).drewN m) id id id fun _ _ => id
/-- The table behind its own Put; the document's not yet. -/
structure Half12 (w : World) (h b c : Nat) (S : Nat → SlotI) (n g : Nat) (x : Nat) (a : Option Addr) (cp : Nat) (L : List KV) (c0 g0 : Nat) : Prop where
  tab : TabAt w h b c S n g
  ref : RefAt w x a cp L c0 g0
theorem Both.half (q : Both w h b c S n g x a cp L) (z : Aside B h b x a) {b' c' n' g' : Nat} {S' : Nat → SlotI} (t : TabAt w' h b' c' S' n' g') (k : Touch (fun y => y = h ∨ y = b) w w') : Half12 w' h b' c' S' n' g' x a cp L c g :=
  ⟨t, q.ref.touch k (fun e => by rcases e with e | e; exact z.hx e.symm; exact z.bx e.symm) fun ad e f => by rcases f with f | f; exact (z.ao ad e).1 f; exact (z.ao ad e).2.1 f⟩
theorem Half12.drewN {c0 g0 : Nat} (q : Half12 w h b c S n g x a cp L c0 g0) (m : Nat) : Half12 (w.drewN m) h b c S n g x a cp L c0 g0 :=
  ⟨q.tab.touch (F := fun _ => False) ((Touch.refl _ _).drewN m) id id, q.ref.touch (F := fun _ => False) ((Touch.refl _ _).drewN m) id fun _ _ => id⟩
theorem Half12.put {c0 n0 g0 b0 : Nat} {S0 : Nat → SlotI} {k : List (BitVec 8)} {v : Int} {a' : Option Addr} {cp' cap' dead' : Nat} {L' : List KV} (q : Half12 w h b c S n g x a cp L c0 g0) (hb : b ≠ x) (hh : h ≠ x) (hsim : Sim S0 c0 L) (hlen : L.length = n0) (hk : k.length = 32)
    (hS : ∀ k' v', Tab.Has S c k' v' ↔ (k' = k ∧ v' = v) ∨ (k' ≠ k ∧ Tab.Has S0 c0 k' v')) (hN : Tab.PutNums c0 n0 g0 c n g (∃ v0, Tab.Has S0 c0 k v0))
    (r : RefAt w' x a' cp' L' cap' dead') (hs : PutSpec L k v L') (hM : Tab.PutNums c0 L.length g0 cap' L'.length dead' (∃ p ∈ L, p.key = k)) (t : Touch (fun y => y = x) w w') : Both w' h b c S n g x a' cp' L' := by
  rw [hlen] at hM
  obtain ⟨e1, e2, e3⟩ := putNums_eq hN hM (hsim.had k)
  subst e1 e3
  exact ⟨q.tab.touch t hh hb, r, hsim.put hk hS hs, e2.symm⟩
theorem Half12.del {c0 n0 g0 b0 : Nat} {S0 : Nat → SlotI} {k : List (BitVec 8)} {a' : Option Addr} {cp' cap' dead' i : Nat} (hi : i < L.length) (q : Half12 w h b c S n g x a cp L c0 g0) (hb : b ≠ x) (hh : h ≠ x) (hsim : Sim S0 c0 L) (hlen : L.length = n0)
    (hS : ∀ k' v', Tab.Has S c k' v' ↔ k' ≠ k ∧ Tab.Has S0 c0 k' v') (hN : Tab.DelNums c0 n0 g0 c n g) (hik : L[i].key = k)
    (r : RefAt w' x a' cp' (L.take i ++ L.drop (i + 1)) cap' dead') (hM : Tab.DelNums c0 L.length g0 cap' (L.take i ++ L.drop (i + 1)).length dead') (t : Touch (fun y => y = x) w w') : Both w' h b c S n g x a' cp' (L.take i ++ L.drop (i + 1)) := by
  rw [hlen] at hM
  obtain ⟨e1, e2, e3⟩ := delNums_eq hN hM
  subst e1 e3
  exact ⟨q.tab.touch t hh hb, r, hsim.del hS hi hik, e2.symm⟩
end
/-- What the law's loop leaves. -/
def PlaysRel (w : World) (l : List Call) (h x : Nat) (iv : Value) (wr : World) : Prop :=
  ∃ (i b c : Nat) (S : Nat → SlotI) (n g : Nat) (a : Option Addr) (cp : Nat) (L : List KV), i ≤ l.length ∧ iv = .int .i64 i ∧ Both wr h b c S n g x a cp L ∧ Aside w.heap.size h b x a ∧ n ≤ i ∧ g ≤ i ∧ Below w.heap.size w wr
theorem built_rtab : Program.built Try.prog 63 [(1, .int .i64 8)] = some (rheadC none 0 0 8 0) := by kernel_rfl
theorem putNums_dead {c n g c' n' g' : Nat} {A : Prop} (h : Tab.PutNums c n g c' n' g' A) : g' ≤ g ∧ n' ≤ n + 1 := by
  by_cases ha : A
  · have := h.1 ha; omega
  · have := h.2 ha
    by_cases hc : 4 * (n + g + 1) ≤ 3 * c
    · have := this.2.1 hc; omega
    · have := (this.2.2 (by omega)).2; omega
theorem delNums_dead {c n g c' n' g' : Nat} (h : Tab.DelNums c n g c' n' g') : g' ≤ g + 1 ∧ n' ≤ n := by
  by_cases hc : 8 < c ∧ 8 * n' < c
  · have := (h.2.1 hc).2; have := h.1; omega
  · have := h.2.2 hc; have := h.1; omega
end Go.Proofs.Ytahmnpbfjfllmaa
