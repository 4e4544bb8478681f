/- Few of one entry. -/
import Derived.Test.YtmcdjkfmfhbbnaaDoorSameE
namespace Go.Proofs.YtmcdjkfmfhbbnaaDoor
open Go Go.RowKit

theorem zero_ent (w : World) : Sem.run Tryd.prog (zeroValue 26) w = .ok (.agg (entC zeroEnt (.slice none 0 0)).toArray) w := by kernel_rfl
theorem itAt_lit (w : World) (e : Ent) (a : Option Addr) (cap : Nat) (T : TypeId) (hk : e.key.length = 32) (hr : Reads w a cap e.data) :
    ItAt (w.alloc (.cells (entC e (.slice a e.data.length cap)).toArray T)) w.heap.size 0 ⟨e, a, cap, []⟩ := by
  refine ⟨?_, hk, hr.keeps (Keeps.alloc _ _)⟩
  have h := rangeAt_row (heap_alloc_new w (.cells (entC e (.slice a e.data.length cap)).toArray T))
  rw [List.toList_toArray] at h
  intro j v hv
  refine h j v ?_
  unfold Item.cells Item.dv at hv
  simpa using hv
/-- One entry, cut, in memory of its own. -/
def OnePost (w : World) (e : Ent) (en : Ending) (w' : World) : Prop :=
  ∃ g c a cap, en = .returned (.slice (some ⟨g, 0, none⟩) 1 c) ∧ w'.rangeAt g 0 (entC e (.slice a e.data.length cap)) ∧ Reads w' a cap e.data ∧ (∀ ad, a = some ad → w.heap.size ≤ ad.block) ∧ Below w.heap.size w w'
def OnePost' (w : World) (e : Ent) (en : Ending) (w' : World) : Prop :=
  ∃ g c a cap, en = .returned (.slice (some ⟨g, 0, none⟩) 1 c) ∧ w'.rangeAt g 0 (entC e (.slice a e.data.length cap)) ∧ Reads w' a cap e.data ∧ (∀ ad, a = some ad → w.heap.size ≤ ad.block) ∧ Below w.heap.size w w' ∧ w.heap.size ≤ g
theorem few_one' (e : Ent) (a : Option Addr) (cap g long : Nat) (w : World) (hlong : long ≤ 1048576) (hit : ItAt w g 0 ⟨e, a, cap, []⟩) :
    Calls Tryd.prog 11 #[.slice (some ⟨g, 0, none⟩) 1 1, .int .i64 1, .int .i64 long] w (OnePost' w (cutE long e)) := by
  have hI : Its 34 w (some ⟨g, 0, none⟩) 1 [⟨e, a, cap, []⟩] := ⟨Nat.le_refl _, by omega, .inr ⟨g, 0, rfl, fun i hi => by
    have : i = 0 := by simpa using hi
    subst this
    exact hit⟩⟩
  refine (few_any (some ⟨g, 0, none⟩) 1 [⟨e, a, cap, []⟩] 1 long w (by decide) hlong hI).mono ?_
  rintro en w' ⟨v, l, rfl, ho, hm, hf, hb⟩
  have hm : l.map Item.ent = [cutE long e] := hm
  have hl1 : l.length = 1 := by have := congrArg List.length hm; simpa using this
  obtain ⟨x, rfl⟩ := List.length_eq_one_iff.1 hl1
  have hx : x.ent = cutE long e := by simpa using hm
  obtain ⟨a', c', rfl, hI', hg⟩ := ho.form
  obtain ⟨b, off, e1, hr⟩ := hI'.rows.resolve_left (by simp)
  obtain ⟨g', e2, _, hgB, _⟩ := hg.resolve_left (by simp)
  rw [e2] at e1
  injection e1 with e1
  injection e1 with e1 e3
  subst e1 e3
  have h0 := hr 0 (by simp)
  rw [show (0 + 0 * 34) = 0 from rfl] at h0
  have hr0 := h0.range
  unfold Item.dv at hr0
  have hd := h0.data
  rw [show (itAt [x] 0) = x from rfl, hx] at hr0 hd
  subst e2
  exact ⟨g', c', x.a, x.cap, rfl, hr0, hd, (hf x (by simp)).2, hb, hgB⟩
theorem few_one (e : Ent) (a : Option Addr) (cap g long : Nat) (w : World) (hlong : long ≤ 1048576) (hit : ItAt w g 0 ⟨e, a, cap, []⟩) :
    Calls Tryd.prog 11 #[.slice (some ⟨g, 0, none⟩) 1 1, .int .i64 1, .int .i64 long] w (OnePost w (cutE long e)) :=
  (few_one' e a cap g long w hlong hit).mono fun _ _ ⟨g, c, a, cap, h1, h2, h3, h4, h5, _⟩ => ⟨g, c, a, cap, h1, h2, h3, h4, h5⟩
theorem cutE_cutE (n : Nat) (e : Ent) : cutE n (cutE n e) = cutE n e := by
  unfold cutE
  simp [List.take_take]
end Go.Proofs.YtmcdjkfmfhbbnaaDoor
