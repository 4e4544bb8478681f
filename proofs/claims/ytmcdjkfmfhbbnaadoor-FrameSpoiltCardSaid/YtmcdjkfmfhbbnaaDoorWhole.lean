/- What a segment's bytes hold: plain mathematics. -/
import Derived.Test.YtmcdjkfmfhbbnaaDoorScan
import Derived.Test.YtmcdjkfmfhbbnaaDoorFLaws
namespace Go.Proofs.YtmcdjkfmfhbbnaaDoor
open Go Go.RowKit

def packs (es : List Ent) : List (BitVec 8) := es.flatMap encB
def places : Nat → List Ent → List Fd
  | _, [] => []
  | p, e :: es => ⟨e, p, size e⟩ :: places (p + size e) es
def Good (e : Ent) : Prop := e.key.length = 32 ∧ chk e = 0
theorem scan_packs : ∀ (es : List Ent) (pre : List (BitVec 8)) (f : Nat), (∀ e ∈ es, Good e) → (packs es).length ≤ f →
    scanM f (pre ++ packs es) pre.length = (places pre.length es, (pre ++ packs es).length, 0)
  | [], pre, f, _, _ => by
    rw [scan_end _ _ _ (by simp [packs])]
    simp [packs, places]
  | e :: es, pre, f, hg, hf => by
    obtain ⟨hk, hc⟩ := hg e (by simp)
    have hle := length_encB hk hc
    have h9 := (parts e hk hc).size9
    have hp : packs (e :: es) = encB e ++ packs es := by simp [packs]
    rw [hp] at hf ⊢
    rw [List.length_append] at hf
    obtain ⟨f, rfl⟩ : ∃ f', f = f' + 1 := ⟨f - 1, by omega⟩
    have hd : (pre ++ (encB e ++ packs es)).drop pre.length = encB e ++ packs es := by simp
    have hR : rd ((pre ++ (encB e ++ packs es)).drop pre.length) = ⟨e, size e, 0⟩ := by rw [hd]; exact rd_enc e hk hc _
    rw [scan_yes (by simp; omega) hR rfl]
    have ih := scan_packs es (pre ++ encB e) f (fun x hx => hg x (by simp [hx])) (by omega)
    rw [List.append_assoc, List.length_append, hle] at ih
    rw [ih]
    rfl
theorem scanT_packs (es : List Ent) (hg : ∀ e ∈ es, Good e) : scanT (magicL ++ packs es) = (places 8 es, (magicL ++ packs es).length, 0) := by
  unfold scanT
  have h8 : magicL.length = 8 := rfl
  rw [if_pos (by rw [List.take_append_of_le_length (by rw [h8]; exact Nat.le_refl _)]; rfl)]
  have q := scan_packs es magicL ((magicL ++ packs es).length) hg (by simp)
  rw [h8] at q
  exact q
theorem places_length : ∀ (es : List Ent) (p : Nat), (places p es).length = es.length
  | [], _ => rfl
  | e :: es, p => by rw [places, List.length_cons, places_length es, List.length_cons]
/-- Where the i-th stands. -/
def startAt (es : List Ent) (i : Nat) : Nat := 8 + (packs (es.take i)).length
theorem places_at : ∀ (es : List Ent) (p i : Nat) (hi : i < es.length) (h : ∀ e ∈ es, Good e), (places p es)[i]'(by rw [places_length]; exact hi) = ⟨es[i], p + (packs (es.take i)).length, size es[i]⟩
  | e :: es, p, 0, _, _ => by simp [places, packs]
  | e :: es, p, i + 1, hi, h => by
    obtain ⟨hk, hc⟩ := h e (by simp)
    have ih := places_at es (p + size e) i (by simpa using hi) (fun x hx => h x (by simp [hx]))
    have hle := length_encB hk hc
    simp only [places, List.getElem_cons_succ]
    rw [ih]
    simp only [List.take_succ_cons, packs, List.flatMap_cons, List.length_append]
    congr 1
    rw [hle]
    omega
theorem packs_snoc (es : List Ent) (e : Ent) : packs (es ++ [e]) = packs es ++ encB e := by simp [packs]
end Go.Proofs.YtmcdjkfmfhbbnaaDoor
