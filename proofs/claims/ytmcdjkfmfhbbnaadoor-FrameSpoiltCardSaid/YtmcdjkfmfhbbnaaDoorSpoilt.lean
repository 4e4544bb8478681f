/- A segment of which one entry is spoilt: plain mathematics. -/
import Derived.Test.YtmcdjkfmfhbbnaaDoorSegment
namespace Go.Proofs.YtmcdjkfmfhbbnaaDoor
open Go Go.RowKit

theorem scan_ahead : ∀ (es : List Ent) (pre rest : List (BitVec 8)) (f : Nat), (∀ e ∈ es, Good e) → (packs es).length ≤ f →
    ∃ X, (scanM f (pre ++ (packs es ++ rest)) pre.length).1 = places pre.length es ++ X
  | [], pre, rest, f, _, _ => ⟨(scanM f (pre ++ (packs [] ++ rest)) pre.length).1, by simp [places]⟩
  | e :: es, pre, rest, f, hg, hf => by
    obtain ⟨hk, hc⟩ := hg e (by simp)
    have hle := length_encB hk hc
    have h9 := (parts e hk hc).size9
    have hp : packs (e :: es) = encB e ++ packs es := by simp [packs]
    rw [hp] at hf ⊢
    rw [List.length_append] at hf
    obtain ⟨f, rfl⟩ : ∃ f', f = f' + 1 := ⟨f - 1, by omega⟩
    rw [List.append_assoc]
    have hd : (pre ++ (encB e ++ (packs es ++ rest))).drop pre.length = encB e ++ (packs es ++ rest) := by simp
    have hR : rd ((pre ++ (encB e ++ (packs es ++ rest))).drop pre.length) = ⟨e, size e, 0⟩ := by rw [hd]; exact rd_enc e hk hc _
    rw [scan_yes (by simp; omega) hR rfl]
    obtain ⟨X, hX⟩ := scan_ahead es (pre ++ encB e) rest f (fun x hx => hg x (by simp [hx])) (by omega)
    rw [List.append_assoc, List.length_append, hle] at hX
    refine ⟨X, ?_⟩
    simp only [places, List.cons_append]
    rw [hX]
theorem scanT_ahead (es : List Ent) (rest : List (BitVec 8)) (hg : ∀ e ∈ es, Good e) : ∃ X, (scanT (magicL ++ (packs es ++ rest))).1 = places 8 es ++ X := by
  unfold scanT
  have h8 : magicL.length = 8 := rfl
  rw [if_pos (by rw [List.take_append_of_le_length (by rw [h8]; exact Nat.le_refl _)]; rfl)]
  have q := scan_ahead es magicL rest ((magicL ++ (packs es ++ rest)).length) hg (by simp; omega)
  rw [h8] at q
  exact q
theorem packs_split (L : List Ent) (j : Nat) (h : j < L.length) : packs L = packs (L.take j) ++ (encB L[j] ++ packs (L.drop (j + 1))) := by
  have e : L = L.take j ++ (L[j] :: L.drop (j + 1)) := by
    rw [← List.drop_eq_getElem_cons h, List.take_append_drop]
  refine (congrArg packs e).trans ?_
  unfold packs
  rw [List.flatMap_append, List.flatMap_cons]
theorem packs_le : ∀ (es : List Ent), (∀ e ∈ es, Good e) → (packs es).length ≤ es.length * 16425
  | [], _ => by simp [packs]
  | e :: es, h => by
    obtain ⟨hk, hc⟩ := h e (by simp)
    have q := packs_le es fun x hx => h x (by simp [hx])
    have hp : packs (e :: es) = encB e ++ packs es := by simp [packs]
    have := size_le e
    rw [hp, List.length_append, length_encB hk hc, List.length_cons]
    omega
theorem start_le (L : List Ent) (i : Nat) : startAt L i ≤ (magicL ++ packs L).length := by
  have h8 : magicL.length = 8 := rfl
  have e : packs L = packs (L.take i) ++ packs (L.drop i) := by
    refine (congrArg packs (List.take_append_drop i L)).symm.trans ?_
    unfold packs
    rw [List.flatMap_append]
  unfold startAt
  rw [List.length_append, h8, e, List.length_append]
  omega
/-- The bytes with one of the j-th entry's turned. -/
theorem spoilt_ahead (L : List Ent) (j q : Nat) (c : BitVec 8) (h : j < L.length) (hq : startAt L j ≤ q) : ∃ rest, (magicL ++ packs L).set q c = magicL ++ (packs (L.take j) ++ rest) := by
  have h8 : magicL.length = 8 := rfl
  rw [packs_split L j h]
  unfold startAt at hq
  rw [List.set_append_right _ _ (by omega), List.set_append_right _ _ (by omega)]
  exact ⟨_, rfl⟩
theorem spoilt_behind (L : List Ent) (j q : Nat) (c : BitVec 8) (h : j < L.length) (hg : ∀ e ∈ L, Good e) (hq2 : q < startAt L (j + 1)) : ((magicL ++ packs L).set q c).drop (startAt L (j + 1)) = packs (L.drop (j + 1)) := by
  have h8 : magicL.length = 8 := rfl
  rw [List.drop_set_of_lt hq2]
  have e : packs L = packs (L.take (j + 1)) ++ packs (L.drop (j + 1)) := by
    refine (congrArg packs (List.take_append_drop (j + 1) L)).symm.trans ?_
    unfold packs
    rw [List.flatMap_append]
  rw [e, ← List.append_assoc]
  have hl : (magicL ++ packs (L.take (j + 1))).length = startAt L (j + 1) := by rw [List.length_append, h8]; rfl
  rw [← hl]
  simp
theorem ahead_ent {L : List Ent} {LA X : List Fd} {j x : Nat} (h : LA = places 8 (L.take j) ++ X) (hx : x < j) (hj : j ≤ L.length) (hg : ∀ e ∈ L, Good e) (hl : x < LA.length) : LA[x].ent = L[x] := by
  subst h
  have hp : x < (places 8 (L.take j)).length := by rw [places_length, List.length_take]; omega
  rw [List.getElem_append_left hp, places_at (L.take j) 8 x (by rw [List.length_take]; omega) (fun e he => hg e (List.mem_of_mem_take he))]
  simp
theorem behind_ent {L : List Ent} {j x : Nat} (hx : j < x) (hl : x < L.length) (hg : ∀ e ∈ L, Good e) (h : x - j - 1 < (places 8 (L.drop (j + 1))).length) : (places 8 (L.drop (j + 1)))[x - j - 1].ent = L[x] := by
  rw [places_at (L.drop (j + 1)) 8 (x - j - 1) (by rw [List.length_drop]; omega) (fun e he => hg e (List.mem_of_mem_drop he))]
  simp only [List.getElem_drop]
  congr 1
  omega
end Go.Proofs.YtmcdjkfmfhbbnaaDoor
