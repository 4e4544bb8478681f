/- What 'Choose' hands back, as the laws read it. -/
import Derived.Test.YtogoiikgiohlhaaChoose
namespace Go.Proofs.Ytogoiikgiohlhaa
open Go Go.RowKit Ch Sm

/-- Numbers of a row of the call's own. -/
theorem own_cell {w : World} {B : Nat} {v : Value} {L : List Int} (h : w.ownsRow B 3 1 v L.length (L.map fun x => .int .i64 x)) {i : Nat} (hi : i < L.length) : ∃ g cp, v = .slice (some ⟨g, 0, none⟩) L.length cp ∧ B ≤ g ∧ g < w.heap.size ∧ w.cell? ⟨g, i, none⟩ = some (.int .i64 L[i]) := by
  rcases h.2 with ⟨_, h0⟩ | ⟨g, cp, cur, hv, hB, hg, _, _, _, ht⟩
  · simp at h0; rw [h0] at hi; simp at hi
  · refine ⟨g, cp, hv, hB, heap_lt hg, ?_⟩
    have h1 : (cur.toList.take (L.length * 1))[i]? = some (.int .i64 L[i]) := by rw [ht, List.getElem?_map, List.getElem?_eq_getElem hi]; rfl
    rw [List.getElem?_take_of_lt (by omega), Array.getElem?_toList] at h1
    simp only [World.cell?, hg]
    exact h1
theorem own_slice {w : World} {B : Nat} {v : Value} {L : List Int} (h : w.ownsRow B 3 1 v L.length (L.map fun x => .int .i64 x)) : ∃ av cv, v = .slice av L.length cv := by
  rcases h.2 with ⟨h0, h1⟩ | ⟨g, cp, cur, hv, _⟩
  · have h2 : L.length = 0 := by simpa using h1
    exact ⟨none, 0, by rw [h0, h2]⟩
  · exact ⟨_, _, hv⟩
theorem chosen_split (S : List Int) {i n : Nat} (h : i ≤ n) : ∃ t, chosen n S = chosen i S ++ t ∧ ∀ x, x ∈ t → (i : Int) ≤ x := by
  refine ⟨((List.range' i (n - i)).map fun j : Nat => (j : Int)).filter fun x => S.contains x, ?_, fun x hx => ?_⟩
  · unfold chosen
    have e : List.range n = List.range i ++ List.range' i (n - i) := by
      have e2 := List.range'_append_1 (s := 0) (m := i) (n := n - i)
      rw [Nat.zero_add, show i + (n - i) = n by omega] at e2
      rw [List.range_eq_range', List.range_eq_range', e2]
    rw [e, List.map_append, List.filter_append]
  · obtain ⟨h1, _⟩ := List.mem_filter.1 hx
    obtain ⟨j, hj, rfl⟩ := List.mem_map.1 h1
    have := List.mem_range'_1.1 hj
    omega
/-- Where a place that is kept stands among those kept. -/
theorem chosen_at (S : List Int) {i n : Nat} (h : i < n) : (S.contains (i : Int) = true → (chosen n S)[(chosen i S).length]? = some (i : Int)) ∧ (S.contains (i : Int) = false → ∀ x, (chosen n S)[(chosen i S).length]? = some x → x ≠ i) := by
  obtain ⟨t, ht, hx⟩ := chosen_split S (show i + 1 ≤ n by omega)
  rw [chosen_succ] at ht
  constructor
  · intro hc
    rw [hc] at ht
    rw [ht, if_pos rfl, List.append_assoc, List.getElem?_append_right (Nat.le_refl _)]
    simp
  · intro hc x hx2
    rw [hc] at ht
    rw [ht, if_neg (by decide), List.append_nil, List.getElem?_append_right (Nat.le_refl _), Nat.sub_self] at hx2
    have := hx x (List.mem_of_getElem? hx2)
    omega
theorem within_bds (x lo hi : Int) (h : lo ≤ hi) : lo ≤ within x lo hi ∧ within x lo hi ≤ hi := by unfold within; split <;> (try split) <;> omega
end Go.Proofs.Ytogoiikgiohlhaa
