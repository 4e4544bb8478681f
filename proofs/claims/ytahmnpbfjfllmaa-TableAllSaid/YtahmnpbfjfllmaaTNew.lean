/- A new table (values: numbers). -/
import Derived.Test.YtahmnpbfjfllmaaGet
import Derived.OwnWalk
namespace Go.Proofs.Ytahmnpbfjfllmaa
open Go Go.RowKit

theorem slot_info : (Try.prog.info? 93).map (fun i => (i.zero, i.size, i.bytes)) = some (some (.agg (slotC zeroSlot).toArray), 34, 48) := by kernel_rfl
theorem made_cell (z : List Value) (hz : z.length = 34) (n i j : Nat) (hi : i < n) (v : Value) (hv : z[j]? = some v) : (madeCells z.toArray (n * 34)).toList[i * 34 + j]? = some v := by
  have hj : j < 34 := by rw [← hz]; exact (List.getElem?_eq_some_iff.1 hv).1
  have e : (i * 34 + j) % z.length = j := by rw [hz]; omega
  have hlt : i * 34 + j < n * 34 := by omega
  unfold madeCells
  rw [Array.toList_map, List.getElem?_map, Array.toList_range, List.getElem?_range hlt, Option.map_some, List.size_toArray, e]
  rw [← hv]
  simp [hz, hj]
theorem rows_made {w : World} {b c : Nat} {base : Nat} (h : w.ownsRow base 93 34 (.slice (some ⟨b, 0, none⟩) c c) c (madeCells (slotC zeroSlot).toArray (c * 34)).toList) :
    RowsOf w b c (fun _ => zeroSlot) := by
  obtain ⟨_, h2⟩ := h
  rcases h2 with ⟨e, _⟩ | ⟨g, cap, cur, e, _, hh, _, _, hcs, ht⟩
  · cases e
  · injection e with e1 e2 e3
    injection e1 with e1
    injection e1 with e1
    subst e1 e3
    rw [List.take_of_length_le (by rw [Array.length_toList, hcs]; exact Nat.le_refl _)] at ht
    refine ⟨fun i hi j v hv => ?_, fun _ _ => rfl, fun o => ?_, heap_lt hh⟩
    · rw [cell_of_row w b _ cur _ _ hh, ← Array.getElem?_toList, ht]
      exact made_cell (slotC zeroSlot) (length_slotC rfl) c i j hi v hv
    · exact frozen_of_row w b o cur _ hh
theorem tnew_any (w : World) : Calls Try.prog 30 #[] w fun e w' => ∃ h b, e = .returned (.pointer (some ⟨h, 0, none⟩)) ∧ TabAt w' h b 8 (fun _ => zeroSlot) 0 0 ∧ w.heap.size ≤ h ∧ w.heap.size ≤ b ∧ Below w.heap.size w w' := by
  obtain ⟨i0, hi0, hi1, hi2, hi3⟩ := info_parts slot_info
  go_enter Try.func30, Try.ntmps30
  go_wp2_with (at_make; refine wpList_make_full w rfl _ _ _ rfl w.heap.size 93 i0 (.agg (slotC zeroSlot).toArray) 34 Try.underlying73 hi0 hi1 hi2 .i64 .i64 8 8 8 rfl rfl rfl rfl (by rw [hi3]; omega) (by unfold maxLen; omega) (Nat.le_refl _) ?_; intro w2 hr2 hg2)
  go_ret
  have hrows := rows_made hr2
  have hb2 : Below w.heap.size w w2 := (Touch.of_grown (F := fun _ => False) hg2 fun k hk => by cases hk).below (fun _ e => e.elim) (Nat.le_refl _)
  have hrow3 := hrows.touch (F := fun _ => False) (.of_below ((Below.refl w2.heap.size w2).alloc (Nat.le_refl _) (.cells (headC w.heap.size 8 8 0 0) 75))) id
  have hhead : (w2.alloc (.cells (headC w.heap.size 8 8 0 0) 75)).heap[w2.heap.size]? = some (.cells (headC w.heap.size 8 8 0 0) 75 (0, 0)) := heap_alloc_new w2 _
  have hlt := hrows.lt
  refine ⟨w2.heap.size, w.heap.size, rfl, ⟨⟨8, by omega, by omega, hhead⟩, ⟨⟨8, by omega, by omega, ?_⟩, hrow3, by omega, Tab.inv_empty zeroSlot rfl (by decide), ⟨3, rfl⟩, by decide⟩, Tab.cnt_none fun _ _ => rfl, Tab.cnt_none fun _ _ => rfl, by decide⟩, hb2.size, Nat.le_refl _, hb2.alloc hb2.size _⟩
  exact (cell_of_row _ _ _ _ _ _ hhead).trans rfl
end Go.Proofs.Ytahmnpbfjfllmaa
