/- Arrays of words in memory, whole: their cells, stores, loads. For any program. -/
import Derived.Test.YtnodcjjmodbjiaaDoorShaBytes
import Derived.Laws.Rows
import Derived.Laws.Tables
namespace Go.Proofs.YtnodcjjmodbjiaaDoor
open Go Go.RowKit

abbrev Words := List (BitVec 32)
def arr (f : Words) : Array Value := (f.map U32).toArray
def wordAt (f : Words) (i : Nat) : BitVec 32 := f.getD i 0#32
theorem arr_size (f : Words) : (arr f).size = f.length := by simp [arr]
theorem arr_get (f : Words) (i : Nat) (h : i < f.length) : (arr f)[i]? = some (U32 (wordAt f i)) := by
  simp [arr, wordAt, List.getD_eq_getElem?_getD, List.getElem?_eq_getElem h]
theorem arr_set (f : Words) (i : Nat) (x : BitVec 32) : (arr f).setIfInBounds i (U32 x) = arr (f.set i x) := by
  simp [arr, List.map_set]
theorem arr_one (f : Words) : (arr f).all (·.oneCell') = true := by
  rw [Array.all_eq_true_iff_forall_mem]
  intro v hv
  simp only [arr, List.mem_toArray, List.mem_map] at hv
  obtain ⟨x, _, rfl⟩ := hv
  rfl
theorem words_ext {f g : Words} (hl : f.length = g.length) (h : ∀ i, i < f.length → wordAt f i = wordAt g i) : f = g := by
  apply List.ext_getElem hl
  intro i h1 h2
  have := h i h1
  simpa [wordAt, List.getD_eq_getElem?_getD, List.getElem?_eq_getElem h1, List.getElem?_eq_getElem h2] using this
theorem wordAt_set (f : Words) (i j : Nat) (x : BitVec 32) (h : i < f.length) : wordAt (f.set i x) j = if j = i then x else wordAt f j := by
  unfold wordAt
  rw [List.getD_eq_getElem?_getD, List.getElem?_set, List.getD_eq_getElem?_getD]
  by_cases e : i = j
  · subst e; simp [h]
  · rw [if_neg e, if_neg (fun e2 => e e2.symm)]
/-- An array of words that fills a block. -/
def ArrAt (w : World) (g : Nat) (t : TypeId) (f : Words) : Prop := w.heap[g]? = some (.cells (arr f) t (0, 0))
section
variable {w w' : World} {g : Nat} {t : TypeId} {f : Words}
theorem ArrAt.cell (h : ArrAt w g t f) {i : Nat} (hi : i < f.length) : w.cell? ⟨g, i, none⟩ = some (U32 (wordAt f i)) := by
  have e := arr_get f i hi
  unfold ArrAt at h
  unfold World.cell?
  rw [h]; exact e
theorem ArrAt.thawed (h : ArrAt w g t f) (o : Nat) : w.frozen? ⟨g, o, none⟩ = false := by
  unfold ArrAt at h
  simp [World.frozen?, h]
theorem ArrAt.lt (h : ArrAt w g t f) : g < w.heap.size := heap_lt h
theorem ArrAt.set (h : ArrAt w g t f) (i : Nat) (x : BitVec 32) : ArrAt (w.setCell ⟨g, i, none⟩ (U32 x)) g t (f.set i x) := by
  have e := setCell_eq_setRow w g i (arr f) t (0, 0) (U32 x) h
  unfold ArrAt
  rw [e, arr_set]
  exact setRow_heap w g (arr f) _ t _ h
theorem ArrAt.drewN (h : ArrAt w g t f) (n : Nat) : ArrAt (w.drewN n) g t f := h
theorem ArrAt.touch {F : Nat → Prop} (h : ArrAt w g t f) (k : Touch F w w') (hn : ¬ F g) : ArrAt w' g t f := by
  have hl := h.lt
  unfold ArrAt at h ⊢
  rw [k.block g hl hn]; exact h
theorem ArrAt.below (h : ArrAt w g t f) (hb : Below w.heap.size w w') : ArrAt w' g t f := (h.touch (F := fun _ => False) (.of_below hb) fun e => e)
theorem ArrAt.row (h : ArrAt w g t f) (f' : Words) : ArrAt (w.setRow g (arr f')) g t f' := setRow_heap w g (arr f) _ t _ h
theorem ArrAt.new (w : World) (t : TypeId) (f : Words) : ArrAt (w.alloc (.cells (arr f) t)) w.heap.size t f := heap_alloc_new w _
end
theorem Touch.setRow {F : Nat → Prop} (w : World) (g : Nat) (c : Array Value) (hg : F g) : Touch F w (w.setRow g c) :=
  ⟨rfl, rfl, rfl, by simp [World.setRow], fun k _ hk => by
    unfold World.setRow
    simp only
    rw [Array.getElem?_modify, if_neg]
    intro e; subst e; exact hk hg⟩
end Go.Proofs.YtnodcjjmodbjiaaDoor
