/- Slices of slices of bytes, as they are read, and as they come in. -/
import Derived.Test.YtnodcjjmodbjiaaDoorHCopy
import Derived.Test.YtnodcjjmodbjiaaDoorG
namespace Go.Proofs.YtnodcjjmodbjiaaDoor
open Go Go.RowKit

abbrev Rows := List (List (BitVec 8))
/-- The i-th, under a name of its own. -/
def rowOf (ls : Rows) (i : Nat) : List (BitVec 8) := ls.getD i []
def RowsAt (w : World) (b off : Nat) (ls : Rows) : Prop := ∀ i, i < ls.length → ∃ a c, w.cell? ⟨b, off + i, none⟩ = some (.slice a (rowOf ls i).length c) ∧ Reads w a c (rowOf ls i)
structure RR (w : World) (a : Option Addr) (cap : Nat) (ls : Rows) : Prop where
  fits : ls.length ≤ cap
  room : cap ≤ 9223372036854775807
  null : a = none → cap = 0
  rows : ls = [] ∨ ∃ b off, a = some ⟨b, off, none⟩ ∧ RowsAt w b off ls
theorem rowOf_lt {ls : Rows} {i : Nat} (h : i < ls.length) : rowOf ls i = ls[i] := by simp [rowOf, List.getD_eq_getElem?_getD, List.getElem?_eq_getElem h]
theorem rowOf_take {ls : Rows} {n i : Nat} (h : i < n) : rowOf (ls.take n) i = rowOf ls i := by simp [rowOf, List.getD_eq_getElem?_getD, h]
theorem rowOf_drop (ls : Rows) (n i : Nat) : rowOf (ls.drop n) i = rowOf ls (n + i) := by simp [rowOf, List.getD_eq_getElem?_getD]
theorem rows_take_snoc (ls : Rows) (k : Nat) (h : k < ls.length) : ls.take (k + 1) = ls.take k ++ [rowOf ls k] := by
  rw [List.take_succ_eq_append_getElem h, rowOf_lt h]
theorem RowsAt.keeps {w w' : World} {b off : Nat} {ls : Rows} (h : RowsAt w b off ls) (k : Keeps w w') : RowsAt w' b off ls := fun i hi => by
  obtain ⟨a, c, hc, hr⟩ := h i hi
  exact ⟨a, c, k _ _ hc, hr.keeps k⟩
theorem RR.keeps {w w' : World} {a : Option Addr} {cap : Nat} {ls : Rows} (h : RR w a cap ls) (k : Keeps w w') : RR w' a cap ls := by
  refine ⟨h.fits, h.room, h.null, ?_⟩
  rcases h.rows with e | ⟨b, off, e, hb⟩
  · exact .inl e
  · exact .inr ⟨b, off, e, hb.keeps k⟩

section
open Go.ChangeShapes Go.WideShapes Go.Deep
variable {H : Type} {enc : TypeId × Value → H} {w : World} {base : Nat} {spare : Nat → Bool} {held : Bool}
/-- A slice of bytes, out of its reading. -/
theorem arg_bytes_cell {n : Nat} {v : Value} {y : DataW H × List MemPlace} (h : DataW.trod enc Tryd.prog w base (fun _ => true) held n 22 [v] = some y) : ∃ a cap l, v = .slice a l.length cap ∧ Reads w a cap l := by
  rcases open_ints Tryd.underlying22 Tryd.underlying5 (by kernel_rfl) h with ⟨hcs, _⟩ | ⟨x, l, c, zs, hcs, _, hl, hm, hz, _, hcell, hwz⟩
  · injection hcs with hcs
    exact ⟨none, 0, [], hcs, reads_nil w⟩
  · injection hcs with hcs
    have hr : IsRow .u8 w (some x) l c zs := .inr ⟨x, rfl, hl, hm, by simpa using hz, hcell, hwz⟩
    obtain ⟨m, e, rd⟩ := hr.reads
    subst e
    exact ⟨some x, c, m, hcs, rd⟩
/-- A list of texts. -/
theorem arg_rows {r : Reach} {b0 : Nat} {v : Value} {d : DataW H} {p : List MemPlace} (hv : Value.okWide Tryd.prog w r b0 32 v) (h : DataW.Trod enc Tryd.prog w base (fun _ => true) held 32 v d p) :
    ∃ a cap ls, v = .slice a ls.length cap ∧ RR w a cap ls := by
  obtain ⟨a, len, cap, rfl⟩ := okWide_slice Tryd.underlying32 hv
  obtain ⟨fuel, hf⟩ := h
  rcases open_slice Tryd.underlying32 hf with ⟨hcs, _⟩ | ⟨x, l, c, m, n, D, Pl, hcs, _, hl, hm, hmm, _, hi⟩
  · injection hcs with hcs
    injection hcs with e1 e2 e3
    subst e1 e2 e3
    exact ⟨none, 0, [], rfl, by simp, by omega, fun _ => rfl, .inl rfl⟩
  · injection hcs with hcs
    injection hcs with e1 e2 e3
    subst e1 e2 e3
    rw [if_pos rfl] at hmm
    have one : ∀ i, i < len → ∃ (t : List (BitVec 8)), ∃ ai ci, w.cell? (x.add i) = some (.slice ai t.length ci) ∧ Reads w ai ci t := by
      intro i hlt
      obtain ⟨cs', h1, h2⟩ := hi i (by omega)
      have e1 : Tryd.prog.cellsOf 22 = 1 := by kernel_rfl
      rw [e1, Nat.mul_one] at h1
      obtain ⟨_, hcl, hat⟩ := World.cells?_some h1
      have hcl' : cs'.length = 1 := hcl
      match cs', hcl' with
      | [u], _ =>
        obtain ⟨ai, ci, t, rfl, rd⟩ := arg_bytes_cell h2
        refine ⟨t, ai, ci, ?_, rd⟩
        have := hat 0 (by simp)
        simpa [Addr.add] using this
    obtain ⟨f, hf⟩ := choose_lt one
    have hmx : maxLen = 9223372036854775807 := rfl
    refine ⟨some x, cap, (List.range len).map f, by simp, by simpa using hl, by omega, (by intro e; cases e), ?_⟩
    by_cases h0 : len = 0
    · left; subst h0; rfl
    · right
      obtain ⟨ai, ci, h1, _⟩ := hf 0 (by omega)
      have hx := spot_none (x := x) (by simpa [Addr.add] using h1)
      refine ⟨x.block, x.off, by rw [← hx], fun i hi => ?_⟩
      rw [List.length_map, List.length_range] at hi
      obtain ⟨ai, ci, h1, h2⟩ := hf i hi
      rw [hx, Addr.add_lit] at h1
      have e : rowOf ((List.range len).map f) i = f i := by simp [rowOf, List.getD_eq_getElem?_getD, hi]
      rw [e]
      exact ⟨ai, ci, h1, h2⟩
end
end Go.Proofs.YtnodcjjmodbjiaaDoor
