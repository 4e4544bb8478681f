/- Arguments: entries, rows of entries. -/
import Derived.Test.YtmcdjkfmfhbbnaaDoorGI
import Derived.Test.YtmcdjkfmfhbbnaaDoorIts
import Derived.Deep.Slices
namespace Go.Proofs.YtmcdjkfmfhbbnaaDoor
open Go Go.RowKit Go.ChangeShapes Go.WideShapes Go.Deep

section
variable {H : Type} {enc : TypeId × Value → H} {w : World} {base : Nat} {held : Bool}
theorem cells_int {spare : Nat → Bool} {n : Nat} {cs : List Value} {y : DataW H × List MemPlace} (h : DataW.trod enc Tryd.prog w base spare held n 3 cs = some y) : ∃ m, cs = [.int .i64 m] := by
  obtain ⟨m, e, _, hw⟩ := DataW.trod_int Tryd.underlying3 h
  exact ⟨m, e⟩
theorem cells_id {spare : Nat → Bool} {n : Nat} {cs : List Value} {y : DataW H × List MemPlace} (h : DataW.trod enc Tryd.prog w base spare held n 23 cs = some y) : ∃ k : List (BitVec 8), cs = k.map U8 ∧ k.length = 32 := by
  have hu : Tryd.prog.underlying 23 = some (.array 32 5) := by kernel_rfl
  have hcell : Tryd.prog.cellsOf 5 = 1 := by kernel_rfl
  have hcells : Tryd.prog.cellsOf 23 = 32 := by kernel_rfl
  obtain ⟨xs, m, _, _, hc, hl, hx⟩ := DataW.trod_array hu h
  rw [hcells] at hc
  obtain ⟨k, hk, he⟩ := bytes_of_cells cs fun v hv => by
    obtain ⟨i, hi, e⟩ := List.getElem_of_mem hv
    have hi2 : i < 32 := by omega
    have h1 := hx i hi2
    rw [hcell, Nat.mul_one] at h1
    have e2 : (cs.drop i).take 1 = [v] := by
      rw [List.drop_eq_getElem_cons hi, e]
      simp
    rw [e2, List.getElem?_eq_getElem (by omega)] at h1
    exact arg_byte h1
  exact ⟨k, he, by omega⟩
theorem cells_bytes {n : Nat} {cs : List Value} {y : DataW H × List MemPlace} (h : DataW.trod enc Tryd.prog w 0 (fun _ => true) held n 24 cs = some y) : ∃ a cap, ∃ l : List (BitVec 8), cs = [.slice a l.length cap] ∧ Reads w a cap l := by
  obtain ⟨d, p⟩ := y
  rcases open_ints Tryd.underlying24 Tryd.underlying5 (by kernel_rfl) h with ⟨hcs, _⟩ | ⟨x, l, c, zs, hcs, _, hl, hm, hz, _, hcell, hwz⟩
  · exact ⟨none, 0, [], hcs, reads_nil w⟩
  · obtain ⟨m, hm2, hr⟩ := IsRow.reads (a := some x) (len := l) (cap := c) (zs := zs) (.inr ⟨x, rfl, hl, hm, by simpa using hz, hcell, hwz⟩)
    exact ⟨some x, c, m, by rw [hcs, hm2], hr⟩
set_option maxRecDepth 100000 in
theorem cells_entry {n : Nat} {cs : List Value} {y : DataW H × List MemPlace} (hl : cs.length = 34) (h : DataW.trod enc Tryd.prog w 0 (fun _ => true) held n 26 cs = some y) :
    ∃ (e : Ent) (a : Option Addr) (cap : Nat), cs = entC e (.slice a e.data.length cap) ∧ e.key.length = 32 ∧ Reads w a cap e.data := by
  obtain ⟨fs, hs⟩ : ∃ fs, Tryd.prog.underlying 26 = some (.struct fs) := ⟨_, Tryd.underlying26⟩
  have hs' := hs.symm.trans Tryd.underlying26
  injection hs' with hs'
  injection hs' with hs'
  subst hs'
  obtain ⟨xs, m, _, _, _, hxl, hx⟩ := DataW.trod_struct hs h
  have h0 : DataW.trod enc Tryd.prog w 0 (fun _ => true) held m 3 ((cs.drop 0).take (Tryd.prog.cellsOf 3)) = xs[0]? := hx 0 _ rfl
  have h1 : DataW.trod enc Tryd.prog w 0 (fun _ => true) held m 23 ((cs.drop 1).take (Tryd.prog.cellsOf 23)) = xs[1]? := hx 1 _ rfl
  have h2 : DataW.trod enc Tryd.prog w 0 (fun _ => true) held m 24 ((cs.drop 33).take (Tryd.prog.cellsOf 24)) = xs[2]? := hx 2 _ rfl
  have c1 : Tryd.prog.cellsOf 3 = 1 := by kernel_rfl
  have c32 : Tryd.prog.cellsOf 23 = 32 := by kernel_rfl
  have cs1 : Tryd.prog.cellsOf 24 = 1 := by kernel_rfl
  rw [c1] at h0
  rw [c32] at h1
  rw [cs1] at h2
  have hxs : xs.length = 3 := hxl
  rw [List.getElem?_eq_getElem (by omega)] at h0 h1 h2
  obtain ⟨m0, e0⟩ := cells_int h0
  obtain ⟨k, e1, hk⟩ := cells_id h1
  obtain ⟨a, cap, l, e2, hr⟩ := cells_bytes h2
  refine ⟨⟨m0, k, l⟩, a, cap, ?_, hk, hr⟩
  have s : cs = (cs.drop 0).take 1 ++ ((cs.drop 1).take 32 ++ (cs.drop 33).take 1) := by
    rw [List.drop_zero]
    have a1 : (cs.drop 33).take 1 = cs.drop 33 := List.take_of_length_le (by rw [List.length_drop]; omega)
    rw [a1, show cs.drop 33 = (cs.drop 1).drop 32 by rw [List.drop_drop], List.take_append_drop, List.take_append_drop]
  rw [s]
  unfold entC
  rw [show (cs.drop 0).take 1 = [.int .i64 m0] from e0, show (cs.drop 1).take 32 = k.map U8 from e1, show (cs.drop 33).take 1 = [.slice a l.length cap] from e2]
  rfl
set_option maxRecDepth 100000 in
theorem arg_entry {r : Reach} {b0 : Nat} {v : Value} {d : DataW H} {p : List MemPlace} (hv : Value.okWide Tryd.prog w r b0 26 v) (h : DataW.Trod enc Tryd.prog w 0 (fun _ => true) held 26 v d p) :
    ∃ (e : Ent) (a : Option Addr) (cap : Nat), v = .agg (entC e (.slice a e.data.length cap)).toArray ∧ e.key.length = 32 ∧ Reads w a cap e.data := by
  have hc : Tryd.prog.cellsOf 26 = 34 := by kernel_rfl
  obtain ⟨cs, rfl, hcs⟩ := okWide_struct Tryd.underlying26 hv
  obtain ⟨fuel, hf⟩ := h
  obtain ⟨e, a, cap, he, hk, hr⟩ := cells_entry (cs := cs.toList) (by rw [Array.length_toList, hcs, hc]) hf
  exact ⟨e, a, cap, by rw [← he], hk, hr⟩
set_option maxRecDepth 100000 in
/-- A row of entries. -/
theorem arg_entries {r : Reach} {b0 : Nat} {v : Value} {d : DataW H} {p : List MemPlace} (hv : Value.okWide Tryd.prog w r b0 27 v) (h : DataW.Trod enc Tryd.prog w 0 (fun _ => true) held 27 v d p) :
    ∃ a cap its, v = .slice a (its : List Item).length cap ∧ Its 34 w a cap its ∧ ∀ it ∈ its, it.x = [] := by
  obtain ⟨a, len, cap, rfl⟩ := okWide_slice Tryd.underlying27 hv
  obtain ⟨fuel, hf⟩ := h
  rcases open_slice Tryd.underlying27 hf with ⟨hcs, _⟩ | ⟨x, l, c, m, n, D, Pl, hcs, _, hl, hm, hmm, _, hi⟩
  · injection hcs with hcs
    injection hcs with e1 e2 e3
    subst e1 e2 e3
    exact ⟨none, 0, [], rfl, ⟨by simp, by omega, .inl rfl⟩, fun it h => by simp at h⟩
  · injection hcs with hcs
    injection hcs with e1 e2 e3
    subst e1 e2 e3
    rw [if_pos rfl] at hmm
    have c34 : Tryd.prog.cellsOf 26 = 34 := by kernel_rfl
    rw [c34] at hi
    have one : ∀ i, i < len → ∃ (t : Item), t.x = [] ∧ t.ent.key.length = 32 ∧ Reads w t.a t.cap t.ent.data ∧ w.cells? 0 (x.add (i * 34)) 34 = some t.cells := by
      intro i hlt
      obtain ⟨cs', h1, h2⟩ := hi i (by omega)
      obtain ⟨_, hcl, _⟩ := World.cells?_some h1
      obtain ⟨e, a, cap', he, hk, hr⟩ := cells_entry hcl h2
      refine ⟨⟨e, a, cap', []⟩, rfl, hk, hr, ?_⟩
      rw [h1, he]
      unfold Item.cells Item.dv
      rw [List.append_nil]
    obtain ⟨f, hf⟩ := choose_lt one
    have hmx : maxLen = 9223372036854775807 := rfl
    have hat : ∀ i, i < len → itAt ((List.range len).map f) i = f i := fun i hi => by simp [itAt, List.getD_eq_getElem?_getD, hi]
    refine ⟨some x, cap, (List.range len).map f, by simp, ⟨by simpa using hl, by omega, ?_⟩, fun it h => ?_⟩
    · by_cases h0 : len = 0
      · left; subst h0; rfl
      · right
        have hx := by
          obtain ⟨_, _, _, hc⟩ := hf 0 (by omega)
          obtain ⟨_, _, hc⟩ := World.cells?_some hc
          have := hc 0 (by decide)
          rw [show ((f 0).cells)[0]? = some (.int .i64 (f 0).ent.tag) from rfl] at this
          exact spot_none (x := x) (by simpa [Addr.add] using this)
        refine ⟨x.block, x.off, by rw [← hx], fun i hi => ?_⟩
        rw [List.length_map, List.length_range] at hi
        rw [hat i hi]
        obtain ⟨hx0, hk, hr, hc⟩ := hf i hi
        refine ⟨fun j v hv => ?_, hk, hr⟩
        obtain ⟨_, hlc, hc⟩ := World.cells?_some hc
        obtain ⟨hj, e⟩ := List.getElem?_eq_some_iff.1 hv
        have h3 := hc j (by omega)
        rw [hv, hx, Addr.add_lit, Addr.add_lit] at h3
        exact h3
    · obtain ⟨i, hi, rfl⟩ := List.mem_map.1 h
      rw [List.mem_range] at hi
      exact (hf i hi).1
end
end Go.Proofs.YtmcdjkfmfhbbnaaDoor
