/- A shape, a list of texts that came in. -/
import Derived.Test.YtbjaeofooaikkaaG
import Derived.Test.YtbjaeofooaikkaaRR
namespace Go.Proofs.Ytbjaeofooaikkaa
open Go Go.RowKit Go.ChangeShapes Go.WideShapes Go.Deep

section
variable {H : Type} {enc : TypeId × Value → H} {w : World} {base : Nat} {spare : Nat → Bool} {held : Bool}
theorem arg_int {t : TypeId} {k : IntKind} {n : Nat} {v : Value} {y : DataW H × List MemPlace} (ht : Try.prog.underlying t = some (.int k)) (h : DataW.trod enc Try.prog w base spare held n t [v] = some y) : ∃ m, v = .int k m ∧ (Lit.int k m).wf = true := by
  obtain ⟨m, e, _, hw⟩ := DataW.trod_int ht h
  injection e with e
  exact ⟨m, e, hw⟩
theorem arg_shape {r : Reach} {b0 : Nat} {v : Value} {d : DataW H} {p : List MemPlace} (hv : Value.okWide Try.prog w r b0 24 v) (h : DataW.Trod enc Try.prog w base spare held 24 v d p) :
    ∃ (L M K W : Int) (s : BitVec 32), v = shapeV L M K W s := by
  obtain ⟨fs, hs⟩ : ∃ fs, Try.prog.underlying 24 = some (.struct fs) := ⟨_, Try.underlying24⟩
  have hs' := hs.symm.trans Try.underlying24
  injection hs' with hs'
  injection hs' with hs'
  subst hs'
  obtain ⟨cs, rfl, hc, hf⟩ := arg_fields hs (by kernel_rfl) hv h
  have h5 : cs.size = 5 := hc.trans (by kernel_rfl)
  obtain ⟨l⟩ := cs
  match l, h5 with
  | [c0, c1, c2, c3, c4], _ =>
    obtain ⟨n0, y0, e0⟩ := hf 0 _ rfl (by simp)
    obtain ⟨n1, y1, e1⟩ := hf 1 _ rfl (by simp)
    obtain ⟨n2, y2, e2⟩ := hf 2 _ rfl (by simp)
    obtain ⟨n3, y3, e3⟩ := hf 3 _ rfl (by simp)
    obtain ⟨n4, y4, e4⟩ := hf 4 _ rfl (by simp)
    obtain ⟨m0, g0, _⟩ := arg_int Try.underlying3 e0
    obtain ⟨m1, g1, _⟩ := arg_int Try.underlying3 e1
    obtain ⟨m2, g2, _⟩ := arg_int Try.underlying3 e2
    obtain ⟨m3, g3, _⟩ := arg_int Try.underlying3 e3
    obtain ⟨m4, g4, w4⟩ := arg_int Try.underlying22 e4
    obtain ⟨s, es⟩ := open_u32 w4
    refine ⟨m0, m1, m2, m3, s, ?_⟩
    have q0 : c0 = .int .i64 m0 := g0
    have q1 : c1 = .int .i64 m1 := g1
    have q2 : c2 = .int .i64 m2 := g2
    have q3 : c3 = .int .i64 m3 := g3
    have q4 : c4 = .int .u32 m4 := g4
    rw [q0, q1, q2, q3, q4, es]; rfl
/-- A slice of bytes, out of its reading. -/
theorem arg_bytes_cell {n : Nat} {v : Value} {y : DataW H × List MemPlace} (h : DataW.trod enc Try.prog w base (fun _ => true) held n 25 [v] = some y) : ∃ a cap l, v = .slice a l.length cap ∧ Reads w a cap l := by
  rcases open_ints Try.underlying25 Try.underlying5 (by kernel_rfl) h with ⟨hcs, _⟩ | ⟨x, l, c, zs, hcs, _, hl, hm, hz, _, hcell, hwz⟩
  · injection hcs with hcs
    exact ⟨none, 0, [], hcs, reads_nil w⟩
  · injection hcs with hcs
    have hr : IsRow .u8 w (some x) l c zs := .inr ⟨x, rfl, hl, hm, by simpa using hz, hcell, hwz⟩
    obtain ⟨m, e, rd⟩ := hr.reads
    subst e
    exact ⟨some x, c, m, hcs, rd⟩
/-- A list of texts. -/
theorem arg_rows {r : Reach} {b0 : Nat} {v : Value} {d : DataW H} {p : List MemPlace} (hv : Value.okWide Try.prog w r b0 28 v) (h : DataW.Trod enc Try.prog w base (fun _ => true) held 28 v d p) :
    ∃ a cap ls, v = .slice a ls.length cap ∧ RR w a cap ls := by
  obtain ⟨a, len, cap, rfl⟩ := okWide_slice Try.underlying28 hv
  obtain ⟨fuel, hf⟩ := h
  rcases open_slice Try.underlying28 hf with ⟨hcs, _⟩ | ⟨x, l, c, m, n, D, Pl, hcs, _, hl, hm, hmm, _, hi⟩
  · injection hcs with hcs
    injection hcs with e1 e2 e3
    subst e1 e2 e3
    exact ⟨none, 0, [], rfl, by simp, by omega, fun _ => rfl, .inl rfl⟩
  · injection hcs with hcs
    injection hcs with e1 e2 e3
    subst e1 e2 e3
    rw [if_pos rfl] at hmm
    have one : ∀ i, i < len → ∃ (t : List (BitVec 8)), ∃ ai ci, w.cell? (x.add i) = some (.slice ai t.length ci) ∧ Reads w ai ci t := by
      intro i hlt
      obtain ⟨cs', h1, h2⟩ := hi i (by omega)
      have e1 : Try.prog.cellsOf 25 = 1 := by kernel_rfl
      rw [e1, Nat.mul_one] at h1
      obtain ⟨_, hcl, hat⟩ := World.cells?_some h1
      have hcl' : cs'.length = 1 := hcl
      match cs', hcl' with
      | [u], _ =>
        obtain ⟨ai, ci, t, rfl, rd⟩ := arg_bytes_cell h2
        refine ⟨t, ai, ci, ?_, rd⟩
        have := hat 0 (by simp)
        simpa [Addr.add] using this
    obtain ⟨f, hf⟩ := choose_lt one
    have hmx : maxLen = 9223372036854775807 := rfl
    refine ⟨some x, cap, (List.range len).map f, by simp, by simpa using hl, by omega, (by intro e; cases e), ?_⟩
    by_cases h0 : len = 0
    · left; subst h0; rfl
    · right
      obtain ⟨ai, ci, h1, _⟩ := hf 0 (by omega)
      have hx := spot_none (x := x) (by simpa [Addr.add] using h1)
      refine ⟨x.block, x.off, by rw [← hx], fun i hi => ?_⟩
      rw [List.length_map, List.length_range] at hi
      obtain ⟨ai, ci, h1, h2⟩ := hf i hi
      rw [hx, Addr.add_lit] at h1
      have e : rowOf ((List.range len).map f) i = f i := by simp [rowOf, List.getD_eq_getElem?_getD, hi]
      rw [e]
      exact ⟨ai, ci, h1, h2⟩
end
end Go.Proofs.Ytbjaeofooaikkaa
