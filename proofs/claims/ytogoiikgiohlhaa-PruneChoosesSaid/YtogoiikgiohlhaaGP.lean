/- Arguments: archives, rules. -/
import Derived.Test.YtogoiikgiohlhaaG
import Derived.Test.YtogoiikgiohlhaaAbs
namespace Go.Proofs.Ytogoiikgiohlhaa
open Go Go.RowKit Go.ChangeShapes Go.WideShapes Go.Deep

section
variable {H : Type} {enc : TypeId × Value → H} {w : World} {base : Nat} {spare : Nat → Bool} {held : Bool}
theorem arg_int {t : TypeId} {k : IntKind} {n : Nat} {v : Value} {y : DataW H × List MemPlace} (ht : Try.prog.underlying t = some (.int k)) (h : DataW.trod enc Try.prog w base spare held n t [v] = some y) : ∃ m, v = .int k m := by
  obtain ⟨m, e, _, hw⟩ := DataW.trod_int ht h
  injection e with e
  exact ⟨m, e⟩
theorem arg_keep {r : Reach} {b0 : Nat} {v : Value} {d : DataW H} {p : List MemPlace} (hv : Value.okWide Try.prog w r b0 36 v) (h : DataW.Trod enc Try.prog w base spare held 36 v d p) :
    ∃ k : Nat → Int, v = keepV k := by
  obtain ⟨fs, hs⟩ : ∃ fs, Try.prog.underlying 36 = some (.struct fs) := ⟨_, Try.underlying36⟩
  have hs' := hs.symm.trans Try.underlying36
  injection hs' with hs'
  injection hs' with hs'
  subst hs'
  obtain ⟨cs, rfl, hc, hf⟩ := arg_fields hs (by kernel_rfl) hv h
  have h6 : cs.size = 6 := hc.trans (by kernel_rfl)
  obtain ⟨l⟩ := cs
  match l, h6 with
  | [c0, c1, c2, c3, c4, c5], _ =>
    obtain ⟨n0, y0, e0⟩ := hf 0 _ rfl (by simp)
    obtain ⟨n1, y1, e1⟩ := hf 1 _ rfl (by simp)
    obtain ⟨n2, y2, e2⟩ := hf 2 _ rfl (by simp)
    obtain ⟨n3, y3, e3⟩ := hf 3 _ rfl (by simp)
    obtain ⟨n4, y4, e4⟩ := hf 4 _ rfl (by simp)
    obtain ⟨n5, y5, e5⟩ := hf 5 _ rfl (by simp)
    obtain ⟨m0, g0⟩ := arg_int Try.underlying3 e0
    obtain ⟨m1, g1⟩ := arg_int Try.underlying3 e1
    obtain ⟨m2, g2⟩ := arg_int Try.underlying3 e2
    obtain ⟨m3, g3⟩ := arg_int Try.underlying3 e3
    obtain ⟨m4, g4⟩ := arg_int Try.underlying3 e4
    obtain ⟨m5, g5⟩ := arg_int Try.underlying3 e5
    refine ⟨fun i => if i = 0 then m0 else if i = 1 then m1 else if i = 2 then m2 else if i = 3 then m3 else if i = 4 then m4 else m5, ?_⟩
    have q0 : c0 = .int .i64 m0 := g0
    have q1 : c1 = .int .i64 m1 := g1
    have q2 : c2 = .int .i64 m2 := g2
    have q3 : c3 = .int .i64 m3 := g3
    have q4 : c4 = .int .i64 m4 := g4
    have q5 : c5 = .int .i64 m5 := g5
    rw [q0, q1, q2, q3, q4, q5]; rfl
theorem cells_about {n : Nat} {cs : List Value} {y : DataW H × List MemPlace} (hl : cs.length = 37) (h : DataW.trod enc Try.prog w base spare held n 49 cs = some y) : ∃ t, cs[33]? = some (.int .i64 t) := by
  obtain ⟨fs, hs⟩ : ∃ fs, Try.prog.underlying 49 = some (.struct fs) := ⟨_, Try.underlying49⟩
  have hs' := hs.symm.trans Try.underlying49
  injection hs' with hs'
  injection hs' with hs'
  subst hs'
  obtain ⟨xs, m, _, _, _, hxl, hx⟩ := DataW.trod_struct hs h
  have h2 : DataW.trod enc Try.prog w base spare held m 2 ((cs.drop 33).take (Try.prog.cellsOf 2)) = xs[2]? := hx 2 _ rfl
  have c1 : Try.prog.cellsOf 2 = 1 := by kernel_rfl
  rw [c1] at h2
  have hxs : xs.length = 6 := hxl
  rw [List.getElem?_eq_getElem (by omega)] at h2
  obtain ⟨t, e, _, _⟩ := DataW.trod_int Try.underlying2 h2
  refine ⟨t, ?_⟩
  have h3 : ((cs.drop 33).take 1)[0]? = some (.int .i64 t) := by rw [e]; rfl
  rw [List.getElem?_take_of_lt (by omega), List.getElem?_drop] at h3
  exact h3
def timeOf (f : Nat → List Value) (z : Int) : Int := match (f z.toNat)[33]? with
  | some (Value.int _ t) => t
  | _ => 0
set_option maxRecDepth 100000 in
/-- A row of archives. -/
theorem arg_abouts {r : Reach} {b0 : Nat} {v : Value} {d : DataW H} {p : List MemPlace} (hv : Value.okWide Try.prog w r b0 34 v) (h : DataW.Trod enc Try.prog w base (fun _ => true) held 34 v d p) :
    ∃ a cap n R T, v = .slice a n cap ∧ Abs w a cap n R T := by
  obtain ⟨a, len, cap, rfl⟩ := okWide_slice Try.underlying34 hv
  obtain ⟨fuel, hf⟩ := h
  rcases open_slice Try.underlying34 hf with ⟨hcs, _⟩ | ⟨x, l, c, m, n, D, Pl, hcs, _, hl, hm, hmm, _, hi⟩
  · injection hcs with hcs
    injection hcs with e1 e2 e3
    subst e1 e2 e3
    exact ⟨none, 0, 0, fun _ => [], fun _ => 0, rfl, Nat.le_refl _, by omega, fun i hi => by omega, fun i hi => by omega, .inl rfl⟩
  · injection hcs with hcs
    injection hcs with e1 e2 e3
    subst e1 e2 e3
    rw [if_pos rfl] at hmm
    have c37 : Try.prog.cellsOf 49 = 37 := by kernel_rfl
    rw [c37] at hi
    have one : ∀ i, i < len → ∃ C : List Value, C.length = 37 ∧ (∃ t, C[33]? = some (.int .i64 t)) ∧ w.cells? base (x.add (i * 37)) 37 = some C := by
      intro i hlt
      obtain ⟨cs', h1, h2⟩ := hi i (by omega)
      obtain ⟨_, hcl, _⟩ := World.cells?_some h1
      exact ⟨cs', hcl, cells_about hcl h2, h1⟩
    obtain ⟨f, hf⟩ := choose_lt one
    have hmx : maxLen = 9223372036854775807 := rfl
    refine ⟨some x, cap, len, f, timeOf f, rfl, by simpa using hl, by omega, fun i hi => (hf i hi).1, fun i hi => ?_, ?_⟩
    · obtain ⟨t, ht⟩ := (hf i hi).2.1
      unfold timeOf
      rw [Int.toNat_natCast, ht]
    · by_cases h0 : len = 0
      · left; exact h0
      · right
        have h00 := World.cells?_some (hf 0 (by omega)).2.2
        obtain ⟨t, ht⟩ := (hf 0 (by omega)).2.1
        have hx : x = ⟨x.block, x.off, none⟩ := by
          obtain ⟨_, _, hc⟩ := h00
          have := hc 0 (by decide)
          rw [List.getElem?_eq_getElem (by rw [(hf 0 (by omega)).1]; decide)] at this
          exact spot_none (x := x) (by simpa [Addr.add] using this)
        refine ⟨x.block, x.off, by rw [← hx], ?_, fun i hi j v hv => ?_⟩
        · obtain ⟨_, _, hc⟩ := h00
          have h3 := hc 33 (by decide)
          rw [ht, hx, Addr.add_lit, Addr.add_lit] at h3
          cases hb : w.heap[x.block]? with
          | none => simp [World.cell?, hb] at h3
          | some o => exact heap_lt hb
        · obtain ⟨_, _, hc⟩ := World.cells?_some (hf i hi).2.2
          obtain ⟨hj, e⟩ := List.getElem?_eq_some_iff.1 hv
          have h3 := hc j (by rw [(hf i hi).1] at hj; exact hj)
          rw [hv, hx, Addr.add_lit, Addr.add_lit] at h3
          exact h3
end
end Go.Proofs.Ytogoiikgiohlhaa
