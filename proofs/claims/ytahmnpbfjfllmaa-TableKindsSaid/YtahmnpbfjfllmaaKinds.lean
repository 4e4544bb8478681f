/- Places and counts: as arguments, and whether two are the same. -/
import Derived.Test.YtahmnpbfjfllmaaItems
import Derived.Test.YtahmnpbfjfllmaaPTPut2
import Derived.Test.YtahmnpbfjfllmaaCTPut2
namespace Go.Proofs.Ytahmnpbfjfllmaa
open Go Go.RowKit

theorem neq_place (x y z : Int) (w : World) : (binOp .neq 33 (.agg (Pl.ints [x, y, z]).toArray) (.agg (Pl.ints [x, y, z]).toArray)).run Try.prog w = .ok (.bool false) w := by
  simp [Pl.ints]
  go_simp
theorem neq_count (x y : Int) (w : World) : (binOp .neq 37 (.agg (Co.ints [x, y]).toArray) (.agg (Co.ints [x, y]).toArray)).run Try.prog w = .ok (.bool false) w := by
  simp [Co.ints]
  go_simp
theorem run_neq_place (v : List Int) (hv : v.length = 3) (w : World) : (binOp .neq 33 (.agg (Pl.ints v).toArray) (.agg (Pl.ints v).toArray)).run Try.prog w = .ok (.bool false) w := by
  match v, hv with
  | [x, y, z], _ => exact neq_place x y z w
theorem run_neq_count (v : List Int) (hv : v.length = 2) (w : World) : (binOp .neq 37 (.agg (Co.ints v).toArray) (.agg (Co.ints v).toArray)).run Try.prog w = .ok (.bool false) w := by
  match v, hv with
  | [x, y], _ => exact neq_count x y w
abbrev Keys (w : World) (a : Option Addr) (cap : Nat) (l : List (List (BitVec 8))) : Prop := Items 32 (fun k => k.map U8) (fun k => k.length = 32) [] w a cap l
abbrev Places (w : World) (a : Option Addr) (cap : Nat) (l : List (List Int)) : Prop := Items 3 Pl.ints (fun k => k.length = 3) [] w a cap l
abbrev Counts (w : World) (a : Option Addr) (cap : Nat) (l : List (List Int)) : Prop := Items 2 Co.ints (fun k => k.length = 2) [] w a cap l
section
open Go.ChangeShapes Go.WideShapes Go.Deep
variable {H : Type} {enc : TypeId × Value → H} {w : World} {base : Nat} {held : Bool}
set_option maxRecDepth 100000 in
theorem cells_place {spare : Nat → Bool} {n : Nat} {cs : List Value} {y : DataW H × List MemPlace} (hl : cs.length = 3) (h : DataW.trod enc Try.prog w base spare held n 33 cs = some y) : ∃ d : List Int, cs = Pl.ints d ∧ d.length = 3 := by
  obtain ⟨fs, hs⟩ : ∃ fs, Try.prog.underlying 33 = some (.struct fs) := ⟨_, Try.underlying33⟩
  have hs' := hs.symm.trans Try.underlying33
  injection hs' with hs'
  injection hs' with hs'
  subst hs'
  obtain ⟨xs, m, _, _, _, hxl, hx⟩ := DataW.trod_struct hs h
  have h0 : DataW.trod enc Try.prog w base spare held m 3 ((cs.drop 0).take (Try.prog.cellsOf 3)) = xs[0]? := hx 0 _ rfl
  have h1 : DataW.trod enc Try.prog w base spare held m 3 ((cs.drop 1).take (Try.prog.cellsOf 3)) = xs[1]? := hx 1 _ rfl
  have h2 : DataW.trod enc Try.prog w base spare held m 3 ((cs.drop 2).take (Try.prog.cellsOf 3)) = xs[2]? := hx 2 _ rfl
  have c1 : Try.prog.cellsOf 3 = 1 := by kernel_rfl
  rw [c1] at h0 h1 h2
  have hxs : xs.length = 3 := hxl
  rw [List.getElem?_eq_getElem (by omega)] at h0 h1 h2
  obtain ⟨m0, e0⟩ := cells_int h0
  obtain ⟨m1, e1⟩ := cells_int h1
  obtain ⟨m2, e2⟩ := cells_int h2
  refine ⟨[m0, m1, m2], ?_, rfl⟩
  match cs, hl with
  | [a, b, c], _ =>
    simp at e0 e1 e2
    simp [Pl.ints, e0, e1, e2]
set_option maxRecDepth 100000 in
theorem cells_count {spare : Nat → Bool} {n : Nat} {cs : List Value} {y : DataW H × List MemPlace} (hl : cs.length = 2) (h : DataW.trod enc Try.prog w base spare held n 37 cs = some y) : ∃ d : List Int, cs = Co.ints d ∧ d.length = 2 := by
  obtain ⟨fs, hs⟩ : ∃ fs, Try.prog.underlying 37 = some (.struct fs) := ⟨_, Try.underlying37⟩
  have hs' := hs.symm.trans Try.underlying37
  injection hs' with hs'
  injection hs' with hs'
  subst hs'
  obtain ⟨xs, m, _, _, _, hxl, hx⟩ := DataW.trod_struct hs h
  have h0 : DataW.trod enc Try.prog w base spare held m 3 ((cs.drop 0).take (Try.prog.cellsOf 3)) = xs[0]? := hx 0 _ rfl
  have h1 : DataW.trod enc Try.prog w base spare held m 3 ((cs.drop 1).take (Try.prog.cellsOf 3)) = xs[1]? := hx 1 _ rfl
  have c1 : Try.prog.cellsOf 3 = 1 := by kernel_rfl
  rw [c1] at h0 h1
  have hxs : xs.length = 2 := hxl
  rw [List.getElem?_eq_getElem (by omega)] at h0 h1
  obtain ⟨m0, e0⟩ := cells_int h0
  obtain ⟨m1, e1⟩ := cells_int h1
  refine ⟨[m0, m1], ?_, rfl⟩
  match cs, hl with
  | [a, b], _ =>
    simp at e0 e1
    simp [Co.ints, e0, e1]
set_option maxRecDepth 100000 in
theorem arg_keys {r : Reach} {b0 : Nat} {v : Value} {d : DataW H} {p : List MemPlace} (hv : Value.okWide Try.prog w r b0 27 v) (h : DataW.Trod enc Try.prog w base (fun _ => true) held 27 v d p) :
    ∃ a cap ls, v = .slice a (ls : List (List (BitVec 8))).length cap ∧ Keys w a cap ls :=
  arg_items 32 (by decide) (fun k => k.map U8) (fun k => k.length = 32) [] Try.underlying27 (by kernel_rfl) (fun x hx => by simpa using hx) (fun n cs y _ h => cells_id h) hv h
set_option maxRecDepth 100000 in
theorem arg_places {r : Reach} {b0 : Nat} {v : Value} {d : DataW H} {p : List MemPlace} (hv : Value.okWide Try.prog w r b0 28 v) (h : DataW.Trod enc Try.prog w base (fun _ => true) held 28 v d p) :
    ∃ a cap ls, v = .slice a (ls : List (List Int)).length cap ∧ Places w a cap ls :=
  arg_items 3 (by decide) Pl.ints (fun k => k.length = 3) [] Try.underlying28 (by kernel_rfl) (fun x hx => by simpa [Pl.ints] using hx) (fun n cs y hl h => cells_place hl h) hv h
set_option maxRecDepth 100000 in
theorem arg_counts {r : Reach} {b0 : Nat} {v : Value} {d : DataW H} {p : List MemPlace} (hv : Value.okWide Try.prog w r b0 29 v) (h : DataW.Trod enc Try.prog w base (fun _ => true) held 29 v d p) :
    ∃ a cap ls, v = .slice a (ls : List (List Int)).length cap ∧ Counts w a cap ls :=
  arg_items 2 (by decide) Co.ints (fun k => k.length = 2) [] Try.underlying29 (by kernel_rfl) (fun x hx => by simpa [Co.ints] using hx) (fun n cs y hl h => cells_count hl h) hv h
end
end Go.Proofs.Ytahmnpbfjfllmaa
