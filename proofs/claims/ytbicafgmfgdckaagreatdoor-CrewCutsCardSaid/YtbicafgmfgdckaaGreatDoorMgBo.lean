/- From what came in to what the walks are told. Arguments of further kinds: structs of one-cell fields, slices of whatever elements. For any program. A shape that came in. -/
import Derived.Test.YtbicafgmfgdckaaGreatDoorMgAa
import Derived.Test.YtbicafgmfgdckaaGreatDoorMgAj
import Derived.ProofKit
import Derived.OpenShut
import Derived.ShutString
import Derived.ChangeOld
import Derived.Below
import Derived.Deep.Fields
import Derived.Deep.Slices
namespace Go.Proofs.YtbicafgmfgdckaaGreatDoor
open Go Go.RowKit

def IsRow (k : IntKind) (w : World) (a : Option Addr) (len cap : Nat) (zs : List Int) : Prop :=
 (a = none /\ len = 0 /\ cap = 0 /\ zs = []) \/
 ∃ x, a = some x /\ len <= cap /\ cap <= maxLen /\ zs.length = cap /\ (∀ i, i < zs.length -> w.cell? (x.add i) = some (.int k (zs.getD i 0))) /\ ∀ n ∈ zs, (Lit.int k n).wf = true

theorem spot_none {w : World} {x : Addr} {v : Value} (h : w.cell? x = some v) : x = ⟨x.block, x.off, none⟩ := by
 cases x with
 | mk b o s =>
  cases s with
  | none => rfl
  | some n =>
   unfold World.cell? at h
   simp only at h
   split at h <;> simp at h
theorem IsRow.reads {w : World} {a : Option Addr} {len cap : Nat} {zs : List Int} (h : IsRow .u8 w a len cap zs) : ∃ l : List (BitVec 8), len = l.length /\ Reads w a cap l := by
 rcases h with ⟨rfl, rfl, rfl, rfl⟩ | ⟨x, rfl, hl, hm, hz, hc, hw⟩
 ·exact ⟨[], rfl, reads_nil w⟩
 ·refine ⟨(zs.take len).map (BitVec.ofInt 8), by rw [List.length_map, List.length_take]; omega, by rw [List.length_map, List.length_take]; omega, by unfold maxLen at hm; omega, (by intro e; cases e), ?_⟩
  by_cases h0 : len = 0
  ·left; subst h0; rfl
  ·right
   have hx := spot_none (hc 0 (by omega))
   have e0 : x.add 0 = x := by simp [Addr.add]
   rw [e0] at hx
   refine ⟨x.block, x.off, by rw [<- hx], fun i hi => ?_⟩
   rw [List.length_map, List.length_take] at hi
   have hi2 : i < zs.length := by omega
   have hb := bounds_u8 (hw (zs.getD i 0) (by rw [List.getD_eq_getElem?_getD, List.getElem?_eq_getElem hi2]; exact List.getElem_mem hi2))
   have hci := hc i hi2
   rw [hx, Addr.add_lit] at hci
   rw [hci, u8_of _ hb.1 (by omega)]
   congr 2
   simp [byteAt, List.getD_eq_getElem?_getD, show i < len by omega, List.getElem?_eq_getElem hi2]
theorem open_u32 {n : Int} (h : (Lit.int .u32 n).wf = true) : ∃ b : BitVec 32, Value.int .u32 n = U32 b := ⟨_, u32_of n (bounds_u32 h).1 (by have := (bounds_u32 h).2; omega)⟩
end Go.Proofs.YtbicafgmfgdckaaGreatDoor
namespace Go.Proofs.YtbicafgmfgdckaaGreatDoor
open Go Go.RowKit Go.ChangeShapes Go.WideShapes Go.Deep

section
variable {H : Type} {enc : TypeId × Value -> H} {P : Program} {w : World} {base : Nat} {spare : Nat -> Bool} {held : Bool}
theorem arg_fields {r : Reach} {b0 : Nat} {t : TypeId} {fs : Array Field} {v : Value} {d : DataW H} {p : List MemPlace} (hs : P.underlying t = some (.struct fs)) (hone : oneCellFields P fs = true)
  (hv : Value.okWide P w r b0 t v) (h : DataW.Trod enc P w base spare held t v d p) :
  ∃ cs : Array Value, v = .agg cs /\ cs.size = P.cellsOf t /\ ∀ (i : Nat) (f : Field), fs[i]? = some f -> i < cs.size -> ∃ n y, DataW.trod enc P w base spare held n f.type [cs.getD i undef] = some y := by
 obtain ⟨cs, rfl, hc⟩ := okWide_struct hs hv
 refine ⟨cs, rfl, hc, fun i f hf hi => ?_⟩
 obtain ⟨fuel, hfu⟩ := h
 obtain ⟨xs, n, _, _, _, hl, hx⟩ := DataW.trod_struct hs hfu
 obtain ⟨ho, hk⟩ := hone_of hone i f hf
 have hfi : i < fs.size := (Array.getElem?_eq_some_iff.1 hf).1
 have h1 := hx i f hf
 rw [ho, hk] at h1
 have e : (((Value.agg cs).cells.toList).drop i).take 1 = [cs.getD i undef] := by
  show (cs.toList.drop i).take 1 = _
  rw [List.drop_eq_getElem_cons (by simpa using hi)]
  simp [Array.getD_eq_getD_getElem?, hi]
 rw [e, List.getElem?_eq_getElem (by omega)] at h1
 exact ⟨n, _, h1⟩
end
end Go.Proofs.YtbicafgmfgdckaaGreatDoor
namespace Go.Proofs.YtbicafgmfgdckaaGreatDoor
open Go Go.RowKit Go.ChangeShapes Go.WideShapes Go.Deep

section
variable {H : Type} {enc : TypeId × Value -> H} {w : World} {base : Nat} {spare : Nat -> Bool} {held : Bool}
theorem arg_int {t : TypeId} {k : IntKind} {n : Nat} {v : Value} {y : DataW H × List MemPlace} (ht : Tryz.prog.underlying t = some (.int k)) (h : DataW.trod enc Tryz.prog w base spare held n t [v] = some y) : ∃ m, v = .int k m /\ (Lit.int k m).wf = true := by
 obtain ⟨m, e, _, hw⟩ := DataW.trod_int ht h
 injection e with e
 exact ⟨m, e, hw⟩
set_option maxRecDepth 100000 in
theorem arg_shape {r : Reach} {b0 : Nat} {v : Value} {d : DataW H} {p : List MemPlace} (hv : Value.okWide Tryz.prog w r b0 24 v) (h : DataW.Trod enc Tryz.prog w base spare held 24 v d p) :
  ∃ (L M K W : Int) (s : BitVec 32), v = shapeV L M K W s := by
 obtain ⟨fs, hs⟩ : ∃ fs, Tryz.prog.underlying 24 = some (.struct fs) := ⟨_, Tryz.underlying24⟩
 have hs' := hs.symm.trans Tryz.underlying24
 injection hs' with hs'
 injection hs' with hs'
 subst hs'
 obtain ⟨cs, rfl, hc, hf⟩ := arg_fields hs (by kernel_rfl) hv h
 have h5 : cs.size = 5 := hc.trans (by kernel_rfl)
 obtain ⟨l⟩ := cs
 match l, h5 with
 | [c0, c1, c2, c3, c4], _ =>
  obtain ⟨n0, y0, e0⟩ := hf 0 _ rfl (by simp)
  obtain ⟨n1, y1, e1⟩ := hf 1 _ rfl (by simp)
  obtain ⟨n2, y2, e2⟩ := hf 2 _ rfl (by simp)
  obtain ⟨n3, y3, e3⟩ := hf 3 _ rfl (by simp)
  obtain ⟨n4, y4, e4⟩ := hf 4 _ rfl (by simp)
  obtain ⟨m0, g0, _⟩ := arg_int Tryz.underlying3 e0
  obtain ⟨m1, g1, _⟩ := arg_int Tryz.underlying3 e1
  obtain ⟨m2, g2, _⟩ := arg_int Tryz.underlying3 e2
  obtain ⟨m3, g3, _⟩ := arg_int Tryz.underlying3 e3
  obtain ⟨m4, g4, w4⟩ := arg_int Tryz.underlying22 e4
  obtain ⟨s, es⟩ := open_u32 w4
  refine ⟨m0, m1, m2, m3, s, ?_⟩
  have q0 : c0 = .int .i64 m0 := g0
  have q1 : c1 = .int .i64 m1 := g1
  have q2 : c2 = .int .i64 m2 := g2
  have q3 : c3 = .int .i64 m3 := g3
  have q4 : c4 = .int .u32 m4 := g4
  rw [q0, q1, q2, q3, q4, es]; rfl
end
end Go.Proofs.YtbicafgmfgdckaaGreatDoor
