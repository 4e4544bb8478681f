/- Rows of calls: how they lie in memory, how they come in; few. -/
import Derived.Test.YtahmnpbfjfllmaaTDel
import Derived.Test.YtahmnpbfjfllmaaGI
namespace Go.Proofs.Ytahmnpbfjfllmaa
open Go Go.RowKit

/-- A call: its kind, a key, a number. -/
structure Call where
  kind : Int
  key : List (BitVec 8)
  val : Int
instance : Inhabited Call := ⟨⟨0, [], 0⟩⟩
def callC (d : Call) : List Value := .int .i64 d.kind :: (d.key.map U8 ++ [.int .i64 d.val])
def callAt (l : List Call) (i : Nat) : Call := l.getD i ⟨0, [], 0⟩
theorem callAt_lt {l : List Call} {i : Nat} (h : i < l.length) : callAt l i = l[i] := by simp [callAt, List.getD_eq_getElem?_getD, List.getElem?_eq_getElem h]
theorem callAt_take {l : List Call} {n i : Nat} (h : i < n) : callAt (l.take n) i = callAt l i := by simp [callAt, List.getD_eq_getElem?_getD, h]
theorem callC_kind (d : Call) : (callC d)[0]? = some (.int .i64 d.kind) := rfl
theorem length_callC {d : Call} (h : d.key.length = 32) : (callC d).length = 34 := by simp [callC, h]
theorem callC_val {d : Call} (h : d.key.length = 32) : (callC d)[33]? = some (.int .i64 d.val) := by
  unfold callC
  rw [List.getElem?_cons_succ, List.getElem?_append_right (by simp [h])]
  simp [h]
theorem callC_key {d : Call} (h : d.key.length = 32) : ((callC d).drop 1).take 32 = d.key.map U8 := by
  unfold callC
  rw [List.drop_succ_cons, List.drop_zero, List.take_append_of_le_length (by simp [h]), List.take_of_length_le (by simp [h])]
structure Dos (w : World) (a : Option Addr) (cap : Nat) (l : List Call) : Prop where
  fits : l.length ≤ cap
  room : cap ≤ 9223372036854775807
  key : ∀ i, i < l.length → (callAt l i).key.length = 32
  rows : l = [] ∨ ∃ b off, a = some ⟨b, off, none⟩ ∧ ∀ i, i < l.length → w.rangeAt b (off + i * 34) (callC (callAt l i))
theorem Dos.keeps {w w' : World} {a : Option Addr} {cap : Nat} {l : List Call} (h : Dos w a cap l) (k : Keeps w w') : Dos w' a cap l := by
  refine ⟨h.fits, h.room, h.key, ?_⟩
  rcases h.rows with e | ⟨b, off, e, hb⟩
  · exact .inl e
  · exact .inr ⟨b, off, e, fun i hi j v hv => k _ _ (hb i hi j v hv)⟩
theorem Dos.take {w : World} {a : Option Addr} {cap : Nat} {l : List Call} (h : Dos w a cap l) (n : Nat) : Dos w a cap (l.take n) := by
  refine ⟨by rw [List.length_take]; have := h.fits; omega, h.room, fun i hi => ?_, ?_⟩
  · rw [List.length_take] at hi
    rw [callAt_take (by omega)]
    exact h.key i (by omega)
  · rcases h.rows with e | ⟨b, off, e, hb⟩
    · left; rw [e]; simp
    · right
      refine ⟨b, off, e, fun i hi => ?_⟩
      rw [List.length_take] at hi
      rw [callAt_take (by omega)]
      exact hb i (by omega)
theorem few_any (a : Option Addr) (cap : Nat) (l : List Call) (n : Nat) (N : Int) (w : World) (hN : (n : Int) = N) (hr : Dos w a cap l) (hn : n ≤ 1048576) :
    Calls Try.prog 22 #[.slice a l.length cap, .int .i64 N] w fun e w' => e = .returned (.slice a (l.take n).length cap) ∧ w = w' := by
  subst hN
  have hl := hr.fits
  have hc := hr.room
  by_cases h : n < l.length
  · rcases hr.rows with rfl | ⟨b, off, rfl, _⟩
    · simp at h
    · clear hr
      go_enter Try.func22, Try.ntmps22
      go_wp2
      go_ret
      exact ⟨ret_slice (by rw [List.length_take]; omega), rfl⟩
  · clear hr
    go_enter Try.func22, Try.ntmps22
    go_wp2
    go_ret
    exact ⟨ret_slice (by rw [List.length_take]; omega), rfl⟩
section
open Go.ChangeShapes Go.WideShapes Go.Deep
variable {H : Type} {enc : TypeId × Value → H} {w : World} {base : Nat} {spare : Nat → Bool} {held : Bool}
theorem cells_int {n : Nat} {cs : List Value} {y : DataW H × List MemPlace} (h : DataW.trod enc Try.prog w base spare held n 3 cs = some y) : ∃ m, cs = [.int .i64 m] := by
  obtain ⟨m, e, _, hw⟩ := DataW.trod_int Try.underlying3 h
  exact ⟨m, e⟩
theorem cells_id {n : Nat} {cs : List Value} {y : DataW H × List MemPlace} (h : DataW.trod enc Try.prog w base spare held n 23 cs = some y) : ∃ k : List (BitVec 8), cs = k.map U8 ∧ k.length = 32 := by
  have hu : Try.prog.underlying 23 = some (.array 32 5) := by kernel_rfl
  have hcell : Try.prog.cellsOf 5 = 1 := by kernel_rfl
  have hcells : Try.prog.cellsOf 23 = 32 := by kernel_rfl
  obtain ⟨xs, m, _, _, hc, hl, hx⟩ := DataW.trod_array hu h
  rw [hcells] at hc
  obtain ⟨k, hk, he⟩ := bytes_of_cells cs fun v hv => by
    obtain ⟨i, hi, e⟩ := List.getElem_of_mem hv
    have hi2 : i < 32 := by omega
    have h1 := hx i hi2
    rw [hcell, Nat.mul_one] at h1
    have e2 : (cs.drop i).take 1 = [v] := by
      rw [List.drop_eq_getElem_cons hi, e]
      simp
    rw [e2, List.getElem?_eq_getElem (by omega)] at h1
    exact arg_byte h1
  exact ⟨k, he, by omega⟩
theorem cells_call {n : Nat} {cs : List Value} {y : DataW H × List MemPlace} (hl : cs.length = 34) (h : DataW.trod enc Try.prog w base spare held n 51 cs = some y) : ∃ d : Call, cs = callC d ∧ d.key.length = 32 := by
  obtain ⟨fs, hs⟩ : ∃ fs, Try.prog.underlying 51 = some (.struct fs) := ⟨_, Try.underlying51⟩
  have hs' := hs.symm.trans Try.underlying51
  injection hs' with hs'
  injection hs' with hs'
  subst hs'
  obtain ⟨xs, m, _, _, _, hxl, hx⟩ := DataW.trod_struct hs h
  have h0 : DataW.trod enc Try.prog w base spare held m 3 ((cs.drop 0).take (Try.prog.cellsOf 3)) = xs[0]? := hx 0 _ rfl
  have h1 : DataW.trod enc Try.prog w base spare held m 23 ((cs.drop 1).take (Try.prog.cellsOf 23)) = xs[1]? := hx 1 _ rfl
  have h2 : DataW.trod enc Try.prog w base spare held m 3 ((cs.drop 33).take (Try.prog.cellsOf 3)) = xs[2]? := hx 2 _ rfl
  have c1 : Try.prog.cellsOf 3 = 1 := by kernel_rfl
  have c32 : Try.prog.cellsOf 23 = 32 := by kernel_rfl
  rw [c1] at h0 h2
  rw [c32] at h1
  have hxs : xs.length = 3 := hxl
  rw [List.getElem?_eq_getElem (by omega)] at h0 h1 h2
  obtain ⟨m0, e0⟩ := cells_int h0
  obtain ⟨k, e1, hk⟩ := cells_id h1
  obtain ⟨m2, e2⟩ := cells_int h2
  refine ⟨⟨m0, k, m2⟩, ?_, hk⟩
  have s : cs = (cs.drop 0).take 1 ++ ((cs.drop 1).take 32 ++ (cs.drop 33).take 1) := by
    rw [List.drop_zero]
    have a1 : (cs.drop 33).take 1 = cs.drop 33 := List.take_of_length_le (by rw [List.length_drop]; omega)
    rw [a1, show cs.drop 33 = (cs.drop 1).drop 32 by rw [List.drop_drop], List.take_append_drop, List.take_append_drop]
  rw [s]
  unfold callC
  rw [show (cs.drop 0).take 1 = [.int .i64 m0] from e0, show (cs.drop 1).take 32 = k.map U8 from e1, show (cs.drop 33).take 1 = [.int .i64 m2] from e2]
  rfl
set_option maxRecDepth 100000 in
/-- A row of calls. -/
theorem arg_dos {r : Reach} {b0 : Nat} {v : Value} {d : DataW H} {p : List MemPlace} (hv : Value.okWide Try.prog w r b0 46 v) (h : DataW.Trod enc Try.prog w base (fun _ => true) held 46 v d p) :
    ∃ a cap ls, v = .slice a (ls : List Call).length cap ∧ Dos w a cap ls := by
  obtain ⟨a, len, cap, rfl⟩ := okWide_slice Try.underlying46 hv
  obtain ⟨fuel, hf⟩ := h
  rcases open_slice Try.underlying46 hf with ⟨hcs, _⟩ | ⟨x, l, c, m, n, D, Pl, hcs, _, hl, hm, hmm, _, hi⟩
  · injection hcs with hcs
    injection hcs with e1 e2 e3
    subst e1 e2 e3
    exact ⟨none, 0, [], rfl, by simp, by omega, fun i hi => by simp at hi, .inl rfl⟩
  · injection hcs with hcs
    injection hcs with e1 e2 e3
    subst e1 e2 e3
    rw [if_pos rfl] at hmm
    have c34 : Try.prog.cellsOf 51 = 34 := by kernel_rfl
    rw [c34] at hi
    have one : ∀ i, i < len → ∃ (t : Call), t.key.length = 32 ∧ w.cells? base (x.add (i * 34)) 34 = some (callC t) := by
      intro i hlt
      obtain ⟨cs', h1, h2⟩ := hi i (by omega)
      obtain ⟨_, hcl, _⟩ := World.cells?_some h1
      obtain ⟨t, e, hk⟩ := cells_call hcl h2
      exact ⟨t, hk, by rw [h1, e]⟩
    obtain ⟨f, hf⟩ := choose_lt one
    have hmx : maxLen = 9223372036854775807 := rfl
    have hat : ∀ i, i < len → callAt ((List.range len).map f) i = f i := fun i hi => by simp [callAt, List.getD_eq_getElem?_getD, hi]
    refine ⟨some x, cap, (List.range len).map f, by simp, by simpa using hl, by omega, fun i hi => ?_, ?_⟩
    · rw [List.length_map, List.length_range] at hi
      rw [hat i hi]
      exact (hf i hi).1
    · by_cases h0 : len = 0
      · left; subst h0; rfl
      · right
        have hx := by
          obtain ⟨_, _, hc⟩ := World.cells?_some (hf 0 (by omega)).2
          have := hc 0 (by decide)
          rw [callC_kind] at this
          exact spot_none (x := x) (by simpa [Addr.add] using this)
        refine ⟨x.block, x.off, by rw [← hx], fun i hi j v hv => ?_⟩
        rw [List.length_map, List.length_range] at hi
        rw [hat i hi] at hv
        obtain ⟨_, _, hc⟩ := World.cells?_some (hf i hi).2
        obtain ⟨hj, e⟩ := List.getElem?_eq_some_iff.1 hv
        have h3 := hc j (by rw [length_callC (hf i hi).1] at hj; exact hj)
        rw [hv, hx, Addr.add_lit, Addr.add_lit] at h3
        exact h3
end
end Go.Proofs.Ytahmnpbfjfllmaa
