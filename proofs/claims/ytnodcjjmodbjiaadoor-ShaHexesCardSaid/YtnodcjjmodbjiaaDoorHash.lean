/- A hasher in memory; New, ok, Len, Clone. -/
import Derived.Test.YtnodcjjmodbjiaaDoorTake
import Derived.Test.YtnodcjjmodbjiaaDoorNum
import Derived.Test.YtnodcjjmodbjiaaDoorP
import Derived.Laws.CopyRow
import Derived.Lib.LazyBuf
namespace Go.Proofs.YtnodcjjmodbjiaaDoor
open Go Go.RowKit

/-! Loads and stores of a part of a row. -/
theorem run_loadVar_part {P : Program} (w : World) (g o : Nat) (t ty : TypeId) (cs : Array Value) (fr : Nat × Nat) (d : TypeDesc) (part : List Value) (hg : w.heap[g]? = some (.cells cs t fr)) (hp : ∀ j v, part[j]? = some v → cs[o + j]? = some v)
    (hu : P.underlying ty = some d) (hd : (match d with | .struct _ | .array _ _ => true | _ => false) = true) (hi : (P.info? ty).map (·.size) = some part.length) :
    (loadVar ty ⟨g, o, none⟩).run P w = .ok (.agg part.toArray) w := by
  have hl : (loadCells ⟨g, o, none⟩ part.length).run P w = .ok part.toArray w :=
    run_loadCells_list (P := P) w ⟨g, o, none⟩ part (fun j v hv => by
      rw [Addr.add_lit, cell_of_row w g (o + j) cs t fr hg]
      exact hp j v hv)
  cases hq : P.info? ty with
  | none => simp [hq] at hi
  | some i =>
    have hs : i.size = part.length := by simpa [hq] using hi
    have hagg : (isAgg ty).run P w = .ok true w := by
      unfold isAgg
      rw [Sem.run_bind, run_underlying hu w]
      cases d <;> simp_all
    simp [loadVar, Sem.run_bind, hagg, sizeOf, typeInfo, hq, hs, hl]
theorem wpList_load_part {P : Program} {ops : Array Oper} {rest : List Oper} {o : Oper} {a : Act} {w : World} {Q : Exit → Act → World → Prop} (hgd : o.guard = none) (ty : TypeId) (x : Operand) (ho : o.op = .load ty x)
    (g off : Nat) (hx : a.eval x = .pointer (some ⟨g, off, none⟩)) (t : TypeId) (cs : Array Value) (fr : Nat × Nat) (d : TypeDesc) (part : List Value) (hg : w.heap[g]? = some (.cells cs t fr)) (hp : ∀ j v, part[j]? = some v → cs[off + j]? = some v)
    (hu : P.underlying ty = some d) (hd : (match d with | .struct _ | .array _ _ => true | _ => false) = true) (hi : (P.info? ty).map (·.size) = some part.length)
    (h : wpList P ops Q rest (a.put o.dst (.agg part.toArray)) w) : wpList P ops Q (o :: rest) a w :=
  wpList_plain hgd fun _ hK => by
    unfold Oper.wp execOp
    simp only [ho, hx, Instr.loadAt, Instr.sureAddr, Sem.run_bind, Sem.run_pure, Result.andThen_ok, run_loadVar_part w g off t ty cs fr d part hg hp hu hd hi]
    exact hK _ _ h
theorem wpList_store_part {P : Program} {ops : Array Oper} {rest : List Oper} {o : Oper} {a : Act} {w : World} {Q : Exit → Act → World → Prop} (hgd : o.guard = none) (ty : TypeId) (x y : Operand) (ho : o.op = .store ty x y)
    (g off : Nat) (part : List Value) (hx : a.eval x = .pointer (some ⟨g, off, none⟩)) (hy : a.eval y = .agg part.toArray)
    (t : TypeId) (old : Array Value) (hg : w.heap[g]? = some (.cells old t (0, 0))) (hi : (P.info? ty).map (·.size) = some part.length)
    (hfit : off + part.length ≤ old.size) (h1 : ∀ v ∈ part, v.oneCell' = true)
    (h : wpList P ops Q rest (a.put o.dst undef) (w.setRow g (old.toList.take off ++ part ++ old.toList.drop (off + part.length)).toArray)) : wpList P ops Q (o :: rest) a w :=
  wpList_plain hgd fun _ hK => by
    have hst := run_storeCells_at P g off t part 0 old w hg (by omega) h1
    simp only [Nat.add_zero] at hst
    have hsv : (storeVar ty ⟨g, off, none⟩ (.agg part.toArray)).run P w = .ok () (w.setRow g (old.toList.take off ++ part ++ old.toList.drop (off + part.length)).toArray) := by
      cases hq : P.info? ty with
      | none => simp [hq] at hi
      | some i =>
        have hs : part.length = i.size := by simp [hq] at hi; omega
        simp [storeVar, sizeOf, typeInfo, hq, Value.cells, hs]
        rw [← hs, ← List.append_assoc]
        exact hst
    unfold Oper.wp execOp
    simp only [ho, hx, hy, Instr.storeAt, Instr.sureAddr, Sem.run_bind, Sem.run_pure, Result.andThen_ok, hsv]
    exact hK _ _ h

/-! A hasher. -/
def hashCells (m : Bool) (f : Words) (v : Value) (n : Int) : List Value := .bool m :: (f.map U32 ++ [v, .int .i64 n])
structure HAt (w : World) (b : Nat) (m : Bool) (f : Words) (v : Value) (n : Int) : Prop where
  row : w.heap[b]? = some (.cells (hashCells m f v n).toArray 46 (0, 0))
  len : f.length = 8
section
variable {w w' : World} {b : Nat} {m : Bool} {f : Words} {v : Value} {n : Int}
theorem HAt.lt (h : HAt w b m f v n) : b < w.heap.size := heap_lt h.row
theorem HAt.made (h : HAt w b m f v n) : w.cell? ⟨b, 0, none⟩ = some (.bool m) := by
  rw [cell_of_row w b 0 _ _ _ h.row]; rfl
theorem HAt.rest (h : HAt w b m f v n) : w.cell? ⟨b, 9, none⟩ = some v := by
  rw [cell_of_row w b 9 _ _ _ h.row]
  have := h.len
  match f, this with
  | [_, _, _, _, _, _, _, _], _ => rfl
theorem HAt.n_ (h : HAt w b m f v n) : w.cell? ⟨b, 10, none⟩ = some (.int .i64 n) := by
  rw [cell_of_row w b 10 _ _ _ h.row]
  have := h.len
  match f, this with
  | [_, _, _, _, _, _, _, _], _ => rfl
theorem HAt.thawed (h : HAt w b m f v n) (o : Nat) : w.frozen? ⟨b, o, none⟩ = false := by simp [World.frozen?, h.row]
theorem HAt.part (h : HAt w b m f v n) (j : Nat) (x : Value) (hx : (f.map U32)[j]? = some x) : (hashCells m f v n).toArray[1 + j]? = some x := by
  have hj : j < f.length := by
    have := (List.getElem?_eq_some_iff.1 hx).1
    simpa using this
  rw [List.getElem?_toArray, hashCells, Nat.add_comm, List.getElem?_cons_succ, List.getElem?_append_left (by simpa using hj)]
  exact hx
theorem HAt.touch {F : Nat → Prop} (h : HAt w b m f v n) (t : Touch F w w') (hn : ¬ F b) : HAt w' b m f v n := ⟨by rw [t.block b h.lt hn]; exact h.row, h.len⟩
theorem HAt.below (h : HAt w b m f v n) (hb : Below w.heap.size w w') : HAt w' b m f v n := h.touch (F := fun _ => False) (.of_below hb) fun e => e
theorem HAt.drewN (h : HAt w b m f v n) (j : Nat) : HAt (w.drewN j) b m f v n := ⟨h.row, h.len⟩
theorem HAt.setRest (h : HAt w b m f v n) (u : Value) : HAt (w.setCell ⟨b, 9, none⟩ u) b m f u n := by
  refine ⟨?_, h.len⟩
  rw [setCell_eq_setRow w b 9 _ _ _ u h.row, setRow_heap w b _ _ _ _ h.row]
  have := h.len
  match f, this with
  | [_, _, _, _, _, _, _, _], _ => rfl
theorem HAt.setN (h : HAt w b m f v n) (k : Int) : HAt (w.setCell ⟨b, 10, none⟩ (.int .i64 k)) b m f v k := by
  refine ⟨?_, h.len⟩
  rw [setCell_eq_setRow w b 10 _ _ _ (.int .i64 k) h.row, setRow_heap w b _ _ _ _ h.row]
  have := h.len
  match f, this with
  | [_, _, _, _, _, _, _, _], _ => rfl
theorem HAt.setState (h : HAt w b m f v n) (g : Words) (hg : g.length = 8) :
    HAt (w.setRow b ((hashCells m f v n).toArray.toList.take 1 ++ g.map U32 ++ (hashCells m f v n).toArray.toList.drop (1 + (g.map U32).length)).toArray) b m g v n := by
  refine ⟨?_, hg⟩
  rw [setRow_heap w b _ _ _ _ h.row]
  have := h.len
  match f, this, g, hg with
  | [_, _, _, _, _, _, _, _], _, [_, _, _, _, _, _, _, _], _ => rfl
end
theorem words_one (f : Words) : ∀ x ∈ f.map U32, x.oneCell' = true := fun x hx => by obtain ⟨y, _, rfl⟩ := List.mem_map.1 hx; rfl
section
variable {ops : Array Oper} {rest : List Oper} {o : Oper} {a : Act} {w : World} {Q : Exit → Act → World → Prop} {b : Nat} {m : Bool} {f : Words} {v : Value} {n : Int}
theorem wpList_load_state (h : HAt w b m f v n) (hgd : o.guard = none) (x : Operand) (ho : o.op = .load 44 x) (hx : a.eval x = .pointer (some ⟨b, 1, none⟩))
    (hK : wpList Tryd.prog ops Q rest (a.put o.dst (.agg (arr f))) w) : wpList Tryd.prog ops Q (o :: rest) a w := by
  have hag : (Tryd.prog.info? 44).map (·.size) = some (f.map U32).length := by rw [List.length_map, h.len]; kernel_rfl
  exact wpList_load_part hgd 44 x ho b 1 hx _ _ _ _ (f.map U32) h.row (fun j v hv => h.part j v hv) Tryd.underlying44 rfl hag hK
theorem wpList_store_state (h : HAt w b m f v n) (g : Words) (hg : g.length = 8) (hgd : o.guard = none) (x y : Operand) (ho : o.op = .store 44 x y) (hx : a.eval x = .pointer (some ⟨b, 1, none⟩)) (hy : a.eval y = .agg (arr g))
    (hK : ∀ w', HAt w' b m g v n → Touch (fun q => q = b) w w' → wpList Tryd.prog ops Q rest (a.put o.dst undef) w') : wpList Tryd.prog ops Q (o :: rest) a w := by
  have hag : (Tryd.prog.info? 44).map (·.size) = some (g.map U32).length := by rw [List.length_map, hg]; kernel_rfl
  have hfit : 1 + (g.map U32).length ≤ (hashCells m f v n).toArray.size := by rw [List.length_map, hg]; simp [hashCells, h.len]
  exact wpList_store_part hgd 44 x y ho b 1 (g.map U32) hx hy _ _ h.row hag hfit (words_one g) (hK _ (h.setState g hg) (Touch.setRow _ _ _ rfl))
end
theorem arr_part (f : Words) : (f.map U32).toArray = arr f := rfl
theorem hok_any {w : World} {b : Nat} {m : Bool} {f : Words} {v : Value} {n : Int} (h : HAt w b m f v n) :
    Calls Tryd.prog 31 #[.pointer (some ⟨b, 0, none⟩)] w fun e w' => e = .returned (.bool m) ∧ w = w' := by
  have c0 := h.made
  go_enter Tryd.func31, Tryd.ntmps31
  go_wp2
  go_ret
  exact ⟨rfl, rfl⟩
theorem hok_none (w : World) : Calls Tryd.prog 31 #[.pointer none] w fun e w' => e = .returned (.bool false) ∧ w = w' := by
  go_enter Tryd.func31, Tryd.ntmps31
  go_wp2
  go_ret
  exact ⟨rfl, rfl⟩
theorem begin_any (w : World) : Calls Tryd.prog 30 #[] w fun e w' => e = .returned (.agg (arr Sha.begin.list)) ∧ Below w.heap.size w w' := by
  obtain ⟨z8, hz8, hz8l⟩ := zero_state
  obtain ⟨L, hL⟩ : ∃ L : Words, L = Sha.begin.list := ⟨_, rfl⟩
  have hLl : L.length = 8 := by rw [hL]; rfl
  have hbu : Program.built Tryd.prog 44 [(0, .int .u32 1779033703), (1, .int .u32 3144134277), (2, .int .u32 1013904242), (3, .int .u32 2773480762), (4, .int .u32 1359893119), (5, .int .u32 2600822924), (6, .int .u32 528734635), (7, .int .u32 1541459225)] = some (arr L) := by rw [hL]; kernel_rfl
  rw [← hL]
  clear hL
  have hiv : (Tryd.prog.info? 44).map (·.size) = some (arr L).size := by rw [arr_size, hLl]; kernel_rfl
  have hsz : (arr z8).size = (arr L).size := by rw [arr_size, arr_size, hLl, hz8l]
  have hov := arr_one L
  go_enter Tryd.func30, Tryd.ntmps30
  go_wp2_with (with_reducible refine stop_build ?roundEnd)
  refine wpList_built rfl 44 _ rfl (arr L) ?hb0 ?nx1
  case hb0 => go_simp
  clear hbu
  have h3 : (w.alloc (.cells (arr z8) 44)).heap[w.heap.size]? = some (.cells (arr z8) 44 (0, 0)) := ArrAt.new w 44 z8
  have h4 : ArrAt ((w.alloc (.cells (arr z8) 44)).setRow w.heap.size (arr L)) w.heap.size 44 L := (ArrAt.new w 44 z8).row L
  have t : Touch (fun q => q = w.heap.size) w ((w.alloc (.cells (arr z8) 44)).setRow w.heap.size (arr L)) := ((Touch.refl _ _).alloc _).trans (Touch.setRow _ _ _ rfl)
  go_wp2_with (refine wpList_store_row rfl 44 _ _ rfl w.heap.size (arr L) rfl rfl _ (arr z8) h3 hiv hsz hov ?_)
  refine bodyPost_ret (results_cell_row rfl _ _ w.heap.size _ (arr L) _ _ rfl h4 Tryd.underlying44 rfl hiv) rfl ?_
  exact ⟨rfl, t.below (fun q e => by omega) (Nat.le_refl _)⟩
structure Hasher (w : World) (B b : Nat) (v : Value) (l : List (BitVec 8)) : Prop where
  at_ : HAt w b true (Sha.held l).list v l.length
  own : Owns w B 5 v (Sha.left l)
  vb : v.ownBlock ≠ some b
  low : B ≤ b
theorem new_any (w : World) : Calls Tryd.prog 16 #[] w fun e w' => ∃ b, e = .returned (.pointer (some ⟨b, 0, none⟩)) ∧ w.heap.size ≤ b ∧ Hasher w' w.heap.size b (.slice none 0 0) [] ∧ Below w.heap.size w w' := by
  have BG := begin_any w
  obtain ⟨L, hL⟩ : ∃ L : Words, L = Sha.begin.list := ⟨_, rfl⟩
  have hbu : Program.built Tryd.prog 46 [(0, .bool true), (1, .agg (arr L))] = some (hashCells true L (.slice none 0 0) 0).toArray := by rw [hL]; kernel_rfl
  rw [← hL] at BG
  obtain ⟨C, hC⟩ : ∃ C, C = (hashCells true L (.slice none 0 0) 0).toArray := ⟨_, rfl⟩
  rw [← hC] at hbu
  have HC := Lib.hid hC
  clear hC
  have hLl : L.length = 8 := by rw [hL]; rfl
  have HL := Lib.hid hL
  clear hL
  go_enter Tryd.func16, Tryd.ntmps16
  go_wp2_with fail
  refine BG.mono ?_
  rintro e w2 ⟨rfl, hb2⟩
  clear BG
  go_wp2_with (with_reducible refine stop_build ?roundEnd)
  refine wpList_built rfl 46 _ rfl C ?hb0 ?nx1
  case hb0 => go_simp
  clear hbu
  go_wp2
  go_ret
  have t : Touch (fun _ => False) w2 (w2.alloc (.cells C 46)) := (Touch.refl _ _).alloc _
  have hb := hb2.size
  have h0 : (Sha.held []).list = Sha.begin.list := rfl
  refine ⟨_, rfl, hb, ⟨⟨?_, by rw [h0, ← HL.out]; exact hLl⟩, owns_nil _ _ _, by simp [Value.ownBlock], hb⟩, hb2.trans (t.below (fun _ e => e.elim) hb)⟩
  rw [h0, ← HL.out, show (([] : List (BitVec 8)).length : Int) = 0 from rfl, ← HC.out]
  exact heap_alloc_new w2 _
/-- A copy of bytes. -/
theorem clone_none (w : World) : Calls Tryd.prog 32 #[.slice none 0 0] w fun e w' => e = .returned (.slice none 0 0) ∧ w = w' := by
  have hn := run_eql_slice_nil (P := Tryd.prog) w 22 5 none 0 0 byteSlice.slice
  go_enter Tryd.func32, Tryd.ntmps32
  go_wp2
  go_ret
  exact ⟨rfl, rfl⟩
theorem clone_some (ad : Addr) (cap : Nat) (l : List (BitVec 8)) (w : World) (hr : Reads w (some ad) cap l) (hl : l.length ≤ 1048576) :
    Calls Tryd.prog 32 #[.slice (some ad) l.length cap] w fun e w' => ∃ v, e = .returned v ∧ Owns w' w.heap.size 5 v l ∧ Below w.heap.size w w' := by
  have hn := run_eql_slice_nil (P := Tryd.prog) w 22 5 (some ad) l.length cap byteSlice.slice
  rw [show (some ad).isNone = false from rfl] at hn
  have ho : Owns (w.alloc (.cells #[] 5)) w.heap.size 5 (.slice (some ⟨w.heap.size, 0, none⟩) 0 0) [] :=
    World.ownsRow_lit w (e := 5) (size := 1) #[] 0 (Nat.le_refl _) (by unfold maxLen; omega) rfl
  have hr2 := hr.keeps (Keeps.alloc w (.cells #[] 5))
  have hsz : w.heap.size ≤ (w.alloc (.cells #[] 5)).heap.size := by simp
  have hlen : ([] : List (BitVec 8)).length + l.length ≤ 140737488355328 := by simp; omega
  have t1 : Touch (fun q => w.heap.size ≤ q) w (w.alloc (.cells #[] 5)) := (Touch.refl _ _).alloc _
  go_enter Tryd.func32, Tryd.ntmps32
  go_wp2_with (at_builtin; refine wpList_append_bytes_at byteSlice rfl _ _ rfl w.heap.size _ [] rfl ho (some ad) cap l rfl hr2 hlen hsz ?_; intro v w5 ho5 hg5 _)
  go_ret
  refine ⟨v, rfl, ho5, ?_⟩
  have t2 : Touch (fun q => w.heap.size ≤ q) (w.alloc (.cells #[] 5)) w5 := .of_grown hg5 fun k hk => by
    injection hk with hk; rw [← hk]; exact Nat.le_refl _
  exact (t1.trans t2).below (fun q e => e) (Nat.le_refl _)
theorem clone_any (a : Option Addr) (cap : Nat) (l : List (BitVec 8)) (w : World) (hr : Reads w a cap l) (hl : l.length ≤ 1048576) :
    Calls Tryd.prog 32 #[.slice a l.length cap] w fun e w' => ∃ v, e = .returned v ∧ Owns w' w.heap.size 5 v l ∧ Below w.heap.size w w' := by
  cases a with
  | some ad => exact clone_some ad cap l w hr hl
  | none =>
    obtain rfl := hr.null rfl
    obtain rfl : l = [] := List.eq_nil_of_length_eq_zero (by have := hr.fits; omega)
    exact (clone_none w).mono fun e w' h => ⟨_, h.1, h.2 ▸ owns_nil _ _ _, h.2 ▸ Below.refl _ _⟩
theorem hlen_any {w : World} {B b : Nat} {v : Value} {l : List (BitVec 8)} (h : Hasher w B b v l) :
    Calls Tryd.prog 20 #[.pointer (some ⟨b, 0, none⟩)] w fun e w' => e = .returned (.int .i64 l.length) ∧ w = w' := by
  have OK := hok_any h.at_
  have c := h.at_.n_
  clear h
  go_enter Tryd.func20, Tryd.ntmps20
  go_wp2_with fail
  refine OK.mono ?_
  rintro e w' ⟨rfl, rfl⟩
  go_wp2
  go_ret
  exact ⟨rfl, rfl⟩
end Go.Proofs.YtnodcjjmodbjiaaDoor
