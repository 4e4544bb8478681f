/- A hasher in memory; New, ok, Len, Clone. The hasher's Write. The hasher's Write: where something was left. The hasher's Write: where something was left, and a block is full. -/
import Derived.Test.YtbicafgmfgdckaaDoorMgShA
import Derived.Test.YtbicafgmfgdckaaDoorMgWc
import Derived.Laws.CopyRow
import Derived.Lib.LazyBuf
namespace Go.Proofs.YtbicafgmfgdckaaDoor
open Go Go.RowKit

/-! Loads and stores of a part of a row. -/
theorem run_loadVar_part {P : Program} (w : World) (g o : Nat) (t ty : TypeId) (cs : Array Value) (fr : Nat × Nat) (d : TypeDesc) (part : List Value) (hg : w.heap[g]? = some (.cells cs t fr)) (hp : ∀ j v, part[j]? = some v → cs[o + j]? = some v)
    (hu : P.underlying ty = some d) (hd : (match d with | .struct _ | .array _ _ => true | _ => false) = true) (hi : (P.info? ty).map (·.size) = some part.length) :
    (loadVar ty ⟨g, o, none⟩).run P w = .ok (.agg part.toArray) w := by
  have hl : (loadCells ⟨g, o, none⟩ part.length).run P w = .ok part.toArray w :=
    run_loadCells_list (P := P) w ⟨g, o, none⟩ part (fun j v hv => by
      rw [Addr.add_lit, cell_of_row w g (o + j) cs t fr hg]
      exact hp j v hv)
  cases hq : P.info? ty with
  | none => simp [hq] at hi
  | some i =>
    have hs : i.size = part.length := by simpa [hq] using hi
    have hagg : (isAgg ty).run P w = .ok true w := by
      unfold isAgg
      rw [Sem.run_bind, run_underlying hu w]
      cases d <;> simp_all
    simp [loadVar, Sem.run_bind, hagg, sizeOf, typeInfo, hq, hs, hl]
theorem wpList_load_part {P : Program} {ops : Array Oper} {rest : List Oper} {o : Oper} {a : Act} {w : World} {Q : Exit → Act → World → Prop} (hgd : o.guard = none) (ty : TypeId) (x : Operand) (ho : o.op = .load ty x)
    (g off : Nat) (hx : a.eval x = .pointer (some ⟨g, off, none⟩)) (t : TypeId) (cs : Array Value) (fr : Nat × Nat) (d : TypeDesc) (part : List Value) (hg : w.heap[g]? = some (.cells cs t fr)) (hp : ∀ j v, part[j]? = some v → cs[off + j]? = some v)
    (hu : P.underlying ty = some d) (hd : (match d with | .struct _ | .array _ _ => true | _ => false) = true) (hi : (P.info? ty).map (·.size) = some part.length)
    (h : wpList P ops Q rest (a.put o.dst (.agg part.toArray)) w) : wpList P ops Q (o :: rest) a w :=
  wpList_plain hgd fun _ hK => by
    unfold Oper.wp execOp
    simp only [ho, hx, Instr.loadAt, Instr.sureAddr, Sem.run_bind, Sem.run_pure, Result.andThen_ok, run_loadVar_part w g off t ty cs fr d part hg hp hu hd hi]
    exact hK _ _ h
theorem wpList_store_part {P : Program} {ops : Array Oper} {rest : List Oper} {o : Oper} {a : Act} {w : World} {Q : Exit → Act → World → Prop} (hgd : o.guard = none) (ty : TypeId) (x y : Operand) (ho : o.op = .store ty x y)
    (g off : Nat) (part : List Value) (hx : a.eval x = .pointer (some ⟨g, off, none⟩)) (hy : a.eval y = .agg part.toArray)
    (t : TypeId) (old : Array Value) (hg : w.heap[g]? = some (.cells old t (0, 0))) (hi : (P.info? ty).map (·.size) = some part.length)
    (hfit : off + part.length ≤ old.size) (h1 : ∀ v ∈ part, v.oneCell' = true)
    (h : wpList P ops Q rest (a.put o.dst undef) (w.setRow g (old.toList.take off ++ part ++ old.toList.drop (off + part.length)).toArray)) : wpList P ops Q (o :: rest) a w :=
  wpList_plain hgd fun _ hK => by
    have hst := run_storeCells_at P g off t part 0 old w hg (by omega) h1
    simp only [Nat.add_zero] at hst
    have hsv : (storeVar ty ⟨g, off, none⟩ (.agg part.toArray)).run P w = .ok () (w.setRow g (old.toList.take off ++ part ++ old.toList.drop (off + part.length)).toArray) := by
      cases hq : P.info? ty with
      | none => simp [hq] at hi
      | some i =>
        have hs : part.length = i.size := by simp [hq] at hi; omega
        simp [storeVar, sizeOf, typeInfo, hq, Value.cells, hs]
        rw [← hs, ← List.append_assoc]
        exact hst
    unfold Oper.wp execOp
    simp only [ho, hx, hy, Instr.storeAt, Instr.sureAddr, Sem.run_bind, Sem.run_pure, Result.andThen_ok, hsv]
    exact hK _ _ h

/-! A hasher. -/
def hashCells (m : Bool) (f : Words) (v : Value) (n : Int) : List Value := .bool m :: (f.map U32 ++ [v, .int .i64 n])
structure HAt (w : World) (b : Nat) (m : Bool) (f : Words) (v : Value) (n : Int) : Prop where
  row : w.heap[b]? = some (.cells (hashCells m f v n).toArray 106 (0, 0))
  len : f.length = 8
section
variable {w w' : World} {b : Nat} {m : Bool} {f : Words} {v : Value} {n : Int}
theorem HAt.lt (h : HAt w b m f v n) : b < w.heap.size := heap_lt h.row
theorem HAt.made (h : HAt w b m f v n) : w.cell? ⟨b, 0, none⟩ = some (.bool m) := by
  rw [cell_of_row w b 0 _ _ _ h.row]; rfl
theorem HAt.rest (h : HAt w b m f v n) : w.cell? ⟨b, 9, none⟩ = some v := by
  rw [cell_of_row w b 9 _ _ _ h.row]
  have := h.len
  match f, this with
  | [_, _, _, _, _, _, _, _], _ => rfl
theorem HAt.n_ (h : HAt w b m f v n) : w.cell? ⟨b, 10, none⟩ = some (.int .i64 n) := by
  rw [cell_of_row w b 10 _ _ _ h.row]
  have := h.len
  match f, this with
  | [_, _, _, _, _, _, _, _], _ => rfl
theorem HAt.thawed (h : HAt w b m f v n) (o : Nat) : w.frozen? ⟨b, o, none⟩ = false := by simp [World.frozen?, h.row]
theorem HAt.part (h : HAt w b m f v n) (j : Nat) (x : Value) (hx : (f.map U32)[j]? = some x) : (hashCells m f v n).toArray[1 + j]? = some x := by
  have hj : j < f.length := by
    have := (List.getElem?_eq_some_iff.1 hx).1
    simpa using this
  rw [List.getElem?_toArray, hashCells, Nat.add_comm, List.getElem?_cons_succ, List.getElem?_append_left (by simpa using hj)]
  exact hx
theorem HAt.touch {F : Nat → Prop} (h : HAt w b m f v n) (t : Touch F w w') (hn : ¬ F b) : HAt w' b m f v n := ⟨by rw [t.block b h.lt hn]; exact h.row, h.len⟩
theorem HAt.below (h : HAt w b m f v n) (hb : Below w.heap.size w w') : HAt w' b m f v n := h.touch (F := fun _ => False) (.of_below hb) fun e => e
theorem HAt.drewN (h : HAt w b m f v n) (j : Nat) : HAt (w.drewN j) b m f v n := ⟨h.row, h.len⟩
theorem HAt.setRest (h : HAt w b m f v n) (u : Value) : HAt (w.setCell ⟨b, 9, none⟩ u) b m f u n := by
  refine ⟨?_, h.len⟩
  rw [setCell_eq_setRow w b 9 _ _ _ u h.row, setRow_heap w b _ _ _ _ h.row]
  have := h.len
  match f, this with
  | [_, _, _, _, _, _, _, _], _ => rfl
theorem HAt.setN (h : HAt w b m f v n) (k : Int) : HAt (w.setCell ⟨b, 10, none⟩ (.int .i64 k)) b m f v k := by
  refine ⟨?_, h.len⟩
  rw [setCell_eq_setRow w b 10 _ _ _ (.int .i64 k) h.row, setRow_heap w b _ _ _ _ h.row]
  have := h.len
  match f, this with
  | [_, _, _, _, _, _, _, _], _ => rfl
theorem HAt.setState (h : HAt w b m f v n) (g : Words) (hg : g.length = 8) :
    HAt (w.setRow b ((hashCells m f v n).toArray.toList.take 1 ++ g.map U32 ++ (hashCells m f v n).toArray.toList.drop (1 + (g.map U32).length)).toArray) b m g v n := by
  refine ⟨?_, hg⟩
  rw [setRow_heap w b _ _ _ _ h.row]
  have := h.len
  match f, this, g, hg with
  | [_, _, _, _, _, _, _, _], _, [_, _, _, _, _, _, _, _], _ => rfl
end
theorem words_one (f : Words) : ∀ x ∈ f.map U32, x.oneCell' = true := fun x hx => by obtain ⟨y, _, rfl⟩ := List.mem_map.1 hx; rfl
section
variable {ops : Array Oper} {rest : List Oper} {o : Oper} {a : Act} {w : World} {Q : Exit → Act → World → Prop} {b : Nat} {m : Bool} {f : Words} {v : Value} {n : Int}
theorem wpList_load_state (h : HAt w b m f v n) (hgd : o.guard = none) (x : Operand) (ho : o.op = .load 103 x) (hx : a.eval x = .pointer (some ⟨b, 1, none⟩))
    (hK : wpList Tryd.prog ops Q rest (a.put o.dst (.agg (arr f))) w) : wpList Tryd.prog ops Q (o :: rest) a w := by
  have hag : (Tryd.prog.info? 103).map (·.size) = some (f.map U32).length := by rw [List.length_map, h.len]; kernel_rfl
  exact wpList_load_part hgd 103 x ho b 1 hx _ _ _ _ (f.map U32) h.row (fun j v hv => h.part j v hv) Tryd.underlying103 rfl hag hK
theorem wpList_store_state (h : HAt w b m f v n) (g : Words) (hg : g.length = 8) (hgd : o.guard = none) (x y : Operand) (ho : o.op = .store 103 x y) (hx : a.eval x = .pointer (some ⟨b, 1, none⟩)) (hy : a.eval y = .agg (arr g))
    (hK : ∀ w', HAt w' b m g v n → Touch (fun q => q = b) w w' → wpList Tryd.prog ops Q rest (a.put o.dst undef) w') : wpList Tryd.prog ops Q (o :: rest) a w := by
  have hag : (Tryd.prog.info? 103).map (·.size) = some (g.map U32).length := by rw [List.length_map, hg]; kernel_rfl
  have hfit : 1 + (g.map U32).length ≤ (hashCells m f v n).toArray.size := by rw [List.length_map, hg]; simp [hashCells, h.len]
  exact wpList_store_part hgd 103 x y ho b 1 (g.map U32) hx hy _ _ h.row hag hfit (words_one g) (hK _ (h.setState g hg) (Touch.setRow _ _ _ rfl))
end
theorem arr_part (f : Words) : (f.map U32).toArray = arr f := rfl
theorem hok_any {w : World} {b : Nat} {m : Bool} {f : Words} {v : Value} {n : Int} (h : HAt w b m f v n) :
    Calls Tryd.prog 62 #[.pointer (some ⟨b, 0, none⟩)] w fun e w' => e = .returned (.bool m) ∧ w = w' := by
  have c0 := h.made
  go_enter Tryd.func62, Tryd.ntmps62
  go_wp2
  go_ret
  exact ⟨rfl, rfl⟩
theorem hok_none (w : World) : Calls Tryd.prog 62 #[.pointer none] w fun e w' => e = .returned (.bool false) ∧ w = w' := by
  go_enter Tryd.func62, Tryd.ntmps62
  go_wp2
  go_ret
  exact ⟨rfl, rfl⟩
theorem begin_any (w : World) : Calls Tryd.prog 61 #[] w fun e w' => e = .returned (.agg (arr Sha.begin.list)) ∧ Below w.heap.size w w' := by
  obtain ⟨z8, hz8, hz8l⟩ := zero_state
  obtain ⟨L, hL⟩ : ∃ L : Words, L = Sha.begin.list := ⟨_, rfl⟩
  have hLl : L.length = 8 := by rw [hL]; rfl
  have hbu : Program.built Tryd.prog 103 [(0, .int .u32 1779033703), (1, .int .u32 3144134277), (2, .int .u32 1013904242), (3, .int .u32 2773480762), (4, .int .u32 1359893119), (5, .int .u32 2600822924), (6, .int .u32 528734635), (7, .int .u32 1541459225)] = some (arr L) := by rw [hL]; kernel_rfl
  rw [← hL]
  clear hL
  have hiv : (Tryd.prog.info? 103).map (·.size) = some (arr L).size := by rw [arr_size, hLl]; kernel_rfl
  have hsz : (arr z8).size = (arr L).size := by rw [arr_size, arr_size, hLl, hz8l]
  have hov := arr_one L
  go_enter Tryd.func61, Tryd.ntmps61
  go_wp2_with (with_reducible refine stop_build ?roundEnd)
  refine wpList_built rfl 103 _ rfl (arr L) ?hb0 ?nx1
  case hb0 => go_simp
  clear hbu
  have h3 : (w.alloc (.cells (arr z8) 103)).heap[w.heap.size]? = some (.cells (arr z8) 103 (0, 0)) := ArrAt.new w 103 z8
  have h4 : ArrAt ((w.alloc (.cells (arr z8) 103)).setRow w.heap.size (arr L)) w.heap.size 103 L := (ArrAt.new w 103 z8).row L
  have t : Touch (fun q => q = w.heap.size) w ((w.alloc (.cells (arr z8) 103)).setRow w.heap.size (arr L)) := ((Touch.refl _ _).alloc _).trans (Touch.setRow _ _ _ rfl)
  go_wp2_with (refine wpList_store_row rfl 103 _ _ rfl w.heap.size (arr L) rfl rfl _ (arr z8) h3 hiv hsz hov ?_)
  refine bodyPost_ret (results_cell_row rfl _ _ w.heap.size _ (arr L) _ _ rfl h4 Tryd.underlying103 rfl hiv) rfl ?_
  exact ⟨rfl, t.below (fun q e => by omega) (Nat.le_refl _)⟩
structure Hasher (w : World) (B b : Nat) (v : Value) (l : List (BitVec 8)) : Prop where
  at_ : HAt w b true (Sha.held l).list v l.length
  own : Owns w B 5 v (Sha.left l)
  vb : v.ownBlock ≠ some b
  low : B ≤ b
theorem new_any (w : World) : Calls Tryd.prog 32 #[] w fun e w' => ∃ b, e = .returned (.pointer (some ⟨b, 0, none⟩)) ∧ w.heap.size ≤ b ∧ Hasher w' w.heap.size b (.slice none 0 0) [] ∧ Below w.heap.size w w' := by
  have BG := begin_any w
  obtain ⟨L, hL⟩ : ∃ L : Words, L = Sha.begin.list := ⟨_, rfl⟩
  have hbu : Program.built Tryd.prog 106 [(0, .bool true), (1, .agg (arr L))] = some (hashCells true L (.slice none 0 0) 0).toArray := by rw [hL]; kernel_rfl
  rw [← hL] at BG
  obtain ⟨C, hC⟩ : ∃ C, C = (hashCells true L (.slice none 0 0) 0).toArray := ⟨_, rfl⟩
  rw [← hC] at hbu
  have HC := Lib.hid hC
  clear hC
  have hLl : L.length = 8 := by rw [hL]; rfl
  have HL := Lib.hid hL
  clear hL
  go_enter Tryd.func32, Tryd.ntmps32
  go_wp2_with fail
  refine BG.mono ?_
  rintro e w2 ⟨rfl, hb2⟩
  clear BG
  go_wp2_with (with_reducible refine stop_build ?roundEnd)
  refine wpList_built rfl 106 _ rfl C ?hb0 ?nx1
  case hb0 => go_simp
  clear hbu
  go_wp2
  go_ret
  have t : Touch (fun _ => False) w2 (w2.alloc (.cells C 106)) := (Touch.refl _ _).alloc _
  have hb := hb2.size
  have h0 : (Sha.held []).list = Sha.begin.list := rfl
  refine ⟨_, rfl, hb, ⟨⟨?_, by rw [h0, ← HL.out]; exact hLl⟩, owns_nil _ _ _, by simp [Value.ownBlock], hb⟩, hb2.trans (t.below (fun _ e => e.elim) hb)⟩
  rw [h0, ← HL.out, show (([] : List (BitVec 8)).length : Int) = 0 from rfl, ← HC.out]
  exact heap_alloc_new w2 _
/-- A copy of bytes. -/
theorem clone_none (w : World) : Calls Tryd.prog 64 #[.slice none 0 0] w fun e w' => e = .returned (.slice none 0 0) ∧ w = w' := by
  have hn := run_eql_slice_nil (P := Tryd.prog) w 44 5 none 0 0 byteSlice.slice
  go_enter Tryd.func64, Tryd.ntmps64
  go_wp2
  go_ret
  exact ⟨rfl, rfl⟩
theorem clone_some (ad : Addr) (cap : Nat) (l : List (BitVec 8)) (w : World) (hr : Reads w (some ad) cap l) (hl : l.length ≤ 1048576) :
    Calls Tryd.prog 64 #[.slice (some ad) l.length cap] w fun e w' => ∃ v, e = .returned v ∧ Owns w' w.heap.size 5 v l ∧ Below w.heap.size w w' := by
  have hn := run_eql_slice_nil (P := Tryd.prog) w 44 5 (some ad) l.length cap byteSlice.slice
  rw [show (some ad).isNone = false from rfl] at hn
  have ho : Owns (w.alloc (.cells #[] 5)) w.heap.size 5 (.slice (some ⟨w.heap.size, 0, none⟩) 0 0) [] :=
    World.ownsRow_lit w (e := 5) (size := 1) #[] 0 (Nat.le_refl _) (by unfold maxLen; omega) rfl
  have hr2 := hr.keeps (Keeps.alloc w (.cells #[] 5))
  have hsz : w.heap.size ≤ (w.alloc (.cells #[] 5)).heap.size := by simp
  have hlen : ([] : List (BitVec 8)).length + l.length ≤ 140737488355328 := by simp; omega
  have t1 : Touch (fun q => w.heap.size ≤ q) w (w.alloc (.cells #[] 5)) := (Touch.refl _ _).alloc _
  go_enter Tryd.func64, Tryd.ntmps64
  go_wp2_with (at_builtin; refine wpList_append_bytes_at byteSlice rfl _ _ rfl w.heap.size _ [] rfl ho (some ad) cap l rfl hr2 hlen hsz ?_; intro v w5 ho5 hg5 _)
  go_ret
  refine ⟨v, rfl, ho5, ?_⟩
  have t2 : Touch (fun q => w.heap.size ≤ q) (w.alloc (.cells #[] 5)) w5 := .of_grown hg5 fun k hk => by
    injection hk with hk; rw [← hk]; exact Nat.le_refl _
  exact (t1.trans t2).below (fun q e => e) (Nat.le_refl _)
theorem clone_any (a : Option Addr) (cap : Nat) (l : List (BitVec 8)) (w : World) (hr : Reads w a cap l) (hl : l.length ≤ 1048576) :
    Calls Tryd.prog 64 #[.slice a l.length cap] w fun e w' => ∃ v, e = .returned v ∧ Owns w' w.heap.size 5 v l ∧ Below w.heap.size w w' := by
  cases a with
  | some ad => exact clone_some ad cap l w hr hl
  | none =>
    obtain rfl := hr.null rfl
    obtain rfl : l = [] := List.eq_nil_of_length_eq_zero (by have := hr.fits; omega)
    exact (clone_none w).mono fun e w' h => ⟨_, h.1, h.2 ▸ owns_nil _ _ _, h.2 ▸ Below.refl _ _⟩
end Go.Proofs.YtbicafgmfgdckaaDoor
namespace Go.Proofs.YtbicafgmfgdckaaDoor
open Go Go.RowKit

theorem Sha.blocks_succ : ∀ (k : Nat) (s : Sha.St) (l : List (BitVec 8)), Sha.blocks (k + 1) s l = Sha.take (Sha.blocks k s l) ((l.drop (64 * k)).take 64)
  | 0, s, l => rfl
  | k + 1, s, l => by
    rw [Sha.blocks, Sha.blocks_succ k, List.drop_drop, show 64 + 64 * k = 64 * (k + 1) by omega]
    rfl
theorem KTab.touch {F : Nat → Prop} {w w' : World} (h : KTab w) (t : Touch F w w') (hn : ¬ F 0) : KTab w' := fun i hi => t.cell (h i hi) hn
theorem Reads.touch' {F : Nat → Prop} {w w' : World} {a : Option Addr} {cap : Nat} {l : List (BitVec 8)} (h : Reads w a cap l) (t : Touch F w w') (hn : l ≠ [] → ∀ ad, a = some ad → ¬ F ad.block) : Reads w' a cap l := by
  by_cases e : l = []
  · exact ⟨h.fits, h.room, h.null, .inl e⟩
  · exact t.reads h (hn e)
theorem drop_block {g off cap n : Nat} {ad : Addr} (e : dropAddr (some ⟨g, off, none⟩) cap n = some ad) : ad.block = g := by
  unfold dropAddr at e
  split at e
  · injection e with e; rw [← e]
  · rw [Option.map_some, Addr.add_lit] at e; injection e with e; rw [← e]
/-- What the loop over whole blocks holds. -/
def BlockRel (b : Nat) (s0 : Sha.St) (vv : Value) (N : Int) (m : List (BitVec 8)) (w : World) (x : Value) (wr : World) : Prop :=
  ∃ (k : Nat) (a : Option Addr) (cap : Nat), 64 * k ≤ m.length ∧ x = .slice a (m.length - 64 * k) cap ∧ Reads wr a cap (m.drop (64 * k)) ∧ (m ≠ [] → ∀ ad, a = some ad → ad.block ≠ b) ∧
    HAt wr b true (Sha.blocks k s0 m).list vv N ∧ Touch (fun q => q = b) w wr
def Wrote (B b : Nat) (v : Value) (l m : List (BitVec 8)) (w : World) (e : Ending) (w' : World) : Prop :=
  ∃ v', e = .returned (.tuple #[]) ∧ Hasher w' B b v' (l ++ m) ∧ Touch (fun q => q = b ∨ v.ownBlock = some q) w w' ∧ ∀ q, v'.ownBlock = some q → v.ownBlock = some q ∨ w.heap.size ≤ q
set_option maxHeartbeats 1000000 in
theorem hwrite_none {w : World} {B b : Nat} {v : Value} {l : List (BitVec 8)} (h : Hasher w B b v l) (hB : B ≤ w.heap.size) (h0 : 0 < B) (hk : KTab w) (hl : Sha.left l = [])
    (a : Option Addr) (cap : Nat) (m : List (BitVec 8)) (hr : Reads w a cap m) (hlm : l.length + m.length ≤ 1048576) (hoff : m ≠ [] → ∀ ad, a = some ad → ad.block ≠ b) :
    Calls Tryd.prog 33 #[.pointer (some ⟨b, 0, none⟩), .slice a m.length cap] w (Wrote B b v l m w) := by
  have hlow := h.low
  have OK := hok_any h.at_
  have cN := h.at_.n_
  have fN := h.at_.thawed 10
  have h1 := h.at_.setN ((l.length : Int) + m.length)
  have c9 := h1.rest
  have t1 : Touch (fun q => q = b) w (w.setCell ⟨b, 10, none⟩ (.int .i64 ((l.length : Int) + m.length))) := Touch.set w b 10 _ rfl
  have hv : ∃ a' cap', v = .slice a' 0 cap' := by obtain ⟨a', cap', e, _⟩ := h.own.reads; rw [hl] at e; exact ⟨a', cap', e⟩
  obtain ⟨a', cap', rfl⟩ := hv
  have hr1 := hr.touch' t1 hoff
  have HH := Lib.hid h
  have HK := Lib.hid hk
  have HHL := Lib.hid (Sha.held_append l m)
  have HLL := Lib.hid (Sha.left_append l m)
  clear h hk
  generalize Sha.held l = s0 at *
  go_enter Tryd.func33, Tryd.ntmps33
  go_wp2_with fail
  refine OK.mono ?_
  rintro e w' ⟨rfl, rfl⟩
  clear OK
  go_wp2_with fail
  have T1 := Lib.hid t1
  clear cN fN c9 hr t1
  generalize w.setCell ⟨b, 10, none⟩ (.int .i64 ((l.length : Int) + m.length)) = w1 at *
  go_loopw [1] (fun x wr => BlockRel b s0 (.slice a' 0 cap') ((l.length : Int) + m.length) m w1 x wr) (fun x _ => match x with | .slice _ n _ => n | _ => 0)
  case atStart => exact ⟨0, a, cap, by omega, rfl, hr1, hoff, h1, Touch.refl _ _⟩
  case round =>
    clear h1 hr1
    obtain ⟨k, a1, c1, hk64, rfl, hr2, hof, hat, ht⟩ := hrel
    have hpl : (m.drop (64 * k)).length = m.length - 64 * k := List.length_drop
    by_cases hlt : 64 * k + 64 ≤ m.length
    · have hne : m.drop (64 * k) ≠ [] := fun e => by rw [e] at hpl; simp at hpl; omega
      obtain ⟨g, off, rfl, hbm⟩ : ∃ g off, a1 = some ⟨g, off, none⟩ ∧ BytesAt wr g off (m.drop (64 * k)) := hr2.bytes.resolve_left hne
      have hm0 : m ≠ [] := fun e => by rw [e] at hne; simp at hne
      have hgb : g ≠ b := hof hm0 _ rfl
      have hfit := hr2.fits
      have hroom := hr2.room
      have hp64 : ((m.drop (64 * k)).take 64).length = 64 := by rw [List.length_take, hpl]; omega
      have hbs := Sha.blocks_succ k s0 m
      have hr3 := hr2.drop 64 (by rw [hpl]; omega)
      rw [List.drop_drop, show 64 * k + 64 = 64 * (k + 1) by omega] at hr3
      rw [hpl] at hfit
      have hs1 := fun w => run_slice_to (P := Tryd.prog) byteSlice w (some ⟨g, off, none⟩) (m.length - 64 * k) c1 .i64 64 64 rfl (by omega)
      have hs2 := fun w => run_slice_from (P := Tryd.prog) byteSlice w (some ⟨g, off, none⟩) (m.length - 64 * k) c1 .i64 64 64 rfl (by omega)
      have hbt := hbm.take 64
      generalize hp : (m.drop (64 * k)).take 64 = p at *
      generalize hs : Sha.blocks k s0 m = s at *
      have hkr : KTab wr := (HK.out.touch T1.out (show ¬ (0 = b) by omega)).touch ht (show ¬ (0 = b) by omega)
      have TK := fun w' (hx : BytesAt w' g off p) (hy : KTab w') => take_any s g off c1 p w' hp64 (by omega) (by omega) hx hy
      have hat1 : HAt wr.drew b true s.list (.slice a' 0 cap') ((l.length : Int) + m.length) := hat.drewN 1
      have hbt1 : BytesAt wr.drew g off p := hbt
      have hk1 : KTab wr.drew := hkr
      have HP := Lib.hid hp
      have HS := Lib.hid hs
      have HBS := Lib.hid hbs
      have HT := Lib.hid ht
      have HR3 := Lib.hid hr3
      have HOF := Lib.hid hof
      have hq64 : (64 : Int) ≤ ((m.length - 64 * k : Nat) : Int) := by omega
      clear hp hs hbs ht hr2 hr3 hof hat hbm hbt hkr hne hpl
      generalize hqq : m.length - 64 * k = q at *
      have HQ := Lib.hid hqq
      clear hqq
      go_wp2_with fail
      refine wp_region_plan [([0, 1, 2, 3, 5, 6], some 4), ([], some 7), ([8, 9], some 10), ([], none)] (fun _ => True) (by kernel_rfl) (by kernel_rfl) (fun _ _ d _ _ h => by cases d <;> exact h) trivial ?_
      refine plan_some (show wpQuiet _ _ _ _ (_ :: _ :: _ :: _ :: _ :: _ :: []) _ from ?_)
      repeat (go_big_quiet_step (fail))
      refine wpQuiet_nil (show wpList _ _ _ (_ :: []) _ _ from ?_)
      have hid : Touch (fun q => q = b) wr wr.drew := (Touch.refl _ _).drewN 1
      generalize wr.drew = w6 at *
      have HID := Lib.hid hid
      clear hid
      go_wp2_with (refine wpList_load_state hat1 rfl _ rfl rfl ?_)
      refine late_normal (fun _ h => h) trivial ?_
      refine plan_some (show wpQuiet _ _ _ _ [] _ from ?_)
      refine wpQuiet_nil (show wpList _ _ _ (_ :: []) _ _ from ?_)
      go_wp2_with fail
      refine (TK w6 hbt1 hk1).mono ?_
      rintro e w7 ⟨rfl, hb7⟩
      have hat7 := hat1.below hb7
      have hs8 : (Sha.take s p).list.length = 8 := rfl
      generalize Sha.take s p = s' at *
      have HB7 := Lib.hid hb7
      clear TK hbt1 hk1 hat1 hb7
      go_wp2_with fail
      refine late_normal (fun _ h => h) trivial ?_
      refine plan_some (show wpQuiet _ _ _ _ (_ :: _ :: []) _ from ?_)
      repeat (go_big_quiet_step (fail))
      refine wpQuiet_nil (show wpList _ _ _ (_ :: []) _ _ from ?_)
      go_wp2_with (refine wpList_store_state hat7 s'.list hs8 rfl _ _ rfl rfl rfl ?_; intro w8 hat8 t8)
      refine late_normal (fun _ h => h) trivial ?_
      refine plan_none (show wpQuiet _ _ _ _ [] _ from ?_)
      refine wpQuiet_nil ?_
      refine plan_nil ?_
      have HTT := Lib.hid ((HID.out.trans (.of_below HB7.out)).trans t8)
      have HA := Lib.hid hat8
      clear hat7 hat8 t8
      go_wp2
      go_roundw
      case rel =>
        have hq := HQ.out
        refine ⟨k + 1, _, _, by omega, ?_, (HR3.out.touch' HTT.out fun hne ad e => ?_), fun hne ad e => ?_, ?_, HT.out.trans HTT.out⟩
        · rw [show m.length - 64 * (k + 1) = q - 64 by omega]
        · rw [drop_block e]; exact hgb
        · rw [drop_block e]; exact hgb
        · rw [HBS.out]; exact HA.out
      case measure => simp; omega
    · have hkq : m.length / 64 = k := by omega
      have CL := clone_any a1 c1 (m.drop (64 * k)) wr hr2 (by rw [hpl]; omega)
      rw [hpl] at CL
      have hlt2 : ((m.length - 64 * k : Nat) : Int) < 64 := by omega
      generalize hd : m.drop (64 * k) = d at *
      generalize hs : Sha.blocks k s0 m = s at *
      have HD := Lib.hid hd
      have HS := Lib.hid hs
      have HA := Lib.hid hat
      have HT := Lib.hid ht
      have HKQ := Lib.hid hkq
      clear hd hs hat ht hkq hr2 hof hpl hlt
      generalize hqq : m.length - 64 * k = q at *
      clear hqq
      go_wp2_with fail
      refine CL.mono ?_
      rintro e w5 ⟨vv, rfl, ho5, hb5⟩
      have hat5 := HA.out.below hb5
      have f9 := hat5.thawed 9
      have c9 := hat5.rest
      obtain ⟨a5, c5, rfl, _⟩ := ho5.reads
      have HO := Lib.hid ho5
      have HB5 := Lib.hid hb5
      have HA5 := Lib.hid hat5
      have HA6 := Lib.hid (hat5.setRest (.slice a5 d.length c5))
      clear ho5 hb5 hat5 CL
      go_wp2
      refine bodyPost_end (results_none rfl _ _ _) rfl ?_
      have hown : ∀ q, (Value.slice a5 d.length c5).ownBlock = some q → wr.heap.size ≤ q := fun q hq => (row_lt HO.out hq).1
      have hbl := HA.out.lt
      have hs1 := T1.out.size
      have hs2 := HT.out.size
      have t6 : Touch (fun q => q = b) w5 (w5.setCell ⟨b, 9, none⟩ (.slice a5 d.length c5)) := Touch.set w5 b 9 _ rfl
      have hh := HHL.out
      have hl2 := HLL.out
      rw [hl, List.nil_append, List.length_nil, Nat.zero_add, HKQ.out] at hh hl2
      rw [HS.out] at hh
      rw [HD.out] at hl2
      refine ⟨_, rfl, ⟨?_, ?_, ?_, hlow⟩, ?_, fun q hq => .inr (by have := hown q hq; omega)⟩
      · rw [hh, List.length_append, Int.natCast_add]; exact HA6.out
      · rw [hl2]
        exact (t6.owns HO.out fun q hq e => by have := hown q hq; omega).mono (by omega)
      · intro e; have := hown b e; omega
      · have := ((T1.out.trans HT.out).trans (.of_below HB5.out)).trans t6
        exact this.mono fun q e => .inl e
end Go.Proofs.YtbicafgmfgdckaaDoor
namespace Go.Proofs.YtbicafgmfgdckaaDoor
open Go Go.RowKit

set_option maxHeartbeats 1000000 in
theorem hwrite_short {w : World} {B b : Nat} {v : Value} {l : List (BitVec 8)} (h : Hasher w B b v l) (hB : B ≤ w.heap.size) (hl : Sha.left l ≠ [])
    (a : Option Addr) (cap : Nat) (m : List (BitVec 8)) (hr : Reads w a cap m) (hlm : l.length + m.length ≤ 1048576) (hoff : m ≠ [] → ∀ ad, a = some ad → ad.block ≠ b ∧ v.ownBlock ≠ some ad.block) (hs : (Sha.left l).length + m.length < 64) :
    Calls Tryd.prog 33 #[.pointer (some ⟨b, 0, none⟩), .slice a m.length cap] w (Wrote B b v l m w) := by
  have hlow := h.low
  have OK := hok_any h.at_
  have cN := h.at_.n_
  have fN := h.at_.thawed 10
  have h1 := h.at_.setN ((l.length : Int) + m.length)
  have c9 := h1.rest
  have f9 := h1.thawed 9
  have t1 : Touch (fun q => q = b) w (w.setCell ⟨b, 10, none⟩ (.int .i64 ((l.length : Int) + m.length))) := Touch.set w b 10 _ rfl
  have hvb := h.vb
  have hr1 := hr.touch' t1 fun hm ad e => (hoff hm ad e).1
  have ho1 := t1.owns h.own fun q hq e => hvb (by rw [hq, e])
  have hheld := Sha.held_append l m
  have hleft := Sha.left_append l m
  rw [Nat.div_eq_of_lt hs] at hheld hleft
  generalize Sha.left l = r at *
  generalize Sha.held l = s0 at *
  have hvf : ∃ c a', v = .slice a' r.length c := by obtain ⟨a', cap', e, _⟩ := ho1.reads; exact ⟨cap', a', e⟩
  obtain ⟨cap', a', rfl⟩ := hvf
  have HH := Lib.hid h
  have HHL := Lib.hid hheld
  have HLL := Lib.hid hleft
  clear h hheld hleft
  have hr0 : 0 < r.length := List.length_pos_iff.2 hl
  have hr0' : (0 : Int) < r.length := by omega
  have hmin : min (64 - (r.length : Int)) m.length = m.length := by omega
  go_enter Tryd.func33, Tryd.ntmps33
  go_wp2_with fail
  refine OK.mono ?_
  rintro e w' ⟨rfl, rfl⟩
  clear OK
  go_wp2_with fail
  have hs1 := fun w => run_slice_to (P := Tryd.prog) byteSlice w a m.length cap .i64 m.length m.length rfl hr.fits
  have hs2 := fun w => run_slice_from (P := Tryd.prog) byteSlice w a m.length cap .i64 m.length m.length rfl (Nat.le_refl _)
  rw [Nat.sub_self] at hs2
  clear cN fN
  generalize w.setCell ⟨b, 10, none⟩ (.int .i64 ((l.length : Int) + m.length)) = w1 at *
  refine wp_region_plan [([0, 1, 2, 3, 5, 6, 7], some 4), ([], some 8), ([9, 10], some 11), ([], none)] (fun _ => True) (by kernel_rfl) (by kernel_rfl) (fun _ _ d _ _ h => by cases d <;> exact h) trivial ?_
  refine plan_some (show wpQuiet _ _ _ _ (_ :: _ :: _ :: _ :: _ :: _ :: _ :: []) _ from ?_)
  repeat (go_big_quiet_step (fail))
  refine wpQuiet_nil (show wpList _ _ _ (_ :: []) _ _ from ?_)
  have hid : Touch (fun q => q = b) w1 w1.drew := (Touch.refl _ _).drewN 1
  have d1 : HAt w1.drew b true s0.list (.slice a' r.length cap') ((l.length : Int) + m.length) := h1.drewN 1
  have e9 : w1.drew.cell? ⟨b, 9, none⟩ = some (.slice a' r.length cap') := c9
  have ro : Reads w1.drew a cap m := hr1.keeps (Keeps.drewN w1 1)
  have oo : Owns w1.drew B 5 (.slice a' r.length cap') r := ho1
  have hz : B ≤ w1.drew.heap.size := Nat.le_trans hB t1.size
  clear h1 c9 hr1 ho1 f9
  generalize w1.drew = w6 at *
  go_wp2_with fail
  refine late_normal (fun _ h => h) trivial ?_
  refine plan_some (show wpQuiet _ _ _ _ [] _ from ?_)
  refine wpQuiet_nil (show wpList _ _ _ (_ :: []) _ _ from ?_)
  have hlen : r.length + m.length ≤ 140737488355328 := by omega
  go_wp2_with (at_builtin; refine wpList_append_bytes_at byteSlice rfl _ _ rfl B (.slice a' r.length cap') r rfl oo a cap m rfl ro hlen hz ?_; intro v' w7 ho7 hg7 hb7)
  refine late_normal (fun _ h => h) trivial ?_
  refine plan_some (show wpQuiet _ _ _ _ (_ :: _ :: []) _ from ?_)
  repeat (go_big_quiet_step (fail))
  refine wpQuiet_nil (show wpList _ _ _ (_ :: []) _ _ from ?_)
  have t7 : Touch (fun q => (Value.slice a' r.length cap').ownBlock = some q) w6 w7 := .of_grown hg7 fun k hk => hk
  have d7 := d1.touch t7 hvb
  have f9 := d7.thawed 9
  have c9 := d7.rest
  have hx7 : (r ++ m).length < 64 := by rw [List.length_append]; exact hs
  obtain ⟨x, hx⟩ : ∃ x, r ++ m = x := ⟨_, rfl⟩
  rw [hx] at ho7 hx7
  obtain ⟨a7, c7, rfl, _⟩ := ho7.reads
  have hx8 : (x.length : Int) < 64 := by omega
  have d8 := d7.setRest (.slice a7 x.length c7)
  have e9 := d8.rest
  have t8 : Touch (fun q => q = b) w7 (w7.setCell ⟨b, 9, none⟩ (.slice a7 x.length c7)) := Touch.set w7 b 9 _ rfl
  have HX := Lib.hid hx
  have HO := Lib.hid ho7
  have HD := Lib.hid d8
  clear hx ho7 d8 d7 hg7 hx7
  go_wp2_with fail
  refine late_normal (fun _ h => h) trivial ?_
  refine plan_none (show wpQuiet _ _ _ _ [] _ from ?_)
  refine wpQuiet_nil ?_
  refine plan_nil ?_
  generalize w7.setCell ⟨b, 9, none⟩ (.slice a7 x.length c7) = w8 at *
  go_wp2
  refine bodyPost_end (results_none rfl _ _ _) rfl ?_
  have hh := HHL.out
  have hl2 := HLL.out
  rw [show Sha.blocks 0 s0 (r ++ m) = s0 from rfl] at hh
  rw [Nat.mul_zero, List.drop_zero, HX.out] at hl2
  have hvb7 : (Value.slice a7 x.length c7).ownBlock ≠ some b := by
    rcases hb7 with e | e
    · rw [e]; exact hvb
    · rw [e]; intro e2; injection e2 with e2; have := d1.lt; omega
  have hsz1 := t1.size
  have hsz2 := hid.size
  refine ⟨_, rfl, ⟨?_, ?_, hvb7, hlow⟩, ?_, fun q hq => ?_⟩
  · rw [hh, List.length_append, Int.natCast_add]; exact HD.out
  · rw [hl2]
    exact t8.owns HO.out fun q hq e => hvb7 (by rw [hq, e])
  · exact (((t1.mono fun q e => .inl e).trans (hid.mono fun q e => .inl e)).trans (t7.mono fun q e => .inr e)).trans (t8.mono fun q e => .inl e)
  · rcases hb7 with e | e
    · left; rw [← e]; exact hq
    · right; rw [e] at hq; injection hq with hq; omega
end Go.Proofs.YtbicafgmfgdckaaDoor
namespace Go.Proofs.YtbicafgmfgdckaaDoor
open Go Go.RowKit

theorem drop_from {a : Option Addr} {cap n : Nat} {ad : Addr} (e : dropAddr a cap n = some ad) : ∃ ad0, a = some ad0 ∧ ad.block = ad0.block := by
  unfold dropAddr at e
  split at e
  · exact ⟨ad, e, rfl⟩
  · cases a with
    | none => cases e
    | some ad0 =>
      rw [Option.map_some] at e
      injection e with e
      exact ⟨ad0, rfl, by rw [← e]; unfold Addr.add; split <;> rfl⟩
def RestIs (b : Nat) (v : Value) (w : World) : Prop := w.cell? ⟨b, 9, none⟩ = some v
set_option maxHeartbeats 2000000 in
theorem hwrite_full {w : World} {B b : Nat} {v : Value} {l : List (BitVec 8)} (h : Hasher w B b v l) (hB : B ≤ w.heap.size) (hl : Sha.left l ≠ [])
    (a : Option Addr) (cap : Nat) (m : List (BitVec 8)) (hr : Reads w a cap m) (hlm : l.length + m.length ≤ 1048576) (hoff : m ≠ [] → ∀ ad, a = some ad → ad.block ≠ b ∧ v.ownBlock ≠ some ad.block) (h0 : 0 < B) (hk : KTab w) (hs : 64 ≤ (Sha.left l).length + m.length) :
    Calls Tryd.prog 33 #[.pointer (some ⟨b, 0, none⟩), .slice a m.length cap] w (Wrote B b v l m w) := by
  have hlow := h.low
  have OK := hok_any h.at_
  have cN := h.at_.n_
  have fN := h.at_.thawed 10
  have h1 := h.at_.setN ((l.length : Int) + m.length)
  have c9 := h1.rest
  have f9 := h1.thawed 9
  have t1 : Touch (fun q => q = b) w (w.setCell ⟨b, 10, none⟩ (.int .i64 ((l.length : Int) + m.length))) := Touch.set w b 10 _ rfl
  have hvb := h.vb
  have hr1 := hr.touch' t1 fun hm ad e => (hoff hm ad e).1
  have ho1 := t1.owns h.own fun q hq e => hvb (by rw [hq, e])
  have hheld := Sha.held_append l m
  have hleft := Sha.left_append l m
  have hrl : (Sha.left l).length < 64 := by rw [Sha.left_length]; omega
  generalize Sha.left l = r at *
  generalize Sha.held l = s0 at *
  have hvf : ∃ c a', v = .slice a' r.length c := by obtain ⟨a', cap', e, _⟩ := ho1.reads; exact ⟨cap', a', e⟩
  obtain ⟨cap', a', rfl⟩ := hvf
  have HH := Lib.hid h
  have HHL := Lib.hid hheld
  have HLL := Lib.hid hleft
  have HK := Lib.hid hk
  clear h hheld hleft hk
  have hr0 : 0 < r.length := List.length_pos_iff.2 hl
  have hr0' : (0 : Int) < r.length := by omega
  obtain ⟨x1, hx1⟩ : ∃ x, m.take (64 - r.length) = x := ⟨_, rfl⟩
  have hx1l : x1.length = 64 - r.length := by rw [← hx1, List.length_take]; omega
  have hrx := hr.take (64 - r.length)
  rw [hx1] at hrx
  have hn : 64 - (r.length : Int) = x1.length := by omega
  have hle : x1.length ≤ m.length := by omega
  have hmin : min (x1.length : Int) m.length = x1.length := by omega
  have hrd := hr.drop x1.length hle
  have hdl : (m.drop x1.length).length = m.length - x1.length := List.length_drop
  have HX1 := Lib.hid hx1
  have HX1L := Lib.hid hx1l
  clear hx1 hx1l
  go_enter Tryd.func33, Tryd.ntmps33
  go_wp2_with fail
  refine OK.mono ?_
  rintro e w' ⟨rfl, rfl⟩
  clear OK
  go_wp2_with fail
  have hs1 := fun w => run_slice_to (P := Tryd.prog) byteSlice w a m.length cap .i64 x1.length x1.length rfl (Nat.le_trans hle hr.fits)
  have hs2 := fun w => run_slice_from (P := Tryd.prog) byteSlice w a m.length cap .i64 x1.length x1.length rfl hle
  clear cN fN
  generalize w.setCell ⟨b, 10, none⟩ (.int .i64 ((l.length : Int) + m.length)) = w1 at *
  refine wp_region_plan [([0, 1, 2, 3, 5, 6, 7], some 4), ([], some 8), ([9, 10], some 11), ([], none)] (fun _ => True) (by kernel_rfl) (by kernel_rfl) (fun _ _ d _ _ h => by cases d <;> exact h) trivial ?_
  refine plan_some (show wpQuiet _ _ _ _ (_ :: _ :: _ :: _ :: _ :: _ :: _ :: []) _ from ?_)
  repeat (go_big_quiet_step (fail))
  refine wpQuiet_nil (show wpList _ _ _ (_ :: []) _ _ from ?_)
  have hid : Touch (fun q => q = b) w1 w1.drew := (Touch.refl _ _).drewN 1
  have d1 : HAt w1.drew b true s0.list (.slice a' r.length cap') ((l.length : Int) + m.length) := h1.drewN 1
  have e9 : w1.drew.cell? ⟨b, 9, none⟩ = some (.slice a' r.length cap') := c9
  have ro : Reads w1.drew a cap x1 := by have := hr1.take (64 - r.length); rw [HX1.out] at this; exact this.keeps (Keeps.drewN w1 1)
  have oo : Owns w1.drew B 5 (.slice a' r.length cap') r := ho1
  have hz : B ≤ w1.drew.heap.size := Nat.le_trans hB t1.size
  clear h1 c9 hr1 ho1 f9
  generalize w1.drew = w6 at *
  go_wp2_with fail
  refine late_normal (fun _ h => h) trivial ?_
  refine plan_some (show wpQuiet _ _ _ _ [] _ from ?_)
  refine wpQuiet_nil (show wpList _ _ _ (_ :: []) _ _ from ?_)
  have hlen : r.length + x1.length ≤ 140737488355328 := by omega
  go_wp2_with (at_builtin; refine wpList_append_bytes_at byteSlice rfl _ _ rfl B (.slice a' r.length cap') r rfl oo a cap x1 rfl ro hlen hz ?_; intro v' w7 ho7 hg7 hb7)
  refine late_normal (fun _ h => h) trivial ?_
  refine plan_some (show wpQuiet _ _ _ _ (_ :: _ :: []) _ from ?_)
  repeat (go_big_quiet_step (fail))
  refine wpQuiet_nil (show wpList _ _ _ (_ :: []) _ _ from ?_)
  have t7 : Touch (fun q => (Value.slice a' r.length cap').ownBlock = some q) w6 w7 := .of_grown hg7 fun k hk => hk
  have d7 := d1.touch t7 hvb
  have f9 := d7.thawed 9
  have c9 := d7.rest
  have hx7 : (r ++ x1).length = 64 := by rw [List.length_append, HX1L.out]; omega
  obtain ⟨y, hy⟩ : ∃ x, r ++ x1 = x := ⟨_, rfl⟩
  rw [hy] at ho7 hx7
  obtain ⟨g7, c7, hv7, hrow, hg7B, hg7l⟩ := ho7.row (by omega)
  rw [hx7] at hv7 hrow
  subst hv7
  have d8 := d7.setRest (.slice (some ⟨g7, 0, none⟩) 64 c7)
  have e9 := d8.rest
  have t8 : Touch (fun q => q = b) w7 (w7.setCell ⟨b, 9, none⟩ (.slice (some ⟨g7, 0, none⟩) 64 c7)) := Touch.set w7 b 9 _ rfl
  have HY := Lib.hid hy
  have HR := Lib.hid hrow
  clear hy ho7 d7 hg7 hr0'
  go_wp2_with fail
  refine late_normal (fun _ h => h) trivial ?_
  refine plan_none (show wpQuiet _ _ _ _ [] _ from ?_)
  refine wpQuiet_nil ?_
  refine plan_nil ?_
  generalize w7.setCell ⟨b, 9, none⟩ (.slice (some ⟨g7, 0, none⟩) 64 c7) = w8 at *
  go_wp2_with fail
  have hrow8 : RowAt w8 B 5 g7 c7 64 y := by
    have hne7 : g7 ≠ b := by
      intro e
      rcases hb7 with e2 | e2
      · exact hvb (by rw [← e2, e]; rfl)
      · injection e2 with e2
        have e3 : g7 = w6.heap.size := e2
        have := d1.lt; omega
    have := t8.owns HR.out.owns fun q hq e2 => by injection hq with hq; exact hne7 (hq.trans e2)
    exact ⟨by have h3 := hx7; unfold Owns at this; rw [h3] at this; exact this, hx7⟩
  have hkb : KTab w8 := by
    have hvB : ¬ ((Value.slice a' r.length cap').ownBlock = some 0) := fun e => by have := row_lt oo e; omega
    exact (((HK.out.touch t1 (show ¬ (0 = b) by omega)).touch hid (show ¬ (0 = b) by omega)).touch t7 hvB).touch t8 (show ¬ (0 = b) by omega)
  have TK := fun w' (hx : BytesAt w' g7 0 y) (hy : KTab w') => take_any s0 g7 0 c7 y w' hx7 (by have := HR.out.reads.fits; omega) HR.out.reads.room hx hy
  have hby8 : BytesAt w8 g7 0 y := by
    intro q hq
    have := hrow8.cell q (by omega)
    rw [Nat.zero_add]; exact this
  have C9 : ∀ x : Of (RestIs b (.slice (some ⟨g7, 0, none⟩) 64 c7)), x.to.cell? ⟨b, 9, none⟩ = some (.slice (some ⟨g7, 0, none⟩) 64 c7) := fun x => x.ok
  haveI : Nonempty (Of (RestIs b (.slice (some ⟨g7, 0, none⟩) 64 c7))) := of_ne (w := w8) e9
  refine wp_region_plan [([0, 1, 2, 3, 5, 6, 7, 8], some 4), ([], some 9), ([10, 11], some 12), ([], none)] (fun w' => ∃ x : Of (RestIs b (.slice (some ⟨g7, 0, none⟩) 64 c7)), w' = x.to) (by kernel_rfl) (by kernel_rfl) (fun _ _ d _ _ h => by cases d <;> exact h) (of_mk (w := w8.drew) (S := RestIs b (.slice (some ⟨g7, 0, none⟩) 64 c7)) e9) ?_
  refine plan_some (show wpQuiet _ _ _ _ (_ :: _ :: _ :: _ :: _ :: _ :: _ :: _ :: []) _ from ?_)
  repeat (go_big_quiet_step (fail))
  refine wpQuiet_nil (show wpList _ _ _ (_ :: []) _ _ from ?_)
  have hid9 : Touch (fun q => q = b) w8 w8.drew := (Touch.refl _ _).drewN 1
  have d9 : HAt w8.drew b true s0.list (.slice (some ⟨g7, 0, none⟩) 64 c7) ((l.length : Int) + m.length) := d8.drewN 1
  have b9 : BytesAt w8.drew g7 0 y := hby8
  have k9 : KTab w8.drew := hkb
  clear hby8 d8 e9
  generalize w8.drew = w9 at *
  go_wp2_with (refine wpList_load_state d9 rfl _ rfl rfl ?_)
  refine late_normal (fun _ h => h) (of_mk d9.rest) ?_
  refine plan_some (show wpQuiet _ _ _ _ [] _ from ?_)
  refine wpQuiet_nil (show wpList _ _ _ (_ :: []) _ _ from ?_)
  go_wp2_with fail
  refine (TK w9 b9 k9).mono ?_
  rintro e w10 ⟨rfl, hb10⟩
  have d10 := d9.below hb10
  have hs8 : (Sha.take s0 y).list.length = 8 := rfl
  generalize hs1 : Sha.take s0 y = s1 at *
  have HS1 := Lib.hid hs1
  clear hs1 TK b9
  go_wp2_with fail
  refine late_normal (fun _ h => h) (of_mk d10.rest) ?_
  refine plan_some (show wpQuiet _ _ _ _ (_ :: _ :: []) _ from ?_)
  repeat (go_big_quiet_step (fail))
  refine wpQuiet_nil (show wpList _ _ _ (_ :: []) _ _ from ?_)
  go_wp2_with (refine wpList_store_state d10 s1.list hs8 rfl _ _ rfl rfl rfl ?_; intro w11 d11 t11)
  refine late_normal (fun _ h => h) (of_mk d11.rest) ?_
  refine plan_none (show wpQuiet _ _ _ _ [] _ from ?_)
  refine wpQuiet_nil ?_
  refine plan_nil ?_
  have f9 := d11.thawed 9
  have c9 := d11.rest
  have d12 := d11.setRest (.slice none 0 0)
  have t12 : Touch (fun q => q = b) w11 (w11.setCell ⟨b, 9, none⟩ (.slice none 0 0)) := Touch.set w11 b 9 _ rfl
  clear C9 d11 d10
  go_wp2_with fail
  generalize w11.setCell ⟨b, 9, none⟩ (.slice none 0 0) = w12 at *
  have tA : Touch (fun q => q = b ∨ (Value.slice a' r.length cap').ownBlock = some q) w w12 :=
    (((((((t1.mono fun q e => .inl e).trans (hid.mono fun q e => .inl e)).trans (t7.mono fun q e => .inr e)).trans (t8.mono fun q e => .inl e)).trans (hid9.mono fun q e => .inl e)).trans (.of_below hb10)).trans (t11.mono fun q e => .inl e)).trans (t12.mono fun q e => .inl e)
  have hk12 : KTab w12 := HK.out.touch tA (fun e => by
    rcases e with e | e
    · have e2 : 0 = b := e
      omega
    · have := row_lt oo e; omega)
  obtain ⟨m1, hm1⟩ : ∃ q, m.drop x1.length = q := ⟨_, rfl⟩
  rw [hm1] at hrd hdl
  have hmm : m = x1 ++ m1 := by
    have e := List.take_append_drop x1.length m
    rw [hm1, HX1L.out, HX1.out] at e
    exact e.symm
  have hm0 : m1 ≠ [] → m ≠ [] := fun h e => by rw [e] at hm1; simp at hm1; exact h hm1
  have hoff1 : m1 ≠ [] → ∀ ad, dropAddr a cap x1.length = some ad → ad.block ≠ b := fun h ad e => by
    obtain ⟨ad0, e1, e2⟩ := drop_from e
    rw [e2]; exact (hoff (hm0 h) ad0 e1).1
  have hr1 : Reads w12 (dropAddr a cap x1.length) (cap - x1.length) m1 := hrd.touch' tA fun h ad e => by
    obtain ⟨ad0, e1, e2⟩ := drop_from e
    have := hoff (hm0 h) ad0 e1
    rw [e2]
    rintro (e3 | e3)
    · exact this.1 e3
    · exact this.2 e3
  have T1 := Lib.hid tA
  have HK1 := Lib.hid hk12
  have HMM := Lib.hid hmm
  rw [← hdl]
  have HDL := Lib.hid hdl
  clear hdl hrd hs1 hs2 hr hrx hm1 hmm hm0 hoff t1 hid t7 t8 hid9 t11 t12 oo hk12 f9 c9 hb7 hb10 d1 d9 hmin hn hkb k9 hrow hrow8 tA ro
  generalize dropAddr a cap x1.length = a1 at *
  generalize cap - x1.length = cap1 at *
  go_loopw [1] (fun x wr => BlockRel b s1 (.slice none 0 0) ((l.length : Int) + m.length) m1 w12 x wr) (fun x _ => match x with | .slice _ n _ => n | _ => 0)
  case atStart => exact ⟨0, a1, cap1, by omega, rfl, hr1, hoff1, d12, Touch.refl _ _⟩
  case round =>
    clear d12 hr1
    obtain ⟨k, a2, c1, hk64, rfl, hr2, hof, hat, ht⟩ := hrel
    have hpl : (m1.drop (64 * k)).length = m1.length - 64 * k := List.length_drop
    by_cases hlt : 64 * k + 64 ≤ m1.length
    · have hne : m1.drop (64 * k) ≠ [] := fun e => by rw [e] at hpl; simp at hpl; omega
      obtain ⟨g, off, rfl, hbm⟩ : ∃ g off, a2 = some ⟨g, off, none⟩ ∧ BytesAt wr g off (m1.drop (64 * k)) := hr2.bytes.resolve_left hne
      have hm0 : m1 ≠ [] := fun e => by rw [e] at hne; simp at hne
      have hgb : g ≠ b := hof hm0 _ rfl
      have hfit := hr2.fits
      have hroom := hr2.room
      have hp64 : ((m1.drop (64 * k)).take 64).length = 64 := by rw [List.length_take, hpl]; omega
      have hbs := Sha.blocks_succ k s1 m1
      have hr3 := hr2.drop 64 (by rw [hpl]; omega)
      rw [List.drop_drop, show 64 * k + 64 = 64 * (k + 1) by omega] at hr3
      rw [hpl] at hfit
      have hsl1 := fun w => run_slice_to (P := Tryd.prog) byteSlice w (some ⟨g, off, none⟩) (m1.length - 64 * k) c1 .i64 64 64 rfl (by omega)
      have hsl2 := fun w => run_slice_from (P := Tryd.prog) byteSlice w (some ⟨g, off, none⟩) (m1.length - 64 * k) c1 .i64 64 64 rfl (by omega)
      have hbt := hbm.take 64
      generalize hp : (m1.drop (64 * k)).take 64 = p at *
      generalize hs : Sha.blocks k s1 m1 = s at *
      have hkr : KTab wr := HK1.out.touch ht (show ¬ (0 = b) by omega)
      have TK := fun w' (hx : BytesAt w' g off p) (hy : KTab w') => take_any s g off c1 p w' hp64 (by omega) (by omega) hx hy
      have hat1 : HAt wr.drew b true s.list (.slice none 0 0) ((l.length : Int) + m.length) := hat.drewN 1
      have hbt1 : BytesAt wr.drew g off p := hbt
      have hk1 : KTab wr.drew := hkr
      have HP := Lib.hid hp
      have HS := Lib.hid hs
      have HBS := Lib.hid hbs
      have HT := Lib.hid ht
      have HR3 := Lib.hid hr3
      have HOF := Lib.hid hof
      have hq64 : (64 : Int) ≤ ((m1.length - 64 * k : Nat) : Int) := by omega
      clear hp hs hbs ht hr2 hr3 hof hat hbm hbt hkr hne hpl
      generalize hqq : m1.length - 64 * k = q at *
      have HQ := Lib.hid hqq
      clear hqq
      go_wp2_with fail
      refine wp_region_plan [([0, 1, 2, 3, 5, 6], some 4), ([], some 7), ([8, 9], some 10), ([], none)] (fun _ => True) (by kernel_rfl) (by kernel_rfl) (fun _ _ d _ _ h => by cases d <;> exact h) trivial ?_
      refine plan_some (show wpQuiet _ _ _ _ (_ :: _ :: _ :: _ :: _ :: _ :: []) _ from ?_)
      repeat (go_big_quiet_step (fail))
      refine wpQuiet_nil (show wpList _ _ _ (_ :: []) _ _ from ?_)
      have hid : Touch (fun q => q = b) wr wr.drew := (Touch.refl _ _).drewN 1
      generalize wr.drew = w6 at *
      have HID := Lib.hid hid
      clear hid
      go_wp2_with (refine wpList_load_state hat1 rfl _ rfl rfl ?_)
      refine late_normal (fun _ h => h) trivial ?_
      refine plan_some (show wpQuiet _ _ _ _ [] _ from ?_)
      refine wpQuiet_nil (show wpList _ _ _ (_ :: []) _ _ from ?_)
      go_wp2_with fail
      refine (TK w6 hbt1 hk1).mono ?_
      rintro e w7 ⟨rfl, hb7⟩
      have hat7 := hat1.below hb7
      have hs8 : (Sha.take s p).list.length = 8 := rfl
      generalize Sha.take s p = s' at *
      have HB7 := Lib.hid hb7
      clear TK hbt1 hk1 hat1 hb7
      go_wp2_with fail
      refine late_normal (fun _ h => h) trivial ?_
      refine plan_some (show wpQuiet _ _ _ _ (_ :: _ :: []) _ from ?_)
      repeat (go_big_quiet_step (fail))
      refine wpQuiet_nil (show wpList _ _ _ (_ :: []) _ _ from ?_)
      go_wp2_with (refine wpList_store_state hat7 s'.list hs8 rfl _ _ rfl rfl rfl ?_; intro w8 hat8 t8)
      refine late_normal (fun _ h => h) trivial ?_
      refine plan_none (show wpQuiet _ _ _ _ [] _ from ?_)
      refine wpQuiet_nil ?_
      refine plan_nil ?_
      have HTT := Lib.hid ((HID.out.trans (.of_below HB7.out)).trans t8)
      have HA := Lib.hid hat8
      clear hat7 hat8 t8
      go_wp2
      go_roundw
      case rel =>
        have hq := HQ.out
        refine ⟨k + 1, _, _, by omega, ?_, (HR3.out.touch' HTT.out fun hne ad e => ?_), fun hne ad e => ?_, ?_, HT.out.trans HTT.out⟩
        · rw [show m1.length - 64 * (k + 1) = q - 64 by omega]
        · rw [drop_block e]; exact hgb
        · rw [drop_block e]; exact hgb
        · rw [HBS.out]; exact HA.out
      case measure => simp; omega
    · have hkq : m1.length / 64 = k := by omega
      have CL := clone_any a2 c1 (m1.drop (64 * k)) wr hr2 (by rw [hpl]; omega)
      rw [hpl] at CL
      have hlt2 : ((m1.length - 64 * k : Nat) : Int) < 64 := by omega
      generalize hd : m1.drop (64 * k) = d at *
      generalize hs : Sha.blocks k s1 m1 = s at *
      have HD := Lib.hid hd
      have HS := Lib.hid hs
      have HA := Lib.hid hat
      have HT := Lib.hid ht
      have HKQ := Lib.hid hkq
      clear hd hs hat ht hkq hr2 hof hpl hlt
      generalize hqq : m1.length - 64 * k = q at *
      clear hqq
      go_wp2_with fail
      refine CL.mono ?_
      rintro e w5 ⟨vv, rfl, ho5, hb5⟩
      have hat5 := HA.out.below hb5
      have f9 := hat5.thawed 9
      have c9 := hat5.rest
      obtain ⟨a5, c5, rfl, _⟩ := ho5.reads
      have HO := Lib.hid ho5
      have HB5 := Lib.hid hb5
      have HA5 := Lib.hid hat5
      have HA6 := Lib.hid (hat5.setRest (.slice a5 d.length c5))
      clear ho5 hb5 hat5 CL
      go_wp2
      refine bodyPost_end (results_none rfl _ _ _) rfl ?_
      have hown : ∀ q, (Value.slice a5 d.length c5).ownBlock = some q → wr.heap.size ≤ q := fun q hq => (row_lt HO.out hq).1
      have hbl := HA.out.lt
      have hsz1 := T1.out.size
      have hsz2 := HT.out.size
      have t6 : Touch (fun q => q = b) w5 (w5.setCell ⟨b, 9, none⟩ (.slice a5 d.length c5)) := Touch.set w5 b 9 _ rfl
      have hh := HHL.out
      have hl2 := HLL.out
      have hyl : y.length = 64 := hx7
      have hlen : (r.length + m.length) / 64 = 1 + k := by
        have e1 : y.length = r.length + x1.length := by rw [← HY.out, List.length_append]
        have e2 : m.length = x1.length + m1.length := by rw [HMM.out, List.length_append]
        have e3 := HKQ.out
        omega
      have hrm : r ++ m = y ++ m1 := by rw [HMM.out, ← List.append_assoc, HY.out]
      rw [hlen, hrm] at hh hl2
      rw [Sha.blocks_append 1 k s0 y m1 (by omega), show Sha.blocks 1 s0 y = Sha.take s0 (y.take 64) from rfl, List.take_of_length_le (by omega), HS1.out, HS.out] at hh
      rw [List.drop_append, List.drop_eq_nil_of_le (by omega), List.nil_append, show 64 * (1 + k) - y.length = 64 * k by omega, HD.out] at hl2
      refine ⟨_, rfl, ⟨?_, ?_, ?_, hlow⟩, ?_, fun q hq => .inr (by have := hown q hq; omega)⟩
      · rw [hh, List.length_append, Int.natCast_add]; exact HA6.out
      · rw [hl2]
        exact (t6.owns HO.out fun q hq e => by have := hown q hq; omega).mono (by omega)
      · intro e; have := hown b e; omega
      · exact ((T1.out.trans (HT.out.mono fun q e => .inl e)).trans (.of_below HB5.out)).trans (t6.mono fun q e => .inl e)
end Go.Proofs.YtbicafgmfgdckaaDoor
