/- A hasher in memory; New, ok, Len, Clone. The hasher's Write. The hasher's Write: where something was left. -/
import Derived.Test.YtbicafgmfgdckaaGreatDoorMgAd
import Derived.Test.YtbicafgmfgdckaaGreatDoorMgAc
import Derived.Laws.CopyRow
import Derived.Lib.LazyBuf
namespace Go.Proofs.YtbicafgmfgdckaaGreatDoor
open Go Go.RowKit

theorem run_loadVar_part {P : Program} (w : World) (g o : Nat) (t ty : TypeId) (cs : Array Value) (fr : Nat × Nat) (d : TypeDesc) (part : List Value) (hg : w.heap[g]? = some (.cells cs t fr)) (hp : ∀ j v, part[j]? = some v -> cs[o + j]? = some v)
  (hu : P.underlying ty = some d) (hd : (match d with | .struct _ | .array _ _ => true | _ => false) = true) (hi : (P.info? ty).map (·.size) = some part.length) :
  (loadVar ty ⟨g, o, none⟩).run P w = .ok (.agg part.toArray) w := by
 have hl : (loadCells ⟨g, o, none⟩ part.length).run P w = .ok part.toArray w :=
  run_loadCells_list (P := P) w ⟨g, o, none⟩ part (fun j v hv => by
   rw [Addr.add_lit, cell_of_row w g (o + j) cs t fr hg]
   exact hp j v hv)
 cases hq : P.info? ty with
 | none => simp [hq] at hi
 | some i =>
  have hs : i.size = part.length := by simpa [hq] using hi
  have hagg : (isAgg ty).run P w = .ok true w := by
   unfold isAgg
   rw [Sem.run_bind, run_underlying hu w]
   cases d <;> simp_all
  simp [loadVar, Sem.run_bind, hagg, sizeOf, typeInfo, hq, hs, hl]
theorem wpList_load_part {P : Program} {ops : Array Oper} {rest : List Oper} {o : Oper} {a : Act} {w : World} {Q : Exit -> Act -> World -> Prop} (hgd : o.guard = none) (ty : TypeId) (x : Operand) (ho : o.op = .load ty x)
  (g off : Nat) (hx : a.eval x = .pointer (some ⟨g, off, none⟩)) (t : TypeId) (cs : Array Value) (fr : Nat × Nat) (d : TypeDesc) (part : List Value) (hg : w.heap[g]? = some (.cells cs t fr)) (hp : ∀ j v, part[j]? = some v -> cs[off + j]? = some v)
  (hu : P.underlying ty = some d) (hd : (match d with | .struct _ | .array _ _ => true | _ => false) = true) (hi : (P.info? ty).map (·.size) = some part.length)
  (h : wpList P ops Q rest (a.put o.dst (.agg part.toArray)) w) : wpList P ops Q (o :: rest) a w :=
 wpList_plain hgd fun _ hK => by
  unfold Oper.wp execOp
  simp only [ho, hx, Instr.loadAt, Instr.sureAddr, Sem.run_bind, Sem.run_pure, Result.andThen_ok, run_loadVar_part w g off t ty cs fr d part hg hp hu hd hi]
  exact hK _ _ h
theorem wpList_store_part {P : Program} {ops : Array Oper} {rest : List Oper} {o : Oper} {a : Act} {w : World} {Q : Exit -> Act -> World -> Prop} (hgd : o.guard = none) (ty : TypeId) (x y : Operand) (ho : o.op = .store ty x y)
  (g off : Nat) (part : List Value) (hx : a.eval x = .pointer (some ⟨g, off, none⟩)) (hy : a.eval y = .agg part.toArray)
  (t : TypeId) (old : Array Value) (hg : w.heap[g]? = some (.cells old t (0, 0))) (hi : (P.info? ty).map (·.size) = some part.length)
  (hfit : off + part.length <= old.size) (h1 : ∀ v ∈ part, v.oneCell' = true)
  (h : wpList P ops Q rest (a.put o.dst undef) (w.setRow g (old.toList.take off ++ part ++ old.toList.drop (off + part.length)).toArray)) : wpList P ops Q (o :: rest) a w :=
 wpList_plain hgd fun _ hK => by
  have hst := run_storeCells_at P g off t part 0 old w hg (by omega) h1
  simp only [Nat.add_zero] at hst
  have hsv : (storeVar ty ⟨g, off, none⟩ (.agg part.toArray)).run P w = .ok () (w.setRow g (old.toList.take off ++ part ++ old.toList.drop (off + part.length)).toArray) := by
   cases hq : P.info? ty with
   | none => simp [hq] at hi
   | some i =>
    have hs : part.length = i.size := by simp [hq] at hi; omega
    simp [storeVar, sizeOf, typeInfo, hq, Value.cells, hs]
    rw [<- hs, <- List.append_assoc]
    exact hst
  unfold Oper.wp execOp
  simp only [ho, hx, hy, Instr.storeAt, Instr.sureAddr, Sem.run_bind, Sem.run_pure, Result.andThen_ok, hsv]
  exact hK _ _ h

def hashCells (m : Bool) (f : Words) (v : Value) (n : Int) : List Value := .bool m :: (f.map U32 ++ [v, .int .i64 n])
structure HAt (w : World) (b : Nat) (m : Bool) (f : Words) (v : Value) (n : Int) : Prop where
 row : w.heap[b]? = some (.cells (hashCells m f v n).toArray 135 (0, 0))
 len : f.length = 8
section
variable {w w' : World} {b : Nat} {m : Bool} {f : Words} {v : Value} {n : Int}
theorem HAt.lt (h : HAt w b m f v n) : b < w.heap.size := heap_lt h.row
theorem HAt.made (h : HAt w b m f v n) : w.cell? ⟨b, 0, none⟩ = some (.bool m) := by
 rw [cell_of_row w b 0 _ _ _ h.row]; rfl
theorem HAt.rest (h : HAt w b m f v n) : w.cell? ⟨b, 9, none⟩ = some v := by
 rw [cell_of_row w b 9 _ _ _ h.row]
 have := h.len
 match f, this with
 | [_, _, _, _, _, _, _, _], _ => rfl
theorem HAt.n_ (h : HAt w b m f v n) : w.cell? ⟨b, 10, none⟩ = some (.int .i64 n) := by
 rw [cell_of_row w b 10 _ _ _ h.row]
 have := h.len
 match f, this with
 | [_, _, _, _, _, _, _, _], _ => rfl
theorem HAt.thawed (h : HAt w b m f v n) (o : Nat) : w.frozen? ⟨b, o, none⟩ = false := by simp [World.frozen?, h.row]
theorem HAt.part (h : HAt w b m f v n) (j : Nat) (x : Value) (hx : (f.map U32)[j]? = some x) : (hashCells m f v n).toArray[1 + j]? = some x := by
 have hj : j < f.length := by
  have := (List.getElem?_eq_some_iff.1 hx).1
  simpa using this
 rw [List.getElem?_toArray, hashCells, Nat.add_comm, List.getElem?_cons_succ, List.getElem?_append_left (by simpa using hj)]
 exact hx
theorem HAt.touch {F : Nat -> Prop} (h : HAt w b m f v n) (t : Touch F w w') (hn : ¬ F b) : HAt w' b m f v n := ⟨by rw [t.block b h.lt hn]; exact h.row, h.len⟩
theorem HAt.below (h : HAt w b m f v n) (hb : Below w.heap.size w w') : HAt w' b m f v n := h.touch (F := fun _ => False) (.of_below hb) fun e => e
theorem HAt.drewN (h : HAt w b m f v n) (j : Nat) : HAt (w.drewN j) b m f v n := ⟨h.row, h.len⟩
theorem HAt.setRest (h : HAt w b m f v n) (u : Value) : HAt (w.setCell ⟨b, 9, none⟩ u) b m f u n := by
 refine ⟨?_, h.len⟩
 rw [setCell_eq_setRow w b 9 _ _ _ u h.row, setRow_heap w b _ _ _ _ h.row]
 have := h.len
 match f, this with
 | [_, _, _, _, _, _, _, _], _ => rfl
theorem HAt.setN (h : HAt w b m f v n) (k : Int) : HAt (w.setCell ⟨b, 10, none⟩ (.int .i64 k)) b m f v k := by
 refine ⟨?_, h.len⟩
 rw [setCell_eq_setRow w b 10 _ _ _ (.int .i64 k) h.row, setRow_heap w b _ _ _ _ h.row]
 have := h.len
 match f, this with
 | [_, _, _, _, _, _, _, _], _ => rfl
theorem HAt.setState (h : HAt w b m f v n) (g : Words) (hg : g.length = 8) :
  HAt (w.setRow b ((hashCells m f v n).toArray.toList.take 1 ++ g.map U32 ++ (hashCells m f v n).toArray.toList.drop (1 + (g.map U32).length)).toArray) b m g v n := by
 refine ⟨?_, hg⟩
 rw [setRow_heap w b _ _ _ _ h.row]
 have := h.len
 match f, this, g, hg with
 | [_, _, _, _, _, _, _, _], _, [_, _, _, _, _, _, _, _], _ => rfl
end
theorem words_one (f : Words) : ∀ x ∈ f.map U32, x.oneCell' = true := fun x hx => by obtain ⟨y, _, rfl⟩ := List.mem_map.1 hx; rfl
section
variable {ops : Array Oper} {rest : List Oper} {o : Oper} {a : Act} {w : World} {Q : Exit -> Act -> World -> Prop} {b : Nat} {m : Bool} {f : Words} {v : Value} {n : Int}
theorem wpList_load_state (h : HAt w b m f v n) (hgd : o.guard = none) (x : Operand) (ho : o.op = .load 132 x) (hx : a.eval x = .pointer (some ⟨b, 1, none⟩))
  (hK : wpList Tryz.prog ops Q rest (a.put o.dst (.agg (arr f))) w) : wpList Tryz.prog ops Q (o :: rest) a w := by
 have hag : (Tryz.prog.info? 132).map (·.size) = some (f.map U32).length := by rw [List.length_map, h.len]; kernel_rfl
 exact wpList_load_part hgd 132 x ho b 1 hx _ _ _ _ (f.map U32) h.row (fun j v hv => h.part j v hv) Tryz.underlying132 rfl hag hK
theorem wpList_store_state (h : HAt w b m f v n) (g : Words) (hg : g.length = 8) (hgd : o.guard = none) (x y : Operand) (ho : o.op = .store 132 x y) (hx : a.eval x = .pointer (some ⟨b, 1, none⟩)) (hy : a.eval y = .agg (arr g))
  (hK : ∀ w', HAt w' b m g v n -> Touch (fun q => q = b) w w' -> wpList Tryz.prog ops Q rest (a.put o.dst undef) w') : wpList Tryz.prog ops Q (o :: rest) a w := by
 have hag : (Tryz.prog.info? 132).map (·.size) = some (g.map U32).length := by rw [List.length_map, hg]; kernel_rfl
 have hfit : 1 + (g.map U32).length <= (hashCells m f v n).toArray.size := by rw [List.length_map, hg]; simp [hashCells, h.len]
 exact wpList_store_part hgd 132 x y ho b 1 (g.map U32) hx hy _ _ h.row hag hfit (words_one g) (hK _ (h.setState g hg) (Touch.setRow _ _ _ rfl))
end
theorem hok_any {w : World} {b : Nat} {m : Bool} {f : Words} {v : Value} {n : Int} (h : HAt w b m f v n) :
  Calls Tryz.prog 78 #[.pointer (some ⟨b, 0, none⟩)] w fun e w' => e = .returned (.bool m) /\ w = w' := by
 have c0 := h.made
 go_enter Tryz.func78, Tryz.ntmps78
 go_wp2
 go_ret
 exact ⟨rfl, rfl⟩
theorem begin_any (w : World) : Calls Tryz.prog 77 #[] w fun e w' => e = .returned (.agg (arr Sha.begin.list)) /\ Below w.heap.size w w' := by
 obtain ⟨z8, hz8, hz8l⟩ := zero_state
 obtain ⟨L, hL⟩ : ∃ L : Words, L = Sha.begin.list := ⟨_, rfl⟩
 have hLl : L.length = 8 := by rw [hL]; rfl
 have hbu : Program.built Tryz.prog 132 [(0, .int .u32 1779033703), (1, .int .u32 3144134277), (2, .int .u32 1013904242), (3, .int .u32 2773480762), (4, .int .u32 1359893119), (5, .int .u32 2600822924), (6, .int .u32 528734635), (7, .int .u32 1541459225)] = some (arr L) := by rw [hL]; kernel_rfl
 rw [<- hL]
 clear hL
 have hiv : (Tryz.prog.info? 132).map (·.size) = some (arr L).size := by rw [arr_size, hLl]; kernel_rfl
 have hsz : (arr z8).size = (arr L).size := by rw [arr_size, arr_size, hLl, hz8l]
 have hov := arr_one L
 go_enter Tryz.func77, Tryz.ntmps77
 go_wp2_with (with_reducible refine stop_build ?roundEnd)
 refine wpList_built rfl 132 _ rfl (arr L) ?hb0 ?nx1
 case hb0 => go_simp
 clear hbu
 have h3 : (w.alloc (.cells (arr z8) 132)).heap[w.heap.size]? = some (.cells (arr z8) 132 (0, 0)) := ArrAt.new w 132 z8
 have h4 : ArrAt ((w.alloc (.cells (arr z8) 132)).setRow w.heap.size (arr L)) w.heap.size 132 L := (ArrAt.new w 132 z8).row L
 have t : Touch (fun q => q = w.heap.size) w ((w.alloc (.cells (arr z8) 132)).setRow w.heap.size (arr L)) := ((Touch.refl _ _).alloc _).trans (Touch.setRow _ _ _ rfl)
 go_wp2_with (refine wpList_store_row rfl 132 _ _ rfl w.heap.size (arr L) rfl rfl _ (arr z8) h3 hiv hsz hov ?_)
 refine bodyPost_ret (results_cell_row rfl _ _ w.heap.size _ (arr L) _ _ rfl h4 Tryz.underlying132 rfl hiv) rfl ?_
 exact ⟨rfl, t.below (fun q e => by omega) (Nat.le_refl _)⟩
structure Hasher (w : World) (B b : Nat) (v : Value) (l : List (BitVec 8)) : Prop where
 at_ : HAt w b true (Sha.held l).list v l.length
 own : Owns w B 5 v (Sha.left l)
 vb : v.ownBlock ≠ some b
 low : B <= b
theorem new_any (w : World) : Calls Tryz.prog 42 #[] w fun e w' => ∃ b, e = .returned (.pointer (some ⟨b, 0, none⟩)) /\ w.heap.size <= b /\ Hasher w' w.heap.size b (.slice none 0 0) [] /\ Below w.heap.size w w' := by
 have BG := begin_any w
 obtain ⟨L, hL⟩ : ∃ L : Words, L = Sha.begin.list := ⟨_, rfl⟩
 have hbu : Program.built Tryz.prog 135 [(0, .bool true), (1, .agg (arr L))] = some (hashCells true L (.slice none 0 0) 0).toArray := by rw [hL]; kernel_rfl
 rw [<- hL] at BG
 obtain ⟨C, hC⟩ : ∃ C, C = (hashCells true L (.slice none 0 0) 0).toArray := ⟨_, rfl⟩
 rw [<- hC] at hbu
 have HC := Lib.hid hC
 clear hC
 have hLl : L.length = 8 := by rw [hL]; rfl
 have HL := Lib.hid hL
 clear hL
 go_enter Tryz.func42, Tryz.ntmps42
 go_wp2_with fail
 refine BG.mono ?_
 rintro e w2 ⟨rfl, hb2⟩
 clear BG
 go_wp2_with (with_reducible refine stop_build ?roundEnd)
 refine wpList_built rfl 135 _ rfl C ?hb0 ?nx1
 case hb0 => go_simp
 clear hbu
 go_wp2
 go_ret
 have t : Touch (fun _ => False) w2 (w2.alloc (.cells C 135)) := (Touch.refl _ _).alloc _
 have hb := hb2.size
 have h0 : (Sha.held []).list = Sha.begin.list := rfl
 refine ⟨_, rfl, hb, ⟨⟨?_, by rw [h0, <- HL.out]; exact hLl⟩, owns_nil _ _ _, by simp [Value.ownBlock], hb⟩, hb2.trans (t.below (fun _ e => e.elim) hb)⟩
 rw [h0, <- HL.out, show (([] : List (BitVec 8)).length : Int) = 0 from rfl, <- HC.out]
 exact heap_alloc_new w2 _
theorem clone_none (w : World) : Calls Tryz.prog 80 #[.slice none 0 0] w fun e w' => e = .returned (.slice none 0 0) /\ w = w' := by
 have hn := run_eql_slice_nil (P := Tryz.prog) w 37 5 none 0 0 byteSlice.slice
 go_enter Tryz.func80, Tryz.ntmps80
 go_wp2
 go_ret
 exact ⟨rfl, rfl⟩
theorem clone_some (ad : Addr) (cap : Nat) (l : List (BitVec 8)) (w : World) (hr : Reads w (some ad) cap l) (hl : l.length <= 1048576) :
  Calls Tryz.prog 80 #[.slice (some ad) l.length cap] w fun e w' => ∃ v, e = .returned v /\ Owns w' w.heap.size 5 v l /\ Below w.heap.size w w' := by
 have hn := run_eql_slice_nil (P := Tryz.prog) w 37 5 (some ad) l.length cap byteSlice.slice
 rw [show (some ad).isNone = false from rfl] at hn
 have ho : Owns (w.alloc (.cells #[] 5)) w.heap.size 5 (.slice (some ⟨w.heap.size, 0, none⟩) 0 0) [] :=
  World.ownsRow_lit w (e := 5) (size := 1) #[] 0 (Nat.le_refl _) (by unfold maxLen; omega) rfl
 have hr2 := hr.keeps (Keeps.alloc w (.cells #[] 5))
 have hsz : w.heap.size <= (w.alloc (.cells #[] 5)).heap.size := by simp
 have hlen : ([] : List (BitVec 8)).length + l.length <= 140737488355328 := by simp; omega
 have t1 : Touch (fun q => w.heap.size <= q) w (w.alloc (.cells #[] 5)) := (Touch.refl _ _).alloc _
 go_enter Tryz.func80, Tryz.ntmps80
 go_wp2_with (at_builtin; refine wpList_append_bytes_at byteSlice rfl _ _ rfl w.heap.size _ [] rfl ho (some ad) cap l rfl hr2 hlen hsz ?_; intro v w5 ho5 hg5 _)
 go_ret
 refine ⟨v, rfl, ho5, ?_⟩
 have t2 : Touch (fun q => w.heap.size <= q) (w.alloc (.cells #[] 5)) w5 := .of_grown hg5 fun k hk => by
  injection hk with hk; rw [<- hk]; exact Nat.le_refl _
 exact (t1.trans t2).below (fun q e => e) (Nat.le_refl _)
theorem clone_any (a : Option Addr) (cap : Nat) (l : List (BitVec 8)) (w : World) (hr : Reads w a cap l) (hl : l.length <= 1048576) :
  Calls Tryz.prog 80 #[.slice a l.length cap] w fun e w' => ∃ v, e = .returned v /\ Owns w' w.heap.size 5 v l /\ Below w.heap.size w w' := by
 cases a with
 | some ad => exact clone_some ad cap l w hr hl
 | none =>
  obtain rfl := hr.null rfl
  obtain rfl : l = [] := List.eq_nil_of_length_eq_zero (by have := hr.fits; omega)
  exact (clone_none w).mono fun e w' h => ⟨_, h.1, h.2 ▸ owns_nil _ _ _, h.2 ▸ Below.refl _ _⟩
end Go.Proofs.YtbicafgmfgdckaaGreatDoor
namespace Go.Proofs.YtbicafgmfgdckaaGreatDoor
open Go Go.RowKit

theorem Sha.blocks_succ : ∀ (k : Nat) (s : Sha.St) (l : List (BitVec 8)), Sha.blocks (k + 1) s l = Sha.take (Sha.blocks k s l) ((l.drop (64 * k)).take 64)
 | 0, s, l => rfl
 | k + 1, s, l => by
  rw [Sha.blocks, Sha.blocks_succ k, List.drop_drop, show 64 + 64 * k = 64 * (k + 1) by omega]
  rfl
theorem KTab.touch {F : Nat -> Prop} {w w' : World} (h : KTab w) (t : Touch F w w') (hn : ¬ F 0) : KTab w' := fun i hi => t.cell (h i hi) hn
theorem Reads.touch' {F : Nat -> Prop} {w w' : World} {a : Option Addr} {cap : Nat} {l : List (BitVec 8)} (h : Reads w a cap l) (t : Touch F w w') (hn : l ≠ [] -> ∀ ad, a = some ad -> ¬ F ad.block) : Reads w' a cap l := by
 by_cases e : l = []
 ·exact ⟨h.fits, h.room, h.null, .inl e⟩
 ·exact t.reads h (hn e)
theorem drop_block {g off cap n : Nat} {ad : Addr} (e : dropAddr (some ⟨g, off, none⟩) cap n = some ad) : ad.block = g := by
 unfold dropAddr at e
 split at e
 ·injection e with e; rw [<- e]
 ·rw [Option.map_some, Addr.add_lit] at e; injection e with e; rw [<- e]
def BlockRel (b : Nat) (s0 : Sha.St) (vv : Value) (N : Int) (m : List (BitVec 8)) (w : World) (x : Value) (wr : World) : Prop :=
 ∃ (k : Nat) (a : Option Addr) (cap : Nat), 64 * k <= m.length /\ x = .slice a (m.length - 64 * k) cap /\ Reads wr a cap (m.drop (64 * k)) /\ (m ≠ [] -> ∀ ad, a = some ad -> ad.block ≠ b) /\
  HAt wr b true (Sha.blocks k s0 m).list vv N /\ Touch (fun q => q = b) w wr
def Wrote (B b : Nat) (v : Value) (l m : List (BitVec 8)) (w : World) (e : Ending) (w' : World) : Prop :=
 ∃ v', e = .returned (.tuple #[]) /\ Hasher w' B b v' (l ++ m) /\ Touch (fun q => q = b \/ v.ownBlock = some q) w w' /\ ∀ q, v'.ownBlock = some q -> v.ownBlock = some q \/ w.heap.size <= q
set_option maxHeartbeats 1000000 in
theorem hwrite_none {w : World} {B b : Nat} {v : Value} {l : List (BitVec 8)} (h : Hasher w B b v l) (hB : B <= w.heap.size) (h0 : 0 < B) (hk : KTab w) (hl : Sha.left l = [])
  (a : Option Addr) (cap : Nat) (m : List (BitVec 8)) (hr : Reads w a cap m) (hlm : l.length + m.length <= 1048576) (hoff : m ≠ [] -> ∀ ad, a = some ad -> ad.block ≠ b) :
  Calls Tryz.prog 43 #[.pointer (some ⟨b, 0, none⟩), .slice a m.length cap] w (Wrote B b v l m w) := by
 have hlow := h.low
 have OK := hok_any h.at_
 have cN := h.at_.n_
 have fN := h.at_.thawed 10
 have h1 := h.at_.setN ((l.length : Int) + m.length)
 have c9 := h1.rest
 have t1 : Touch (fun q => q = b) w (w.setCell ⟨b, 10, none⟩ (.int .i64 ((l.length : Int) + m.length))) := Touch.set w b 10 _ rfl
 have hv : ∃ a' cap', v = .slice a' 0 cap' := by obtain ⟨a', cap', e, _⟩ := h.own.reads; rw [hl] at e; exact ⟨a', cap', e⟩
 obtain ⟨a', cap', rfl⟩ := hv
 have hr1 := hr.touch' t1 hoff
 have HH := Lib.hid h
 have HK := Lib.hid hk
 have HHL := Lib.hid (Sha.held_append l m)
 have HLL := Lib.hid (Sha.left_append l m)
 clear h hk
 generalize Sha.held l = s0 at *
 go_enter Tryz.func43, Tryz.ntmps43
 go_wp2_with fail
 refine OK.mono ?_
 rintro e w' ⟨rfl, rfl⟩
 clear OK
 go_wp2_with fail
 have T1 := Lib.hid t1
 clear cN fN c9 hr t1
 generalize w.setCell ⟨b, 10, none⟩ (.int .i64 ((l.length : Int) + m.length)) = w1 at *
 go_loopw [1] (fun x wr => BlockRel b s0 (.slice a' 0 cap') ((l.length : Int) + m.length) m w1 x wr) (fun x _ => match x with | .slice _ n _ => n | _ => 0)
 case atStart => exact ⟨0, a, cap, by omega, rfl, hr1, hoff, h1, Touch.refl _ _⟩
 case round =>
  clear h1 hr1
  obtain ⟨k, a1, c1, hk64, rfl, hr2, hof, hat, ht⟩ := hrel
  have hpl : (m.drop (64 * k)).length = m.length - 64 * k := List.length_drop
  by_cases hlt : 64 * k + 64 <= m.length
  ·have hne : m.drop (64 * k) ≠ [] := fun e => by rw [e] at hpl; simp at hpl; omega
   obtain ⟨g, off, rfl, hbm⟩ : ∃ g off, a1 = some ⟨g, off, none⟩ /\ BytesAt wr g off (m.drop (64 * k)) := hr2.bytes.resolve_left hne
   have hm0 : m ≠ [] := fun e => by rw [e] at hne; simp at hne
   have hgb : g ≠ b := hof hm0 _ rfl
   have hfit := hr2.fits
   have hroom := hr2.room
   have hp64 : ((m.drop (64 * k)).take 64).length = 64 := by rw [List.length_take, hpl]; omega
   have hbs := Sha.blocks_succ k s0 m
   have hr3 := hr2.drop 64 (by rw [hpl]; omega)
   rw [List.drop_drop, show 64 * k + 64 = 64 * (k + 1) by omega] at hr3
   rw [hpl] at hfit
   have hs1 := fun w => run_slice_to (P := Tryz.prog) byteSlice w (some ⟨g, off, none⟩) (m.length - 64 * k) c1 .i64 64 64 rfl (by omega)
   have hs2 := fun w => run_slice_from (P := Tryz.prog) byteSlice w (some ⟨g, off, none⟩) (m.length - 64 * k) c1 .i64 64 64 rfl (by omega)
   have hbt := hbm.take 64
   generalize hp : (m.drop (64 * k)).take 64 = p at *
   generalize hs : Sha.blocks k s0 m = s at *
   have hkr : KTab wr := (HK.out.touch T1.out (show ¬ (0 = b) by omega)).touch ht (show ¬ (0 = b) by omega)
   have TK := fun w' (hx : BytesAt w' g off p) (hy : KTab w') => take_any s g off c1 p w' hp64 (by omega) (by omega) hx hy
   have hat1 : HAt wr.drew b true s.list (.slice a' 0 cap') ((l.length : Int) + m.length) := hat.drewN 1
   have hbt1 : BytesAt wr.drew g off p := hbt
   have hk1 : KTab wr.drew := hkr
   have HP := Lib.hid hp
   have HS := Lib.hid hs
   have HBS := Lib.hid hbs
   have HT := Lib.hid ht
   have HR3 := Lib.hid hr3
   have HOF := Lib.hid hof
   have hq64 : (64 : Int) <= ((m.length - 64 * k : Nat) : Int) := by omega
   clear hp hs hbs ht hr2 hr3 hof hat hbm hbt hkr hne hpl
   generalize hqq : m.length - 64 * k = q at *
   have HQ := Lib.hid hqq
   clear hqq
   go_wp2_with fail
   refine wp_region_plan [([0, 1, 2, 3, 5, 6], some 4), ([], some 7), ([8, 9], some 10), ([], none)] (fun _ => True) (by kernel_rfl) (by kernel_rfl) (fun _ _ d _ _ h => by cases d <;> exact h) trivial ?_
   refine plan_some (show wpQuiet _ _ _ _ (_ :: _ :: _ :: _ :: _ :: _ :: []) _ from ?_)
   repeat (go_big_quiet_step (fail))
   refine wpQuiet_nil (show wpList _ _ _ (_ :: []) _ _ from ?_)
   have hid : Touch (fun q => q = b) wr wr.drew := (Touch.refl _ _).drewN 1
   generalize wr.drew = w6 at *
   have HID := Lib.hid hid
   clear hid
   go_wp2_with (refine wpList_load_state hat1 rfl _ rfl rfl ?_)
   refine late_normal (fun _ h => h) trivial ?_
   refine plan_some (show wpQuiet _ _ _ _ [] _ from ?_)
   refine wpQuiet_nil (show wpList _ _ _ (_ :: []) _ _ from ?_)
   go_wp2_with fail
   refine (TK w6 hbt1 hk1).mono ?_
   rintro e w7 ⟨rfl, hb7⟩
   have hat7 := hat1.below hb7
   have hs8 : (Sha.take s p).list.length = 8 := rfl
   generalize Sha.take s p = s' at *
   have HB7 := Lib.hid hb7
   clear TK hbt1 hk1 hat1 hb7
   go_wp2_with fail
   refine late_normal (fun _ h => h) trivial ?_
   refine plan_some (show wpQuiet _ _ _ _ (_ :: _ :: []) _ from ?_)
   repeat (go_big_quiet_step (fail))
   refine wpQuiet_nil (show wpList _ _ _ (_ :: []) _ _ from ?_)
   go_wp2_with (refine wpList_store_state hat7 s'.list hs8 rfl _ _ rfl rfl rfl ?_; intro w8 hat8 t8)
   refine late_normal (fun _ h => h) trivial ?_
   refine plan_none (show wpQuiet _ _ _ _ [] _ from ?_)
   refine wpQuiet_nil ?_
   refine plan_nil ?_
   have HTT := Lib.hid ((HID.out.trans (.of_below HB7.out)).trans t8)
   have HA := Lib.hid hat8
   clear hat7 hat8 t8
   go_wp2
   go_roundw
   case rel =>
    have hq := HQ.out
    refine ⟨k + 1, _, _, by omega, ?_, (HR3.out.touch' HTT.out fun hne ad e => ?_), fun hne ad e => ?_, ?_, HT.out.trans HTT.out⟩
    ·rw [show m.length - 64 * (k + 1) = q - 64 by omega]
    ·rw [drop_block e]; exact hgb
    ·rw [drop_block e]; exact hgb
    ·rw [HBS.out]; exact HA.out
   case measure => simp; omega
  ·have hkq : m.length / 64 = k := by omega
   have CL := clone_any a1 c1 (m.drop (64 * k)) wr hr2 (by rw [hpl]; omega)
   rw [hpl] at CL
   have hlt2 : ((m.length - 64 * k : Nat) : Int) < 64 := by omega
   generalize hd : m.drop (64 * k) = d at *
   generalize hs : Sha.blocks k s0 m = s at *
   have HD := Lib.hid hd
   have HS := Lib.hid hs
   have HA := Lib.hid hat
   have HT := Lib.hid ht
   have HKQ := Lib.hid hkq
   clear hd hs hat ht hkq hr2 hof hpl hlt
   generalize hqq : m.length - 64 * k = q at *
   clear hqq
   go_wp2_with fail
   refine CL.mono ?_
   rintro e w5 ⟨vv, rfl, ho5, hb5⟩
   have hat5 := HA.out.below hb5
   have f9 := hat5.thawed 9
   have c9 := hat5.rest
   obtain ⟨a5, c5, rfl, _⟩ := ho5.reads
   have HO := Lib.hid ho5
   have HB5 := Lib.hid hb5
   have HA5 := Lib.hid hat5
   have HA6 := Lib.hid (hat5.setRest (.slice a5 d.length c5))
   clear ho5 hb5 hat5 CL
   go_wp2
   refine bodyPost_end (results_none rfl _ _ _) rfl ?_
   have hown : ∀ q, (Value.slice a5 d.length c5).ownBlock = some q -> wr.heap.size <= q := fun q hq => (row_lt HO.out hq).1
   have hbl := HA.out.lt
   have hs1 := T1.out.size
   have hs2 := HT.out.size
   have t6 : Touch (fun q => q = b) w5 (w5.setCell ⟨b, 9, none⟩ (.slice a5 d.length c5)) := Touch.set w5 b 9 _ rfl
   have hh := HHL.out
   have hl2 := HLL.out
   rw [hl, List.nil_append, List.length_nil, Nat.zero_add, HKQ.out] at hh hl2
   rw [HS.out] at hh
   rw [HD.out] at hl2
   refine ⟨_, rfl, ⟨?_, ?_, ?_, hlow⟩, ?_, fun q hq => .inr (by have := hown q hq; omega)⟩
   ·rw [hh, List.length_append, Int.natCast_add]; exact HA6.out
   ·rw [hl2]
    exact (t6.owns HO.out fun q hq e => by have := hown q hq; omega).mono (by omega)
   ·intro e; have := hown b e; omega
   ·have := ((T1.out.trans HT.out).trans (.of_below HB5.out)).trans t6
    exact this.mono fun q e => .inl e
end Go.Proofs.YtbicafgmfgdckaaGreatDoor
namespace Go.Proofs.YtbicafgmfgdckaaGreatDoor
open Go Go.RowKit

set_option maxHeartbeats 1000000 in
theorem hwrite_short {w : World} {B b : Nat} {v : Value} {l : List (BitVec 8)} (h : Hasher w B b v l) (hB : B <= w.heap.size) (hl : Sha.left l ≠ [])
  (a : Option Addr) (cap : Nat) (m : List (BitVec 8)) (hr : Reads w a cap m) (hlm : l.length + m.length <= 1048576) (hoff : m ≠ [] -> ∀ ad, a = some ad -> ad.block ≠ b /\ v.ownBlock ≠ some ad.block) (hs : (Sha.left l).length + m.length < 64) :
  Calls Tryz.prog 43 #[.pointer (some ⟨b, 0, none⟩), .slice a m.length cap] w (Wrote B b v l m w) := by
 have hlow := h.low
 have OK := hok_any h.at_
 have cN := h.at_.n_
 have fN := h.at_.thawed 10
 have h1 := h.at_.setN ((l.length : Int) + m.length)
 have c9 := h1.rest
 have f9 := h1.thawed 9
 have t1 : Touch (fun q => q = b) w (w.setCell ⟨b, 10, none⟩ (.int .i64 ((l.length : Int) + m.length))) := Touch.set w b 10 _ rfl
 have hvb := h.vb
 have hr1 := hr.touch' t1 fun hm ad e => (hoff hm ad e).1
 have ho1 := t1.owns h.own fun q hq e => hvb (by rw [hq, e])
 have hheld := Sha.held_append l m
 have hleft := Sha.left_append l m
 rw [Nat.div_eq_of_lt hs] at hheld hleft
 generalize Sha.left l = r at *
 generalize Sha.held l = s0 at *
 have hvf : ∃ c a', v = .slice a' r.length c := by obtain ⟨a', cap', e, _⟩ := ho1.reads; exact ⟨cap', a', e⟩
 obtain ⟨cap', a', rfl⟩ := hvf
 have HH := Lib.hid h
 have HHL := Lib.hid hheld
 have HLL := Lib.hid hleft
 clear h hheld hleft
 have hr0 : 0 < r.length := List.length_pos_iff.2 hl
 have hr0' : (0 : Int) < r.length := by omega
 have hmin : min (64 - (r.length : Int)) m.length = m.length := by omega
 go_enter Tryz.func43, Tryz.ntmps43
 go_wp2_with fail
 refine OK.mono ?_
 rintro e w' ⟨rfl, rfl⟩
 clear OK
 go_wp2_with fail
 have hs1 := fun w => run_slice_to (P := Tryz.prog) byteSlice w a m.length cap .i64 m.length m.length rfl hr.fits
 have hs2 := fun w => run_slice_from (P := Tryz.prog) byteSlice w a m.length cap .i64 m.length m.length rfl (Nat.le_refl _)
 rw [Nat.sub_self] at hs2
 clear cN fN
 generalize w.setCell ⟨b, 10, none⟩ (.int .i64 ((l.length : Int) + m.length)) = w1 at *
 refine wp_region_plan [([0, 1, 2, 3, 5, 6, 7], some 4), ([], some 8), ([9, 10], some 11), ([], none)] (fun _ => True) (by kernel_rfl) (by kernel_rfl) (fun _ _ d _ _ h => by cases d <;> exact h) trivial ?_
 refine plan_some (show wpQuiet _ _ _ _ (_ :: _ :: _ :: _ :: _ :: _ :: _ :: []) _ from ?_)
 repeat (go_big_quiet_step (fail))
 refine wpQuiet_nil (show wpList _ _ _ (_ :: []) _ _ from ?_)
 have hid : Touch (fun q => q = b) w1 w1.drew := (Touch.refl _ _).drewN 1
 have d1 : HAt w1.drew b true s0.list (.slice a' r.length cap') ((l.length : Int) + m.length) := h1.drewN 1
 have e9 : w1.drew.cell? ⟨b, 9, none⟩ = some (.slice a' r.length cap') := c9
 have ro : Reads w1.drew a cap m := hr1.keeps (Keeps.drewN w1 1)
 have oo : Owns w1.drew B 5 (.slice a' r.length cap') r := ho1
 have hz : B <= w1.drew.heap.size := Nat.le_trans hB t1.size
 clear h1 c9 hr1 ho1 f9
 generalize w1.drew = w6 at *
 go_wp2_with fail
 refine late_normal (fun _ h => h) trivial ?_
 refine plan_some (show wpQuiet _ _ _ _ [] _ from ?_)
 refine wpQuiet_nil (show wpList _ _ _ (_ :: []) _ _ from ?_)
 have hlen : r.length + m.length <= 140737488355328 := by omega
 go_wp2_with (at_builtin; refine wpList_append_bytes_at byteSlice rfl _ _ rfl B (.slice a' r.length cap') r rfl oo a cap m rfl ro hlen hz ?_; intro v' w7 ho7 hg7 hb7)
 refine late_normal (fun _ h => h) trivial ?_
 refine plan_some (show wpQuiet _ _ _ _ (_ :: _ :: []) _ from ?_)
 repeat (go_big_quiet_step (fail))
 refine wpQuiet_nil (show wpList _ _ _ (_ :: []) _ _ from ?_)
 have t7 : Touch (fun q => (Value.slice a' r.length cap').ownBlock = some q) w6 w7 := .of_grown hg7 fun k hk => hk
 have d7 := d1.touch t7 hvb
 have f9 := d7.thawed 9
 have c9 := d7.rest
 have hx7 : (r ++ m).length < 64 := by rw [List.length_append]; exact hs
 obtain ⟨x, hx⟩ : ∃ x, r ++ m = x := ⟨_, rfl⟩
 rw [hx] at ho7 hx7
 obtain ⟨a7, c7, rfl, _⟩ := ho7.reads
 have hx8 : (x.length : Int) < 64 := by omega
 have d8 := d7.setRest (.slice a7 x.length c7)
 have e9 := d8.rest
 have t8 : Touch (fun q => q = b) w7 (w7.setCell ⟨b, 9, none⟩ (.slice a7 x.length c7)) := Touch.set w7 b 9 _ rfl
 have HX := Lib.hid hx
 have HO := Lib.hid ho7
 have HD := Lib.hid d8
 clear hx ho7 d8 d7 hg7 hx7
 go_wp2_with fail
 refine late_normal (fun _ h => h) trivial ?_
 refine plan_none (show wpQuiet _ _ _ _ [] _ from ?_)
 refine wpQuiet_nil ?_
 refine plan_nil ?_
 generalize w7.setCell ⟨b, 9, none⟩ (.slice a7 x.length c7) = w8 at *
 go_wp2
 refine bodyPost_end (results_none rfl _ _ _) rfl ?_
 have hh := HHL.out
 have hl2 := HLL.out
 rw [show Sha.blocks 0 s0 (r ++ m) = s0 from rfl] at hh
 rw [Nat.mul_zero, List.drop_zero, HX.out] at hl2
 have hvb7 : (Value.slice a7 x.length c7).ownBlock ≠ some b := by
  rcases hb7 with e | e
  ·rw [e]; exact hvb
  ·rw [e]; intro e2; injection e2 with e2; have := d1.lt; omega
 have hsz1 := t1.size
 have hsz2 := hid.size
 refine ⟨_, rfl, ⟨?_, ?_, hvb7, hlow⟩, ?_, fun q hq => ?_⟩
 ·rw [hh, List.length_append, Int.natCast_add]; exact HD.out
 ·rw [hl2]
  exact t8.owns HO.out fun q hq e => hvb7 (by rw [hq, e])
 ·exact (((t1.mono fun q e => .inl e).trans (hid.mono fun q e => .inl e)).trans (t7.mono fun q e => .inr e)).trans (t8.mono fun q e => .inl e)
 ·rcases hb7 with e | e
  ·left; rw [<- e]; exact hq
  ·right; rw [e] at hq; injection hq with hq; omega
end Go.Proofs.YtbicafgmfgdckaaGreatDoor
