/- A slice of sums is made, what it lists: nothing. A snapshot of main's own blocks, one of them left out. crew.Sums, main's part. Stretches of code of a goroutine by itself, nobody else turning the heap: lone runs hold there, under the same numbers. For any program. The crew's pact: main by itself, a lone stretch of code. For any program. -/
import Derived.Test.YtbicafgmfgdckaaGreatDoorMgBf
import Derived.Test.YtbicafgmfgdckaaGreatDoorMgBg
import Derived.Test.YtbicafgmfgdckaaGreatDoorMgBi
import Derived.Test.YtbicafgmfgdckaaGreatDoorMgAt
import Derived.Test.YtbicafgmfgdckaaGreatDoorProg
import Derived.Conc.Events
import Derived.Laws.MakeOwn
import Derived.KernelRfl
namespace Go.Proofs.YtbicafgmfgdckaaGreatDoor
open Go
theorem info_id : ∃ i, Tryz.prog.info? 40 = some i /\ (∃ z, i.zero = some z) /\ i.size = 32 /\ i.bytes = 32 := by
 have h : (Tryz.prog.info? 40).map (fun i => (i.size, i.bytes, i.zero.isSome)) = some (32, 32, true) := by kernel_rfl
 cases hi : Tryz.prog.info? 40 with
 | none => rw [hi] at h; cases h
 | some i =>
  rw [hi] at h
  simp only [Option.map_some, Option.some.injEq, Prod.mk.injEq] at h
  exact ⟨i, rfl, Option.isSome_iff_exists.1 h.2.2, h.1, h.2.1⟩
theorem make_run (n : Nat) (hn : n <= 1000) : ∃ Z : Array Value, Z.size = n * 32 /\ ∀ w, (Instr.makeSlice 46 (.int .i64 n) (.int .i64 n)).run Tryz.prog w = .ok (.slice (some ⟨w.heap.size, 0, none⟩) n n) (w.alloc (.cells Z 40)) := by
 have hu : Tryz.prog.underlying 46 = some (.slice 40) := by kernel_rfl
 obtain ⟨i, hi, hz, hs, hb⟩ := info_id
 obtain ⟨z, hz⟩ := hz
 have := fun w => run_makeSlice (P := Tryz.prog) (w := w) 46 40 i z hu hi hz .i64 .i64 n n (by omega) (by omega) (by rw [hs]; omega) (by rw [hb]; omega) (by omega)
 refine ⟨_, ?_, fun w => by simpa using this w⟩
 simp [madeCells, hs]
theorem make_ev (n : Nat) (hn : n <= 1000) (w : World) : (Instr.makeSlice 46 (.int .i64 n) (.int .i64 n)).events Tryz.prog w #[] = #[] := by
 have hu : Tryz.prog.underlying 46 = some (.slice 40) := by kernel_rfl
 obtain ⟨i, hi, hz, hs, hb⟩ := info_id
 obtain ⟨z, hz⟩ := hz
 have hw : IntKind.i64.wrap (n : Int) = n := by rw [IntKind.wrap_i64]; omega
 have n1 : ¬ (n : Int) < 0 := by omega
 have n2 : ¬ (281474976710656 < (32 : Int) * n) := by omega
 have n3 : ¬ (roomBytes < n * 32) := by show ¬ (_ < n * 32); unfold roomBytes; omega
 unfold Instr.makeSlice
 simp [run_underlying hu, asInt, asIntOf, typeInfo, hi, hb, hs, hw, n1, n2, n3, askRoom, sizeOf, zeroValue, hz, newRow]
end Go.Proofs.YtbicafgmfgdckaaGreatDoor
namespace Go.Proofs.YtbicafgmfgdckaaGreatDoor
open Go Go.RowKit Go.Conc
section
variable {top : Nat} {γ γ' γ2 : Gho} {p : Ph} {w w' w2 : World} {i b o out : Nat} {v : Value}
def snapW (γ : Gho) (out : Nat) (w : World) : World := { w with heap := w.heap.mapIdx fun b o => if γ.bk b = .priv 0 /\ b ≠ out then o else .cells #[] 0 }
theorem snap_get (b : Nat) : (snapW γ out w).heap[b]? = (w.heap[b]?).map fun o => if γ.bk b = .priv 0 /\ b ≠ out then o else .cells #[] 0 := by simp [snapW]
theorem snap_of (h : γ.bk b = .priv 0) (hne : b ≠ out) : (snapW γ out w).heap[b]? = w.heap[b]? := by
 rw [snap_get]
 simp [h, hne]
theorem snap_cell_of (h : γ.bk b = .priv 0) (hne : b ≠ out) (hc : w.cell? ⟨b, o, none⟩ = some v) : (snapW γ out w).cell? ⟨b, o, none⟩ = some v := by
 unfold World.cell? at hc ⊢
 rw [snap_of h hne]
 exact hc
theorem snap_cell (h : (snapW γ out w).cell? ⟨b, o, none⟩ = some v) : γ.bk b = .priv 0 /\ b ≠ out /\ b < w.heap.size /\ w.cell? ⟨b, o, none⟩ = some v := by
 unfold World.cell? at h ⊢
 rw [snap_get] at h
 cases hb : w.heap[b]? with
 | none => rw [hb] at h; cases h
 | some ob =>
  rw [hb] at h
  have hlt : b < w.heap.size := (Array.getElem?_eq_some_iff.1 hb).1
  by_cases hc : γ.bk b = .priv 0 /\ b ≠ out
  ·simp only [Option.map_some, if_pos hc] at h
   exact ⟨hc.1, hc.2, hlt, h⟩
  ·simp only [Option.map_some, if_neg hc] at h
   simp at h
theorem snap_snap (hs : γ.hs = w.heap.size) (h : ∀ b, b < γ.hs -> γ.bk b = .priv 0 -> b ≠ out -> γ'.F i b /\ p.H b = w.heap[b]?) : Snap i p γ' (snapW γ out w) := fun b o v hc => by
 obtain ⟨h1, h2, h3, _⟩ := snap_cell hc
 obtain ⟨h4, h5⟩ := h b (by omega) h1 h2
 exact ⟨h4, by rw [h5, snap_of h1 h2]⟩
theorem snap_keeps {out' : Nat} (hl : ∀ b, b < γ.hs -> γ'.bk b = γ.bk b) (hs : γ.hs = w.heap.size) (hh : ∀ b, b < γ.hs -> w'.heap[b]? = w.heap[b]?) (ho : γ.hs <= out') : Keeps (snapW γ out w) (snapW γ' out' w') := by
 rintro ⟨b, o, sp⟩ v h
 cases sp with
 | some sp =>
  exfalso
  unfold World.cell? at h
  cases hb : (snapW γ out w).heap[b]? with
  | none => simp [hb] at h
  | some ob => cases ob <;> simp [hb] at h
 | none =>
  obtain ⟨h1, h2, h3, h4⟩ := snap_cell h
  have hlt : b < γ.hs := by omega
  refine snap_cell_of ((hl b hlt).trans h1) (by omega) ?_
  unfold World.cell? at h4 ⊢
  rw [hh b hlt]
  exact h4
end
end Go.Proofs.YtbicafgmfgdckaaGreatDoor
namespace Go.Proofs.YtbicafgmfgdckaaGreatDoor
open Go Go.RowKit Go.Conc Go.Conc.Lib Go.ConcR.Gen
open Go.ConcR (KK wgBlock WgAt stA smA rd wr mk DC0)
open Go.ConcN (sumTo upd upd_same upd_ne RelBy PermW WgLive)
section
variable {top : Nat} {γ γ' γ2 : Gho} {p : Ph} {w w' w2 : World} {i j k n : Nat} {Post : Value -> World -> Prop} {es : Array Event} {g g' : Goroutine}
set_option maxRecDepth 100000 in
set_option maxHeartbeats 4000000 in
theorem lives_right {m : Int} {c : Frame} {cs : List Frame} (hg : γ.tag i ≠ .gone) (hK : LV Tryz.prog wgLink.tWg top Post i γ w (G (c.finish (.bool (decide (1 <= m) && decide (m <= 16)))) cs)) :
  LV Tryz.prog wgLink.tWg top Post i γ w (G ((base 19).at ⟨#[.int .i64 m] ++ Array.replicate 8 undef, []⟩ [.code (Tryz.f19.body.getD .skip)]) (c :: cs)) := by
 simp only [Tryz.f19, Option.getD_some]
 walk_nrm
 refine lives_ctl rfl hg (fun _ => stepG_seq) ?_
 refine lives_ctl rfl hg (fun _ => stepG_region) ?_
 simp only [List.size_toArray, List.length_cons, List.length_nil, Nat.reduceAdd, Nat.zero_add, List.range, List.range.loop]
 refine lives_pure rfl hg (fun wV => ?_)
 refine goes_oper_k rfl rfl (by k_ne) (fun W hW => ?_)
 go_simp
 refine hW _ _ ⟨⟨rfl, no_listed (by simp [go_sem])⟩, ?_⟩
 clear hW
 clear W wV
 try walk_nrm
 refine lives_ctl rfl hg (fun _ => stepG_region_end) ?_
 refine lives_ctl rfl hg (fun _ => stepG_seq) ?_
 refine lives_ctl rfl hg (fun _ => stepG_region) ?_
 simp only [List.size_toArray, List.length_cons, List.length_nil, Nat.reduceAdd, Nat.zero_add, List.range, List.range.loop]
 refine lives_pure rfl hg (fun wV => ?_)
 refine goes_oper_k rfl rfl (by k_ne) (fun W hW => ?_)
 go_simp
 refine hW _ _ ⟨⟨rfl, no_listed (by simp [go_sem])⟩, ?_⟩
 clear hW
 clear W wV
 try walk_nrm
 refine lives_pure rfl hg (fun wV => ?_)
 refine goes_oper_k rfl rfl (by k_ne) (fun W hW => ?_)
 go_simp
 refine hW _ _ ⟨⟨rfl, no_listed (by simp [go_sem])⟩, ?_⟩
 clear hW
 clear W wV
 try walk_nrm
 refine lives_pure rfl hg (fun wV => ?_)
 refine goes_oper_k rfl rfl (by k_ne) (fun W hW => ?_)
 go_simp
 refine hW _ _ ⟨⟨rfl, no_listed (by simp [go_sem])⟩, ?_⟩
 clear hW
 clear W wV
 try walk_nrm
 by_cases h1 : 1 <= m
 ·simp only [h1, decide_true, ge_iff_le, Bool.true_and] at hK ⊢
  refine lives_pure rfl hg (fun wV => ?_)
  refine goes_oper_k rfl rfl (by k_ne) (fun W hW => ?_)
  go_simp
  refine hW _ _ ⟨⟨rfl, no_listed (by simp [go_sem])⟩, ?_⟩
  clear hW
  clear W wV
  try walk_nrm
  refine lives_pure rfl hg (fun wV => ?_)
  refine goes_oper_k rfl rfl (by k_ne) (fun W hW => ?_)
  go_simp
  refine hW _ _ ⟨⟨rfl, no_listed (by simp [go_sem])⟩, ?_⟩
  clear hW
  clear W wV
  try walk_nrm
  refine lives_pure rfl hg (fun wV => ?_)
  refine goes_oper_k rfl rfl (by k_ne) (fun W hW => ?_)
  go_simp
  refine hW _ _ ⟨⟨rfl, no_listed (by simp [go_sem])⟩, ?_⟩
  clear hW
  clear W wV
  try walk_nrm
  refine lives_pure rfl hg (fun wV => ?_)
  refine goes_oper_k rfl rfl (by k_ne) (fun W hW => ?_)
  go_simp
  refine hW _ _ ⟨⟨rfl, no_listed (by simp [go_sem])⟩, ?_⟩
  clear hW
  clear W wV
  try walk_nrm
  refine lives_ctl rfl hg (fun _ => stepG_region_end) ?_
  refine lives_ctl rfl hg (fun _ => stepG_ret') ?_
  refine lives_ctl rfl hg (fun _ => stepG_leave (v := .bool (decide (m <= 16))) rfl rfl Tryz.func19 (by kernel_rfl) (by kernel_rfl)) ?_
  exact hK
 ·simp only [h1, decide_false, ge_iff_le, Bool.false_and] at hK ⊢
  refine lives_ctl rfl hg (fun _ => stepG_unwanted rfl rfl) ?_
  try walk_nrm
  refine lives_ctl rfl hg (fun _ => stepG_unwanted rfl rfl) ?_
  try walk_nrm
  refine lives_pure rfl hg (fun wV => ?_)
  refine goes_oper_k rfl rfl (by k_ne) (fun W hW => ?_)
  go_simp
  refine hW _ _ ⟨⟨rfl, no_listed (by simp [go_sem])⟩, ?_⟩
  clear hW
  clear W wV
  try walk_nrm
  refine lives_pure rfl hg (fun wV => ?_)
  refine goes_oper_k rfl rfl (by k_ne) (fun W hW => ?_)
  go_simp
  refine hW _ _ ⟨⟨rfl, no_listed (by simp [go_sem])⟩, ?_⟩
  clear hW
  clear W wV
  try walk_nrm
  refine lives_ctl rfl hg (fun _ => stepG_region_end) ?_
  refine lives_ctl rfl hg (fun _ => stepG_ret') ?_
  refine lives_ctl rfl hg (fun _ => stepG_leave (v := .bool false) rfl rfl Tryz.func19 (by kernel_rfl) (by kernel_rfl)) ?_
  exact hK
structure RowsMem (Hw : World) (la : Option Addr) (n : Nat) (rows : List (List (BitVec 8))) : Prop where
 n : n = rows.length
 rws : ∃ lb lo, (rows ≠ [] -> la = some ⟨lb, lo, none⟩) /\ ∀ x row, rows[x]? = some row -> row.length <= 1048576 /\ ∃ ra rc, Hw.cell? ⟨lb, lo + x, none⟩ = some (.slice ra row.length rc) /\ Reads Hw ra rc row /\ ∀ ad, ra = some ad -> ∃ o v, Hw.cell? ⟨ad.block, o, none⟩ = some v
 k : KTab Hw
theorem RowsMem.keeps {Hw Hw' : World} {la : Option Addr} {rows : List (List (BitVec 8))} (h : RowsMem Hw la n rows) (k : Keeps Hw Hw') : RowsMem Hw' la n rows := by
 obtain ⟨h1, ⟨lb, lo, h2, h3⟩, h4⟩ := h
 refine ⟨h1, ⟨lb, lo, h2, fun x row hx => ?_⟩, h4.keeps k⟩
 obtain ⟨a1, ra, rc, a2, a3, a4⟩ := h3 x row hx
 exact ⟨a1, ra, rc, k _ _ a2, a3.keeps k, fun ad e => let ⟨o, v, q⟩ := a4 ad e; ⟨o, v, k _ _ q⟩⟩
def sumVal (rows : List (List (BitVec 8))) (x o : Nat) : Value := U8 (byteAt (Sha.sum (rows.getD x [])) o)
theorem sums_in {p : Ph} {Hw : World} {la : Option Addr} {lc : Nat} {rows : List (List (BitVec 8))} {LB OB : Nat} (h : RowsMem Hw la n rows) (hpn : p.n = n) (hn : n <= 1000) (hv : p.val = sumVal rows) (ho : p.oty = 40)
  (hlb : Hw.cell? ⟨LB, 0, none⟩ = some (.slice la n lc)) (hob : Hw.cell? ⟨OB, 0, none⟩ = some (.slice (some ⟨p.out, 0, none⟩) n n)) : SumsIn p Hw LB OB rows := by
 obtain ⟨h1, ⟨lb, lo, h2, h3⟩, h4⟩ := h
 refine ⟨hpn.trans h1, by omega, ⟨lb, lo, lc, fun q => by rw [hlb, h2 q, hpn], h3⟩, fun _ => ⟨n, by rw [hob, hpn]⟩, h4, fun x row o hx _ => ?_, ho⟩
 rw [hv]
 unfold sumVal
 rw [List.getD_eq_getElem?_getD, hx]
 rfl
set_option maxRecDepth 100000 in
set_option maxHeartbeats 8000000 in
theorem lives_sums {m : Int} {la : Option Addr} {lc : Nat} {c : Frame} {cs : List Frame} {rows : List (List (BitVec 8))} (s0 : Solo γ w) (hn : n <= 1000) (hmem : RowsMem (snapW γ γ.hs w) la n rows) (hgl : Tryz.prog.globals.size <= γ.hs) (hcnt : γ.cnt + 16 <= top)
  (hGood : ∀ W0 : Nat, m = W0 -> 1 <= W0 -> W0 <= 16 -> ∀ γ' w' out, Solo γ' w' -> γ.hs <= out -> out < γ'.hs -> γ'.bk out = .priv 0 -> γ'.cnt = γ.cnt + W0 -> (∀ b, b < γ.hs -> γ'.bk b = γ.bk b) -> (∀ b, b < γ.hs -> γ.bk b = .priv 0 -> w'.heap[b]? = w.heap[b]?) -> w'.tape = w.tape ->
   (∃ cells, w'.heap[out]? = some (.cells cells 40 (0, 0)) /\ cells.size = 32 * n /\ ∀ x, x < n -> ∀ o, o < 32 -> cells[32 * x + o]? = some (sumVal rows x o)) -> LV Tryz.prog wgLink.tWg top Post 0 γ' w' (G (c.finish (.tuple #[.slice (some ⟨out, 0, none⟩) n n, .int .i64 0])) cs))
  (hBad : ¬ (1 <= m /\ m <= 16) -> ∀ γ' w', Solo γ' w' -> Later2 γ γ' -> (∀ b, b < γ.hs -> w'.heap[b]? = w.heap[b]?) -> w'.tape = w.tape -> LV Tryz.prog wgLink.tWg top Post 0 γ' w' (G (c.finish (.tuple #[.slice none 0 0, .int .i64 2])) cs)) :
  LV Tryz.prog wgLink.tWg top Post 0 γ w (G ((base 15).at ⟨#[.slice la n lc, .int .i64 m] ++ Array.replicate 17 undef, []⟩ [.code (Tryz.f15.body.getD .skip)]) (c :: cs)) := by
 have hg : γ.tag 0 ≠ .gone := s0.ng
 simp only [Tryz.f15, Option.getD_some]
 walk_nrm
 refine lives_ctl rfl hg (fun _ => stepG_seq) ?_
 refine lives_ctl rfl hg (fun _ => stepG_region) ?_
 simp only [List.size_toArray, List.length_cons, List.length_nil, Nat.reduceAdd, Nat.zero_add, List.range, List.range.loop]
 refine solo_goes s0 rfl fun wV eV eT => ?_
 refine goes_oper_k rfl rfl (by k_ne) (fun W hW => ?_)
 go_simp
 refine hW _ _ ⟨own_push (w := wV) rfl rfl rfl rfl (no_listed (by simp [go_sem])), fun γ1 w1 h1 t1 s1 l1 b1 => ?_⟩
 replace h1 : w1.heap = (w.heap).push (Obj.cells #[Value.slice la n lc] 25) := by rw [h1]; show wV.heap.push _ = _; rw [eV]; try rfl
 replace t1 : w1.tape = w.tape := t1.trans eT
 replace b1 : γ1.bk (w.heap.size) = .priv 0 := b1 _ (by rw [s0.hs]; simp [Nat.add_assoc]) (by show _ < (wV.heap.push _).size; rw [eV]; simp [Nat.add_assoc])
 clear hW
 clear W eV eT
 clear wV
 have hg : γ1.tag 0 ≠ .gone := s1.ng
 try walk_nrm
 refine lives_pure rfl hg (fun wV => ?_)
 refine goes_oper_k rfl rfl (by k_ne) (fun W hW => ?_)
 go_simp
 refine hW _ _ ⟨⟨rfl, no_listed (by simp [go_sem])⟩, ?_⟩
 clear hW
 clear W wV
 try walk_nrm
 refine lives_pure rfl hg (fun wV => ?_)
 refine goes_oper_k rfl rfl (by k_ne) (fun W hW => ?_)
 go_simp
 refine hW _ _ ⟨⟨rfl, no_listed (by simp [go_sem])⟩, ?_⟩
 clear hW
 clear W wV
 try walk_nrm
 refine lives_ctl rfl hg (fun _ => stepG_region_end) ?_
 refine lives_ctl rfl hg (fun _ => stepG_seq) ?_
 refine lives_ctl rfl hg (fun _ => stepG_seq) ?_
 refine lives_ctl rfl hg (fun _ => stepG_region) ?_
 simp only [List.size_toArray, List.length_cons, List.length_nil, Nat.reduceAdd, Nat.zero_add, List.range, List.range.loop]
 refine lives_pure rfl hg (fun wV => ?_)
 refine goes_oper_k rfl rfl (by k_ne) (fun W hW => ?_)
 go_simp
 refine hW _ _ ⟨⟨rfl, no_listed (by simp [go_sem])⟩, ?_⟩
 clear hW
 clear W wV
 try walk_nrm
 refine lives_ctl rfl hg (fun _ => stepG_callv (first := #[]) (caps := #[]) (vs := #[.int .i64 m]) rfl rfl (by k_ne) rfl rfl (by simp [Act.eval]) Tryz.func19 (by kernel_rfl) rfl) ?_
 refine lives_right hg ?_
 rw [Frame.finish_at]
 walk_nrm
 refine lives_pure rfl hg (fun wV => ?_)
 refine goes_oper_k rfl rfl (by k_ne) (fun W hW => ?_)
 go_simp
 refine hW _ _ ⟨⟨rfl, no_listed (by simp [go_sem])⟩, ?_⟩
 clear hW
 clear W wV
 try walk_nrm
 refine lives_ctl rfl hg (fun _ => stepG_region_end) ?_
 by_cases hm : 1 <= m /\ m <= 16
 ·have hmb : (!decide (1 <= m) || !decide (m <= 16)) = false := by simp [hm.1, hm.2]
  simp only [hmb]
  refine lives_ctl rfl hg (fun _ => stepG_cond (t := false) rfl) ?_
  simp only [if_true, if_false, Bool.false_eq_true, ↓reduceIte]
  refine lives_ctl rfl hg (fun _ => stepG_skip) ?_
  refine lives_ctl rfl hg (fun _ => stepG_seq) ?_
  refine lives_ctl rfl hg (fun _ => stepG_region) ?_
  simp only [List.size_toArray, List.length_cons, List.length_nil, Nat.reduceAdd, Nat.zero_add, List.range, List.range.loop]
  have H1 : w1.heap[w.heap.size]? = some (.cells #[.slice la n lc] 25 (0, 0)) := by rw [h1, Array.getElem?_push]; simp
  have hS1 : γ1.S 0 w.heap.size := ⟨by rw [s1.hs, h1]; simp, b1⟩
  refine lives_read rfl s1.ns (fun γV wV hrl hIV => ?_)
  have hcell : wV.cell? ⟨w.heap.size, 0, none⟩ = some (.slice la n lc) := by rw [World.cell?, (s1.rel hrl).2.1]; simp [H1]
  refine goes_oper_k rfl rfl (by k_ne) (fun W hW => ?_)
  go_simp
  refine hW _ _ ⟨⟨rfl, fun e he => ?_⟩, ?_⟩
  ·have hm := mem_listed he
   simp [go_sem, hcell] at hm
   subst hm
   exact .inl ⟨_, rfl, rfl, .inl (by rw [hrl.S s1.ng]; exact hS1)⟩
  clear hW hcell
  clear W
  clear hrl hIV
  clear γV wV
  try walk_nrm
  refine lives_pure rfl hg (fun wV => ?_)
  refine goes_oper_k rfl rfl (by k_ne) (fun W hW => ?_)
  go_simp
  refine hW _ _ ⟨⟨rfl, no_listed (by simp [go_sem])⟩, ?_⟩
  clear hW
  clear W wV
  try walk_nrm
  obtain ⟨Z, hZ, hmk⟩ := make_run n hn
  refine solo_goes s1 rfl fun wV eV eT => ?_
  refine goes_oper_k rfl rfl (by k_ne) (fun W hW => ?_)
  have hmkV := hmk wV
  go_simp
  refine hW _ _ ⟨own_push (w := wV) rfl rfl rfl rfl (no_listed (by simp [go_sem]; exact make_ev n hn _)), fun γ2 w2 h2 t2 s2 l2 b2 => ?_⟩
  replace h2 : w2.heap = (w.heap.push (Obj.cells #[Value.slice la n lc] 25)).push (Obj.cells Z 40) := by rw [h2]; show wV.heap.push _ = _; rw [eV, h1]; try rfl
  replace t2 : w2.tape = w1.tape := t2.trans eT
  replace b2 : γ2.bk (w.heap.size + 1) = .priv 0 := b2 _ (by rw [s1.hs, h1]; simp [Nat.add_assoc]) (by show _ < (wV.heap.push _).size; rw [eV, h1]; simp [Nat.add_assoc])
  clear hW hmkV
  clear W eV eT
  clear wV
  rw [t1] at t2
  have m2 := l2
  replace l2 := l1.trans l2
  have hg : γ2.tag 0 ≠ .gone := s2.ng
  try walk_nrm
  refine solo_goes s2 rfl fun wV eV eT => ?_
  refine goes_oper_k rfl rfl (by k_ne) (fun W hW => ?_)
  go_simp
  refine hW _ _ ⟨own_push (w := wV) rfl rfl rfl rfl (no_listed (by simp [go_sem])), fun γ3 w3 h3 t3 s3 l3 b3 => ?_⟩
  replace h3 : w3.heap = ((w.heap.push (Obj.cells #[Value.slice la n lc] 25)).push (Obj.cells Z 40)).push (Obj.cells #[Value.slice none 0 0] 46) := by rw [h3]; show wV.heap.push _ = _; rw [eV, h2]; try rfl
  replace t3 : w3.tape = w2.tape := t3.trans eT
  replace b3 : γ3.bk (w.heap.size + 2) = .priv 0 := b3 _ (by rw [s2.hs, h2]; simp [Nat.add_assoc]) (by show _ < (wV.heap.push _).size; rw [eV, h2]; simp [Nat.add_assoc])
  clear hW
  clear W eV eT
  clear wV
  rw [t2] at t3
  have m3 := l3
  replace l3 := l2.trans l3
  have hg : γ3.tag 0 ≠ .gone := s3.ng
  try walk_nrm
  have H3 : w3.heap[w.heap.size + 1 + 1]? = some (.cells #[Value.slice none 0 0] 46 (0, 0)) := by rw [h3, Array.getElem?_push]; simp
  have hS3 : γ3.S 0 (w.heap.size + 1 + 1) := ⟨by rw [s3.hs, h3]; simp, b3⟩
  refine solo_goes s3 rfl fun wV eV eT => ?_
  refine goes_oper_k rfl rfl (by k_ne) (fun W hW => ?_)
  have hcell : wV.cell? ⟨w.heap.size + 1 + 1, 0, none⟩ = some (Value.slice none 0 0) := by simp [World.cell?, eV, H3]
  have hfro : wV.frozen? ⟨w.heap.size + 1 + 1, 0, none⟩ = false := by simp [World.frozen?, eV, H3]
  go_simp
  refine hW _ _ ⟨own_set wV _ _ hS3 (fun e he => by have hm := mem_listed he; simp [go_sem, hcell, hfro] at hm; first | exact hm | (rw [events_store _ _ _ _ _ _ rfl, hcell] at hm; simp [hfro] at hm; exact hm)), fun γ4 w4 h4 t4 s4 l4 bX => ?_⟩
  replace h4 : w4.heap = ((w.heap.push (Obj.cells #[Value.slice la n lc] 25)).push (Obj.cells Z 40)).push (.cells #[Value.slice (some ⟨w.heap.size + 1, 0, none⟩) n n] 46) := by
   have hq := heap_set_last (w := wV) (v := Value.slice (some ⟨w.heap.size + 1, 0, none⟩) n n) (A := (w.heap.push (Obj.cells #[Value.slice la n lc] 25)).push (Obj.cells Z 40)) (u := Value.slice none 0 0) (t := 46) (by rw [eV, h3])
   simp only [Array.size_push] at hq
   rw [h4]; exact hq
  replace t4 : w4.tape = w3.tape := t4.trans eT
  clear hW bX
  clear W hcell hfro eV eT
  clear wV
  rw [t3] at t4
  have b4 : γ4.bk (w.heap.size + 2) = .priv 0 := (l4.bk _ hS3.1).trans b3
  have m4 := l4
  replace l4 := l3.trans l4
  have hg : γ4.tag 0 ≠ .gone := s4.ng
  try walk_nrm
  refine lives_ctl rfl hg (fun _ => stepG_region_end) ?_
  refine lives_ctl rfl hg (fun _ => stepG_seq) ?_
  refine lives_ctl rfl hg (fun _ => stepG_region) ?_
  simp only [List.size_toArray, List.length_cons, List.length_nil, Nat.reduceAdd, Nat.zero_add, List.range, List.range.loop]
  have hs0 := s0.hs
  have H4 : w4.heap[w.heap.size]? = some (.cells #[.slice la n lc] 25 (0, 0)) := by
   rw [h4]
   simp only [Array.getElem?_push, Array.size_push]
   repeat (first | rw [if_neg (by omega)] | rw [if_pos (by omega)])
   try simp
  have H4o : w4.heap[w.heap.size + 2]? = some (.cells #[.slice (some ⟨w.heap.size + 1, 0, none⟩) n n] 46 (0, 0)) := by
   rw [h4]
   simp only [Array.getElem?_push, Array.size_push]
   repeat (first | rw [if_neg (by omega)] | rw [if_pos (by omega)])
   try simp
  have H4z : w4.heap[w.heap.size + 1]? = some (.cells Z 40 (0, 0)) := by
   rw [h4]
   simp only [Array.getElem?_push, Array.size_push]
   repeat (first | rw [if_neg (by omega)] | rw [if_pos (by omega)])
   try simp
  have old4 : ∀ b, b < w.heap.size -> w4.heap[b]? = w.heap[b]? := fun b hb => by
   rw [h4]
   simp only [Array.getElem?_push, Array.size_push]
   repeat rw [if_neg (by omega)]
  have hs4 : γ4.hs = w.heap.size + 3 := by rw [s4.hs, h4]; simp
  have d0 : γ4.bk w.heap.size = .priv 0 := ((m2.trans (m3.trans m4)).bk _ hS1.1).trans b1
  have d1 : γ4.bk (w.heap.size + 1) = .priv 0 := ((m3.trans m4).bk _ (by rw [s2.hs, h2]; simp)).trans b2
  have hS4 : γ4.S 0 w.heap.size := ⟨by omega, d0⟩
  refine lives_read rfl s4.ns (fun γV wV hrl hIV => ?_)
  have hcell : wV.cell? ⟨w.heap.size, 0, none⟩ = some (.slice la n lc) := by rw [World.cell?, (s4.rel hrl).2.1]; simp [H4]
  refine goes_oper_k rfl rfl (by k_ne) (fun W hW => ?_)
  go_simp
  refine hW _ _ ⟨⟨rfl, fun e he => ?_⟩, ?_⟩
  ·have hm := mem_listed he
   simp [go_sem, hcell] at hm
   subst hm
   exact .inl ⟨_, rfl, rfl, .inl (by rw [hrl.S s4.ng]; exact hS4)⟩
  clear hW hcell
  clear W
  clear hrl hIV
  clear γV wV
  try walk_nrm
  refine lives_pure rfl hg (fun wV => ?_)
  refine goes_oper_k rfl rfl (by k_ne) (fun W hW => ?_)
  go_simp
  refine hW _ _ ⟨⟨rfl, no_listed (by simp [go_sem])⟩, ?_⟩
  clear hW
  clear W wV
  try walk_nrm
  refine lives_pure rfl hg (fun wV => ?_)
  refine goes_oper_k rfl rfl (by k_ne) (fun W hW => ?_)
  go_simp
  refine hW _ _ ⟨⟨rfl, no_listed (by simp [go_sem])⟩, ?_⟩
  clear hW
  clear W wV
  try walk_nrm
  refine lives_pure rfl hg (fun wV => ?_)
  refine goes_oper_k rfl rfl (by k_ne) (fun W hW => ?_)
  go_simp
  refine hW _ _ ⟨⟨rfl, no_listed (by simp [go_sem])⟩, ?_⟩
  clear hW
  clear W wV
  try walk_nrm
  obtain ⟨W0, hW0⟩ : ∃ W0 : Nat, m = W0 := ⟨m.toNat, by omega⟩
  subst hW0
  have l4' : Later2 γ γ4 := l4
  refine lives_ctl rfl hg (fun _ => stepG_callv (first := #[]) (caps := #[]) (vs := #[.int .i64 n, .int .i64 W0, .func (.func 31) #[] #[.pointer (some ⟨w.heap.size, 0, none⟩), .pointer (some ⟨w.heap.size + 1 + 1, 0, none⟩)]]) rfl rfl (by k_ne) rfl rfl (by simp [Act.eval]) Tryz.func22 (by kernel_rfl) rfl) ?_
  refine lives_each (out := w.heap.size + 1) (oty := 40) (val := sumVal rows) s4 Tryz.func31 rfl (by kernel_rfl) hn (by omega) (by omega) (by rw [l4'.cnt]; omega) ⟨by omega, d1⟩ ⟨Z, H4z, by rw [hZ]; omega⟩ (fun p γ' w' i hbi hi0 hpn hpo hoty hval hkd hfix hhs => ?_) (fun γ9 w9 s9 e1 e2 e3 e4 e5 e6 => ?_)
  ·refine sums_job (Hw := snapW γ4 (w.heap.size + 1) w4) (rows := rows) (snap_snap s4.hs hfix) (sums_in (lc := lc) (hmem.keeps (snap_keeps l4'.bk hs0 (fun b hb => old4 b (by omega)) (by omega))) hpn hn hval hoty ?_ ?_) hkd hbi hi0 (by omega)
   ·refine snap_cell_of d0 (by omega) ?_
    simp [World.cell?, H4]
   ·rw [hpo]
    refine snap_cell_of (b := w.heap.size + 2) b4 (by omega) ?_
    simp [World.cell?, H4o]
  ·have H9 : w9.heap[w.heap.size + 1 + 1]? = some (.cells #[.slice (some ⟨w.heap.size + 1, 0, none⟩) n n] 46 (0, 0)) := (e4 (w.heap.size + 2) (by omega) b4 (by omega)).trans H4o
   have hS9 : γ9.S 0 (w.heap.size + 1 + 1) := ⟨by omega, (e3 (w.heap.size + 2) (by omega)).trans b4⟩
   rw [Frame.finish_at]
   clear hg
   have hg : γ9.tag 0 ≠ .gone := s9.ng
   walk_nrm
   refine lives_ctl rfl hg (fun _ => stepG_region_end) ?_
   refine lives_ctl rfl hg (fun _ => stepG_seq) ?_
   refine lives_ctl rfl hg (fun _ => stepG_region) ?_
   simp only [List.size_toArray, List.length_cons, List.length_nil, Nat.reduceAdd, Nat.zero_add, List.range, List.range.loop]
   refine lives_read rfl s9.ns (fun γV wV hrl hIV => ?_)
   have hcell : wV.cell? ⟨w.heap.size + 1 + 1, 0, none⟩ = some (.slice (some ⟨w.heap.size + 1, 0, none⟩) n n) := by rw [World.cell?, (s9.rel hrl).2.1]; simp [H9]
   refine goes_oper_k rfl rfl (by k_ne) (fun W hW => ?_)
   go_simp
   refine hW _ _ ⟨⟨rfl, fun e he => ?_⟩, ?_⟩
   ·have hm := mem_listed he
    simp [go_sem, hcell] at hm
    subst hm
    exact .inl ⟨_, rfl, rfl, .inl (by rw [hrl.S s9.ng]; exact hS9)⟩
   clear hW hcell
   clear W
   clear hrl hIV
   clear γV wV
   try walk_nrm
   refine lives_pure rfl hg (fun wV => ?_)
   refine goes_oper_k rfl rfl (by k_ne) (fun W hW => ?_)
   go_simp
   refine hW _ _ ⟨⟨rfl, no_listed (by simp [go_sem])⟩, ?_⟩
   clear hW
   clear W wV
   try walk_nrm
   refine lives_pure rfl hg (fun wV => ?_)
   refine goes_oper_k rfl rfl (by k_ne) (fun W hW => ?_)
   go_simp
   refine hW _ _ ⟨⟨rfl, no_listed (by simp [go_sem])⟩, ?_⟩
   clear hW
   clear W wV
   try walk_nrm
   refine lives_ctl rfl hg (fun _ => stepG_region_end) ?_
   refine lives_ctl rfl hg (fun _ => stepG_ret') ?_
   refine lives_ctl rfl hg (fun _ => stepG_leave (v := .tuple #[.slice (some ⟨w.heap.size + 1, 0, none⟩) n n, .int .i64 0]) rfl rfl Tryz.func15 (by kernel_rfl) (by kernel_rfl)) ?_
   refine hGood W0 rfl (by omega) (by omega) γ9 w9 (w.heap.size + 1) s9 (by omega) (by omega) ((e3 (w.heap.size + 1) (by omega)).trans d1) (by rw [e2, l4'.cnt]) (fun b hb => ?_) (fun b hb hpv => ?_) (e5.trans t4) e6
   ·exact (e3 b (by have := l4'.hs; omega)).trans (l4'.bk b hb)
   ·exact (e4 b (by have := l4'.hs; omega) ((l4'.bk b hb).trans hpv) (by omega)).trans (old4 b (by omega))
 ·have hmb : (!decide (1 <= m) || !decide (m <= 16)) = true := by
   by_cases h1 : 1 <= m
   ·have h2 : ¬ m <= 16 := fun h2 => hm ⟨h1, h2⟩
    simp [h2]
   ·simp [h1]
  simp only [hmb]
  refine lives_ctl rfl hg (fun _ => stepG_cond (t := true) rfl) ?_
  simp only [if_true, if_false, Bool.false_eq_true, ↓reduceIte]
  refine lives_ctl rfl hg (fun _ => stepG_seq) ?_
  refine lives_ctl rfl hg (fun _ => stepG_region) ?_
  simp only [List.size_toArray, List.length_cons, List.length_nil, Nat.reduceAdd, Nat.zero_add, List.range, List.range.loop]
  refine lives_pure rfl hg (fun wV => ?_)
  refine goes_oper_k rfl rfl (by k_ne) (fun W hW => ?_)
  go_simp
  refine hW _ _ ⟨⟨rfl, no_listed (by simp [go_sem])⟩, ?_⟩
  clear hW
  clear W wV
  try walk_nrm
  refine lives_pure rfl hg (fun wV => ?_)
  refine goes_oper_k rfl rfl (by k_ne) (fun W hW => ?_)
  go_simp
  refine hW _ _ ⟨⟨rfl, no_listed (by simp [go_sem])⟩, ?_⟩
  clear hW
  clear W wV
  try walk_nrm
  refine lives_ctl rfl hg (fun _ => stepG_region_end) ?_
  refine lives_ctl rfl hg (fun _ => stepG_ret') ?_
  refine lives_ctl rfl hg (fun _ => stepG_leave (v := .tuple #[.slice none 0 0, .int .i64 2]) rfl rfl Tryz.func15 (by kernel_rfl) (by kernel_rfl)) ?_
  exact hBad hm γ1 w1 s1 l1 (fun b hb => by rw [h1, Array.getElem?_push, if_neg (by have := s0.hs; omega)]) t1
end
end Go.Proofs.YtbicafgmfgdckaaGreatDoor
namespace Go.Proofs.YtbicafgmfgdckaaGreatDoor
open Go Go.Conc
section
variable {P : Program} {G : Nat -> Bool} {fs : List Nat} {K : List Item} {ρ ρ0 : Ren} {F S : Nat -> Prop} {base : List Frame} {R : StopR}
theorem WayA.bind {K K2 : (Nat -> Prop) -> Goroutine -> World -> Prop} {g : Goroutine} {w : World} (h : WayA P F K S g w) (hk : ∀ S g w, K S g w -> WayA P F K2 S g w) : WayA P F K2 S g w := by
 induction h with
 | stop h => exact hk _ _ _ h
 | step hg h _ ih => exact .step hg h ih
def EndsKA (P : Program) (G : Nat -> Bool) (fs : List Nat) (K : List Item) (F : Nat -> Prop) (base : List Frame) (R : StopR) (ρ0 : Ren) (S : Nat -> Prop) (g : Goroutine) (W : World) : Prop :=
 ∃ (x : LSt) (ρ : Ren) (r' : Rec), x.outR R /\ RR P G fs K ρ x.r r' /\ g = Conc.G r'.fr base /\ WR P.globals.size F ρ (re x.w W.tape W.drawn) W /\ (∀ a b, ρ a b -> S b \/ F b) /\ ρ0.le ρ /\ (∀ a b, ρ a b -> a = b) /\ x.w.heap.size = W.heap.size
theorem wayAK_sim (hfs : ∀ f, fs.contains f = true -> okBody P G fs f = true) (hm : ∀ fr w c, R fr w -> fr.mode ≠ .panicking c) (hend : ∀ fr w, R fr w -> fr.mode = .run) {x : LSt} (hacc : Acc (NxtR P R) x) :
  ∀ {ρ : Ren} {r' : Rec} {l' : List Rec} {W : World} {S : Nat -> Prop}, RR P G fs (botK K x.l) ρ x.r r' -> LR P G fs K ρ x.l l' -> WR P.globals.size F ρ (re x.w W.tape W.drawn) W -> (∀ g, G g = true -> ρ g g) -> (∀ a b, ρ a b -> S b \/ F b) -> ρ0.le ρ -> (∀ a b, ρ a b -> a = b) -> x.w.heap.size = W.heap.size ->
   ReachR P [catcher] R x -> ReachR P [] R x ->
   WayA P F (EndsKA P G fs K F base R ρ0) S (Conc.G r'.fr (l'.map Rec.fr ++ base)) W := by
 induction hacc with
 | intro x _ ih => ?_
 intro ρ r' l' W S h hl hw hG hS hle hid hsz hR1 hR2
 by_cases hout : x.outR R
 ·refine .stop ?_
  have e0 := hout.1
  have e : l' = [] := by
   rw [e0] at hl
   cases hl
   rfl
  subst e
  rw [e0] at h
  exact ⟨x, ρ, r', hout, h, rfl, hw, hS, hle, hid, hsz⟩
 have hne : x.r.ret = true -> x.l ≠ [] := fun e1 e2 => by
  obtain ⟨T2, d2, _, n, fr, w1, e, hR⟩ := hR2 (fun _ _ => 0) 0
  cases n with
  | zero => exact hout (zero_out e hR)
  | succ n =>
   rw [e2] at e
   obtain ⟨o, w2, hs⟩ := out_stops h.body e1 (re x.w T2 d2)
   have : runN P (n + 1) (lone x.r.fr (List.map Rec.fr [] ++ []) (re x.w T2 d2)) = .ended o w2 := by
    simp only [List.map_nil, List.append_nil, runN, hs]
   rw [this] at e
   cases e
 have hst : x.r.todo ≠ [] \/ botK K x.l = [] := by
  by_cases e : x.l = []
  ·left
   intro q
   cases hr : x.r.ret with
   | true => exact hne hr e
   | false => exact hout (end_out hend h.body hR2 e q hr)
  ·right
   cases hl2 : x.l with
   | nil => exact absurd hl2 e
   | cons a l => rfl
 have both : ∀ W2, RelyA W W2 -> Both P G fs K F ρ x.r r' x.l l' (re x.w W2.tape W2.drawn) W2 := by
  intro W2 hr
  have hw2 := wr_relyA hw hr
  rcases sim_step hfs h hl hw2 hG hne hst with hb | hd
  ·exact hb
  ·exfalso
   obtain ⟨T2, d2, hT, n, fr, w1, e, hR⟩ := hR1 W2.tape W2.drawn
   have hnd := not_doomedR hm h.body (lr_body hl) hout e hR
   have hw3 : WR P.globals.size F ρ (re x.w T2 d2) (re W2 T2 d2) := hw2.re T2 d2
   rcases sim_step hfs h hl hw3 hG hne hst with hb | hd3
   ·obtain ⟨r1, l1, w1, _, _, _, _, _, ⟨_, _, e0, hmv⟩, _⟩ := hb
    have hst := hmv W2.tape W2.drawn (fun i _ => (hT i).symm) true [catcher]
    rcases hd [catcher] with ⟨v, w4, es, hx⟩ | ⟨o, w4, es, hx⟩
    ·have e1 := hst.symm.trans hx
     simp only [GStep.go.injEq, Conc.G, Goroutine.mk.injEq] at e1
     have e2 := congrArg Frame.mode e1.1.1
     rw [raise_bad] at e2
     simp only [Rec.bad, Rec.fr] at e2
     split at e2 <;> cases e2
    ·have e1 := hst.symm.trans hx
     cases e1
   ·exact hnd hd3
 refine .step rfl (fun W2 hr => ?_) fun W2 g1 W3 es hr hst => ?_
 ·obtain ⟨r1, l1, w1, r1', l1', w1', ρ1, es, b1, b2, b3, b4, b5, b6, b7⟩ := both W2 hr
  exact ⟨_, w1', es, b2 true base, own_of_left hS b6 (fun a b q => (b5.lt a b q).2) b7⟩
 ·obtain ⟨r1, l1, w1, r1', l1', w1', ρ1, es', b1, b2, b3, b4, b5, b6, b7⟩ := both W2 hr
  have e1 := (b2 true base).symm.trans hst
  simp only [GStep.go.injEq] at e1
  obtain ⟨rfl, rfl, rfl⟩ := e1
  have e2 : re w1 w1'.tape w1'.drawn = w1 := by rw [<- b5.tape, <- b5.drawn]; rfl
  obtain ⟨hsz1, hid1⟩ := b6.same (by show x.w.heap.size = W2.heap.size; rw [hr.heap]; exact hsz) hid
  exact ih ⟨r1, l1, w1⟩ ⟨hout, _, _, b1⟩ b3 b4 (by rw [e2]; exact b5) (fun g hg => b6.le _ _ (hG g hg)) (left_grow hS b6 fun a b q => (b5.lt a b q).2) (Ren.le_trans hle b6.le) hid1 hsz1 (reach_moveR hR1 hout b1) (reach_moveR hR2 hout b1)
def SegAA (P : Program) (F : Nat -> Prop) (b : Frame) (k : List Item) (cs : List Frame) (Q : Array Value -> World -> Prop) (ρ : Ren) (S : Nat -> Prop) (g : Goroutine) (W : World) : Prop :=
 ∃ ts ts' ρ1 w1, g = Conc.G (b.at ⟨ts', []⟩ k) cs /\ VsR ρ1 ts ts' /\ (∃ T d, Q ts (re w1 T d)) /\ WR P.globals.size F ρ1 (re w1 W.tape W.drawn) W /\ (∀ a b, ρ1 a b -> S b \/ F b) /\ ρ.le ρ1 /\ (∀ a b, ρ1 a b -> a = b) /\ w1.heap.size = W.heap.size
theorem wayA_seg (hfs : ∀ f, fs.contains f = true -> okBody P G fs f = true) {f : Nat} {fn : Func} (hf : P.funcs[f]? = some fn) (hfi : (P.inits.idxOf? f).isNone = true) {code : Code} (hok : okCode P G fs code = true) {ts ts' : Array Value} {w0 W : World} {b : Frame} {k : List Item} {cs : List Frame} {Q : Array Value -> World -> Prop}
  (hbf : b.fn = f) (hbk : b.kind = .normal)
  (hw : WR P.globals.size F ρ (re w0 W.tape W.drawn) W) (ha : VsR ρ ts ts') (hG : ∀ g, G g = true -> ρ g g) (hS : ∀ a b, ρ a b -> S b \/ F b) (hid : ∀ a b, ρ a b -> a = b) (hsz : w0.heap.size = W.heap.size)
  (hc : ∀ (T : Tape) (d : Nat), code.wp P (fun e a' w' => e = .normal /\ a'.defers = [] /\ Q a'.tmps w') ⟨ts, []⟩ (re w0 T d)) :
  WayA P F (SegAA P F b k cs Q ρ) S (Conc.G (b.at ⟨ts', []⟩ (.code code :: k)) cs) W := by
 have e0 : ∀ (t : Array Value) (kk : List Item), b.at ⟨t, []⟩ kk = Rec.fr ⟨f, t, kk, false⟩ := fun t kk => by
  obtain ⟨b1, b2, b3, b4, b5, b6⟩ := b
  dsimp only at hbf hbk
  subst hbf hbk
  rfl
 rw [e0]
 let R : StopR := fun fr w => fr.todo = [] /\ fr.mode = .run /\ fr.fn = f /\ Q fr.tmps w
 let x : LSt := ⟨⟨f, ts, [.code code], false⟩, [], w0⟩
 have hreach : ∀ base : List Frame, ∀ (T : Tape) (d : Nat), ∃ n fr w1, runN P n (lone x.r.fr (x.l.map Rec.fr ++ base) (re x.w T d)) = .next (lone fr base w1) /\ R fr w1 := by
  intro base T d
  obtain ⟨e, a', w', ⟨rfl, hd, hq⟩, harr⟩ := hc T d b [] base
  rw [e0] at harr
  obtain ⟨n, hn⟩ := harr
  obtain ⟨at1, at2⟩ := a'
  dsimp only at hd hq
  subst hd
  exact ⟨n, _, w', hn, rfl, by rw [e0]; rfl, hbf, hq⟩
 have hacc : Acc (NxtR P R) x := acc_ofR (base := []) fun T d => hreach [] T d
 have hrr : RR P G fs (botK k x.l) ρ x.r ⟨f, ts', .code code :: k, false⟩ := by
  refine ⟨rfl, rfl, rfl, ha, fun it hit => ?_, ?_⟩
  ·simp only [x, List.mem_singleton] at hit
   subst hit
   exact hok
  ·unfold okHead
   rw [hf]
   exact hfi
 have h1 := wayAK_sim (base := cs) (S := S) (W := W) (ρ0 := ρ) (K := k) hfs (fun fr w c h e => by rw [h.2.1] at e; cases e) (fun fr w h => h.2.1) hacc hrr .nil hw hG hS (Ren.le_refl _) hid hsz
  (fun T d => ⟨T, d, fun _ => rfl, hreach [catcher] T d⟩) (fun T d => ⟨T, d, fun _ => rfl, hreach [] T d⟩)
 refine WayA.bind h1 fun S2 g W2 hE => .stop ?_
 obtain ⟨y, ρ1, r', ⟨_, T, d, q1, q2, q3, q4⟩, hr, rfl, hw1, hS1, hle, hid1, hsz1⟩ := hE
 refine ⟨y.r.tmps, r'.tmps, ρ1, y.w, ?_, hr.tmps, ⟨T, d, q4⟩, hw1, hS1, hle, hid1, hsz1⟩
 have t1 : r'.todo = k := by
  have : y.r.todo = [] := q1
  rw [hr.todo, this, List.nil_append]
 have t2 : r'.fn = f := by rw [<- hr.fn]; exact q3
 have t3 : r'.ret = false := by
  rw [<- hr.ret]
  cases hq : y.r.ret with
  | false => rfl
  | true => rw [show y.r.fr.mode = .returning by simp [Rec.fr, hq]] at q2; cases q2
 rw [e0]
 obtain ⟨r1, r2, r3, r4⟩ := r'
 dsimp only at t1 t2 t3
 subst t1 t2 t3
 rfl
end
end Go.Proofs.YtbicafgmfgdckaaGreatDoor
namespace Go.Proofs.YtbicafgmfgdckaaGreatDoor
open Go Go.Conc
section
variable {ty : TypeId} {top : Nat} {γ γ' γ2 : Gho} {w w' w2 : World} {P : Program} {Post : Value -> World -> Prop} {b : Frame} {cs : List Frame}
theorem lives_seg0 {G : Nat -> Bool} {fs : List Nat} (hfs : ∀ f, fs.contains f = true -> okBody P G fs f = true) {f : Nat} {fn : Func} (hf : P.funcs[f]? = some fn) (hfi : (P.inits.idxOf? f).isNone = true) {code : Code} {k : List Item} (hok : okCode P G fs code = true) (hbf : b.fn = f) (hbk : b.kind = .normal)
  (s : Solo γ w) (hgl : P.globals.size <= γ.hs) (T : Nat -> Prop) (hT : ∀ b, T b -> γ.S 0 b /\ ∃ cs t fr, w.heap[b]? = some (.cells cs t fr))
  {ts ts' : Array Value} (ha : VsR (diag T) ts ts') (hG : ∀ g, G g = true -> T g) (Q : Array Value -> World -> Prop)
  (hc : ∀ (Tp : Tape) (d : Nat), code.wp P (fun e a' w' => e = .normal /\ a'.defers = [] /\ Q a'.tmps w') ⟨ts, []⟩ (re (loneW (diag T) T w) Tp d))
  (hK : ∀ γ' w' ts ts' ρ w1, Solo γ' w' -> Later2 γ γ' -> (∀ b, γ.hs <= b -> b < γ'.hs -> γ'.bk b = .priv 0) -> (∀ b, b < γ.hs -> w'.heap[b]? = w.heap[b]?) -> w'.tape = w.tape -> Q ts w1 -> VsR ρ ts ts' -> (diag T).le ρ -> SameN T γ.hs ρ w1 w' -> LV P ty top Post 0 γ' w' (Conc.G (b.at ⟨ts', []⟩ k) cs)) :
  LV P ty top Post 0 γ w (Conc.G (b.at ⟨ts', []⟩ (.code code :: k)) cs) := by
 have h1 := wayA_seg (P := P) (G := G) (fs := fs) (F := T) (S := fun _ => False) (ρ := diag T) (k := k) (cs := cs) (Q := Q) hfs hf hfi hok hbf hbk (w0 := loneW (diag T) T w) (lone_wr s hgl hT) ha (fun g hg => ⟨rfl, hG g hg⟩) (fun a b h => .inr (by obtain ⟨rfl, h⟩ := h; exact h)) (fun a b h => h.1) (lone_size) hc
 refine lives_wayA h1 γ s (fun _ q => q.elim) (fun b hb => (hT b hb).1) fun S' g' w' γ' s' l hnew hold htp hS' hk => ?_
 obtain ⟨ts1, ts1', ρ1, w1, rfl, hv, ⟨Tp, d, hR⟩, hw, hS, hle, hid, _⟩ := hk
 refine hK γ' w' ts1 ts1' ρ1 (re w1 Tp d) s' l hnew (fun b hb => hold b hb fun q => q) htp hR hv hle ?_
 exact same_of (gs := P.globals.size) (w1 := re w1 Tp d) (S := S') hw hid hS (fun b q => (hS' b q).elim (fun q => q.elim) id) fun b q => (hT b q).1.1
end
end Go.Proofs.YtbicafgmfgdckaaGreatDoor
