/- crew.Parts whole. The law CrewCuts: its loop, a lone run. The law's 'lives', main's part. The crew's pact: main returns. For any program. -/
import Derived.Test.YtbicafgmfgdckaaGreatDoorMgBl
import Derived.Test.YtbicafgmfgdckaaGreatDoorMgAl
import Derived.Test.YtbicafgmfgdckaaGreatDoorMgAu
import Derived.Test.YtbicafgmfgdckaaGreatDoorMgBk
import Derived.Test.YtbicafgmfgdckaaGreatDoorMgBg
import Derived.Conc.Own3
namespace Go.Proofs.YtbicafgmfgdckaaGreatDoor
open Go Go.RowKit Go.Conc Go.Conc.Lib Go.ConcR.Gen
theorem good_sh {L M K Wn : Int} (sd : BitVec 32) (h : goodB L M K Wn = true) : ∃ h : CutMath.Sh, h.Good /\ L = h.L /\ M = h.M /\ K = h.K /\ Wn = h.W /\ sd = h.s := by
 obtain ⟨h1, h2, h3, h4, h5, h6, h7⟩ := good_iff.1 h
 exact ⟨⟨L.toNat, M.toNat, K.toNat, Wn.toNat, sd⟩, ⟨by show 1 <= Wn.toNat; omega, by show Wn.toNat <= 63; omega, by show Wn.toNat <= L.toNat; omega, by show L.toNat <= M.toNat; omega, by show M.toNat <= 8192; omega, by show K.toNat <= 20; omega⟩, by show L = (L.toNat : Int); omega, by show M = (M.toNat : Int); omega, by show K = (K.toNat : Int); omega, by show Wn = (Wn.toNat : Int); omega, rfl⟩
section
variable {top : Nat} {γ γ' γ2 : Gho} {w w' w2 : World} {n : Nat} {Post : Value -> World -> Prop}
set_option maxRecDepth 100000 in
set_option maxHeartbeats 8000000 in
theorem lives_parts {L M K Wn m : Int} {sd : BitVec 32} {rows : Txts} {la : Option Addr} {lc : Nat} {cc : Frame} {cs : List Frame} (s0 : Solo γ w) (hn : n <= 1000) (hmem : RowsMem (snapW γ γ.hs w) la n rows) (hshort : ∀ row ∈ rows, row.length <= 100000) (hgl : Tryz.prog.globals.size <= γ.hs) (hcnt : γ.cnt + 17 <= top)
  (hGood : ∀ (h : CutMath.Sh) (W0 : Nat), h.Good -> L = h.L -> M = h.M -> K = h.K -> Wn = h.W -> sd = h.s -> m = W0 -> 1 <= W0 -> W0 <= 16 -> ∀ γ' w' out, Solo γ' w' -> Stays γ w γ' w' -> γ'.cnt <= γ.cnt + 17 -> w'.tape = w.tape -> PartsMade γ' w' h rows out -> LV Tryz.prog wgLink.tWg top Post 0 γ' w' (G (cc.finish (.tuple #[.slice (some ⟨out, 0, none⟩) n n, .int .i64 0])) cs))
  (hBad : (¬ (1 <= m /\ m <= 16) \/ goodB L M K Wn = false) -> ∀ γ' w', Solo γ' w' -> Stays γ w γ' w' -> γ'.cnt <= γ.cnt + 17 -> w'.tape = w.tape -> LV Tryz.prog wgLink.tWg top Post 0 γ' w' (G (cc.finish (.tuple #[.slice none 0 0, .int .i64 2])) cs)) :
  LV Tryz.prog wgLink.tWg top Post 0 γ w (G ((base 6).at ⟨#[shapeV L M K Wn sd, .slice la n lc, .int .i64 m] ++ Array.replicate 33 undef, []⟩ [.code (Tryz.f6.body.getD .skip)]) (cc :: cs)) := by
 have hg : γ.tag 0 ≠ .gone := s0.ng
 unfold shapeV
 simp only [Tryz.f6, Option.getD_some]
 walk_nrm
 refine lives_ctl rfl hg (fun _ => stepG_seq) ?_
 refine lives_ctl rfl hg (fun _ => stepG_region) ?_
 simp only [List.size_toArray, List.length_cons, List.length_nil, Nat.reduceAdd, Nat.zero_add, List.range, List.range.loop]
 refine solo_goes s0 rfl fun wV eV eT => ?_
 refine goes_oper_k rfl rfl (by k_ne) (fun W hW => ?_)
 go_simp
 refine hW _ _ ⟨own_push (w := wV) rfl rfl rfl rfl (no_listed (by simp [go_sem])), fun γ1 w1 h1 t1 s1 l1 b1 => ?_⟩
 replace h1 : w1.heap = (w.heap).push (Obj.cells #[Value.int .i64 L, Value.int .i64 M, Value.int .i64 K, Value.int .i64 Wn, U32 sd] 24) := by rw [h1]; show wV.heap.push _ = _; rw [eV]; try rfl
 replace t1 : w1.tape = w.tape := t1.trans eT
 replace b1 : γ1.bk (w.heap.size) = .priv 0 := b1 _ (by rw [s0.hs]; simp [Nat.add_assoc]) (by show _ < (wV.heap.push _).size; rw [eV]; simp [Nat.add_assoc])
 clear hW
 clear W eV eT
 clear wV
 have hg : γ1.tag 0 ≠ .gone := s1.ng
 try walk_nrm
 refine solo_goes s1 rfl fun wV eV eT => ?_
 refine goes_oper_k rfl rfl (by k_ne) (fun W hW => ?_)
 go_simp
 refine hW _ _ ⟨own_push (w := wV) rfl rfl rfl rfl (no_listed (by simp [go_sem])), fun γ2 w2 h2 t2 s2 l2 b2 => ?_⟩
 replace h2 : w2.heap = (w.heap.push (Obj.cells #[Value.int .i64 L, Value.int .i64 M, Value.int .i64 K, Value.int .i64 Wn, U32 sd] 24)).push (Obj.cells #[Value.slice la n lc] 25) := by rw [h2]; show wV.heap.push _ = _; rw [eV, h1]; try rfl
 replace t2 : w2.tape = w1.tape := t2.trans eT
 replace b2 : γ2.bk (w.heap.size + 1) = .priv 0 := b2 _ (by rw [s1.hs, h1]; simp [Nat.add_assoc]) (by show _ < (wV.heap.push _).size; rw [eV, h1]; simp [Nat.add_assoc])
 clear hW
 clear W eV eT
 clear wV
 rw [t1] at t2
 have m2 := l2
 replace l2 := l1.trans l2
 have hg : γ2.tag 0 ≠ .gone := s2.ng
 try walk_nrm
 refine solo_goes s2 rfl fun wV eV eT => ?_
 refine goes_oper_k rfl rfl (by k_ne) (fun W hW => ?_)
 go_simp
 refine hW _ _ ⟨own_push (w := wV) rfl rfl rfl rfl (no_listed (by simp [go_sem])), fun γ3 w3 h3 t3 s3 l3 b3 => ?_⟩
 replace h3 : w3.heap = ((w.heap.push (Obj.cells #[Value.int .i64 L, Value.int .i64 M, Value.int .i64 K, Value.int .i64 Wn, U32 sd] 24)).push (Obj.cells #[Value.slice la n lc] 25)).push (Obj.cells #[Value.int .i64 m] 3) := by rw [h3]; show wV.heap.push _ = _; rw [eV, h2]; try rfl
 replace t3 : w3.tape = w2.tape := t3.trans eT
 replace b3 : γ3.bk (w.heap.size + 2) = .priv 0 := b3 _ (by rw [s2.hs, h2]; simp [Nat.add_assoc]) (by show _ < (wV.heap.push _).size; rw [eV, h2]; simp [Nat.add_assoc])
 clear hW
 clear W eV eT
 clear wV
 rw [t2] at t3
 have m3 := l3
 replace l3 := l2.trans l3
 have hg : γ3.tag 0 ≠ .gone := s3.ng
 try walk_nrm
 refine lives_pure rfl hg (fun wV => ?_)
 refine goes_oper_k rfl rfl (by k_ne) (fun W hW => ?_)
 go_simp
 refine hW _ _ ⟨⟨rfl, no_listed (by simp [go_sem])⟩, ?_⟩
 clear hW
 clear W wV
 try walk_nrm
 refine lives_pure rfl hg (fun wV => ?_)
 refine goes_oper_k rfl rfl (by k_ne) (fun W hW => ?_)
 go_simp
 refine hW _ _ ⟨⟨rfl, no_listed (by simp [go_sem])⟩, ?_⟩
 clear hW
 clear W wV
 try walk_nrm
 refine lives_ctl rfl hg (fun _ => stepG_region_end) ?_
 refine lives_ctl rfl hg (fun _ => stepG_seq) ?_
 refine lives_ctl rfl hg (fun _ => stepG_seq) ?_
 refine lives_ctl rfl hg (fun _ => stepG_region) ?_
 simp only [List.size_toArray, List.length_cons, List.length_nil, Nat.reduceAdd, Nat.zero_add, List.range, List.range.loop]
 have hs0 := s0.hs
 have H3s : w3.heap[w.heap.size]? = some (Obj.cells #[Value.int .i64 L, Value.int .i64 M, Value.int .i64 K, Value.int .i64 Wn, U32 sd] 24) := by
  rw [h3]
  simp only [Array.getElem?_push, Array.size_push]
  repeat (first | rw [if_neg (by omega)] | rw [if_pos (by omega)])
  try simp
 have H3l : w3.heap[w.heap.size + 1]? = some (Obj.cells #[Value.slice la n lc] 25) := by
  rw [h3]
  simp only [Array.getElem?_push, Array.size_push]
  repeat (first | rw [if_neg (by omega)] | rw [if_pos (by omega)])
  try simp
 have H3w : w3.heap[w.heap.size + 1 + 1]? = some (Obj.cells #[Value.int .i64 m] 3) := by
  rw [h3]
  simp only [Array.getElem?_push, Array.size_push]
  repeat (first | rw [if_neg (by omega)] | rw [if_pos (by omega)])
  try simp
 have old3 : ∀ b, b < w.heap.size -> w3.heap[b]? = w.heap[b]? := fun b hb => by
  rw [h3]
  simp only [Array.getElem?_push, Array.size_push]
  repeat rw [if_neg (by omega)]
 have hs3 : γ3.hs = w.heap.size + 3 := by rw [s3.hs, h3]; simp
 have d1 : γ3.bk w.heap.size = .priv 0 := ((m2.trans m3).bk _ (by rw [s1.hs, h1]; simp)).trans b1
 have d2 : γ3.bk (w.heap.size + 1) = .priv 0 := (m3.bk _ (by rw [s2.hs, h2]; simp)).trans b2
 have d3 : γ3.bk (w.heap.size + 1 + 1) = .priv 0 := b3
 have hSs : γ3.S 0 w.heap.size := ⟨by omega, d1⟩
 have hSw : γ3.S 0 (w.heap.size + 1 + 1) := ⟨by omega, d3⟩
 have l3' : Later2 γ γ3 := l3
 have st3 : Stays γ w γ3 w3 := .of l3' fun b hb => old3 b (by omega)
 refine lives_read rfl s3.ns (fun γV wV hrl hIV => ?_)
 have hcell : wV.cell? ⟨w.heap.size + 1 + 1, 0, none⟩ = some (.int .i64 m) := by rw [World.cell?, (s3.rel hrl).2.1]; simp [H3w]
 refine goes_oper_k rfl rfl (by k_ne) (fun W hW => ?_)
 go_simp
 refine hW _ _ ⟨⟨rfl, fun e he => ?_⟩, ?_⟩
 ·have hm := mem_listed he
  simp [go_sem, hcell] at hm
  subst hm
  exact .inl ⟨_, rfl, rfl, .inl (by rw [hrl.S s3.ng]; exact hSw)⟩
 clear hW hcell
 clear W
 clear hrl hIV
 clear γV wV
 try walk_nrm
 refine lives_ctl rfl hg (fun _ => stepG_callv (first := #[]) (caps := #[]) (vs := #[.int .i64 m]) rfl rfl (by k_ne) rfl rfl (by simp [Act.eval]) Tryz.func19 (by kernel_rfl) rfl) ?_
 refine lives_right hg ?_
 rw [Frame.finish_at]
 walk_nrm
 refine lives_pure rfl hg (fun wV => ?_)
 refine goes_oper_k rfl rfl (by k_ne) (fun W hW => ?_)
 go_simp
 refine hW _ _ ⟨⟨rfl, no_listed (by simp [go_sem])⟩, ?_⟩
 clear hW
 clear W wV
 try walk_nrm
 refine lives_ctl rfl hg (fun _ => stepG_region_end) ?_
 by_cases hm : 1 <= m /\ m <= 16
 ·have hmb : (!decide (1 <= m) || !decide (m <= 16)) = false := by simp [hm.1, hm.2]
  simp only [hmb]
  refine lives_ctl rfl hg (fun _ => stepG_cond (t := false) rfl) ?_
  simp only [if_true, if_false, Bool.false_eq_true, ↓reduceIte]
  refine lives_ctl rfl hg (fun _ => stepG_skip) ?_
  refine lives_ctl rfl hg (fun _ => stepG_seq) ?_
  refine lives_ctl rfl hg (fun _ => stepG_seq) ?_
  refine lives_ctl rfl hg (fun _ => stepG_region) ?_
  simp only [List.size_toArray, List.length_cons, List.length_nil, Nat.reduceAdd, Nat.zero_add, List.range, List.range.loop]
  refine lives_read rfl s3.ns (fun γV wV hrl hIV => ?_)
  have hcell0 : wV.cell? ⟨w.heap.size, 0, none⟩ = some (.int .i64 L) := by rw [World.cell?, (s3.rel hrl).2.1]; simp [H3s]
  have hcell1 : wV.cell? ⟨w.heap.size, 1, none⟩ = some (.int .i64 M) := by rw [World.cell?, (s3.rel hrl).2.1]; simp [H3s]
  have hcell2 : wV.cell? ⟨w.heap.size, 2, none⟩ = some (.int .i64 K) := by rw [World.cell?, (s3.rel hrl).2.1]; simp [H3s]
  have hcell3 : wV.cell? ⟨w.heap.size, 3, none⟩ = some (.int .i64 Wn) := by rw [World.cell?, (s3.rel hrl).2.1]; simp [H3s]
  have hcell4 : wV.cell? ⟨w.heap.size, 4, none⟩ = some (U32 sd) := by rw [World.cell?, (s3.rel hrl).2.1]; simp [H3s]
  refine goes_oper_k rfl rfl (by k_ne) (fun W hW => ?_)
  go_simp
  refine hW _ _ ⟨⟨rfl, fun e he => ?_⟩, ?_⟩
  ·have hm := mem_listed he
   simp [go_sem, hcell0, hcell1, hcell2, hcell3, hcell4] at hm
   rcases hm with rfl | rfl | rfl | rfl | rfl <;> exact .inl ⟨_, rfl, rfl, .inl (by rw [hrl.S s3.ng]; exact hSs)⟩
  clear hW hcell0 hcell1 hcell2 hcell3 hcell4
  clear W
  clear hrl hIV
  clear γV wV
  try walk_nrm
  refine lives_ctl rfl hg (fun _ => stepG_callE rfl rfl (by k_ne) rfl (vs := #[shapeV L M K Wn sd]) (by simp [Act.eval, shapeV]) Tryz.func20 (by kernel_rfl) (by kernel_rfl)) ?_
  refine lives_check s3 (by omega) fun γ4 w4 A => ?_
  have s4 := A.solo
  have st4 := st3.trans A.stays
  have tp4 : w4.tape = w.tape := A.tape.trans t3
  have cn4 : γ4.cnt = γ.cnt := A.later.cnt.trans l3'.cnt
  rw [Frame.finish_at]
  clear hg
  have hg : γ4.tag 0 ≠ .gone := s4.ng
  walk_nrm
  cases hgb : goodB L M K Wn with
  | true =>
   simp only [if_true]
   refine lives_pure rfl hg (fun wV => ?_)
   refine goes_oper_k rfl rfl (by k_ne) (fun W hW => ?_)
   go_simp
   refine hW _ _ ⟨⟨rfl, no_listed (by simp [go_sem])⟩, ?_⟩
   clear hW
   clear W wV
   try walk_nrm
   refine lives_ctl rfl hg (fun _ => stepG_region_end) ?_
   refine lives_ctl rfl hg (fun _ => stepG_seq) ?_
   refine lives_ctl rfl hg (fun _ => stepG_region) ?_
   simp only [List.size_toArray, List.length_cons, List.length_nil, Nat.reduceAdd, Nat.zero_add, List.range, List.range.loop]
   refine lives_pure rfl hg (fun wV => ?_)
   refine goes_oper_k rfl rfl (by k_ne) (fun W hW => ?_)
   go_simp
   refine hW _ _ ⟨⟨rfl, no_listed (by simp [go_sem])⟩, ?_⟩
   clear hW
   clear W wV
   try walk_nrm
   refine lives_pure rfl hg (fun wV => ?_)
   refine goes_oper_k rfl rfl (by k_ne) (fun W hW => ?_)
   go_simp
   refine hW _ _ ⟨⟨rfl, no_listed (by simp [go_sem])⟩, ?_⟩
   clear hW
   clear W wV
   try walk_nrm
   refine lives_ctl rfl hg (fun _ => stepG_region_end) ?_
   refine lives_ctl rfl hg (fun _ => stepG_cond (t := false) rfl) ?_
   simp only [if_true, if_false, Bool.false_eq_true, ↓reduceIte]
   refine lives_ctl rfl hg (fun _ => stepG_skip) ?_
   obtain ⟨h, hG, e1, e2, e3, e4, e5⟩ := good_sh sd hgb
   obtain ⟨W0, hW0⟩ : ∃ W0 : Nat, m = W0 := ⟨m.toNat, by omega⟩
   have fact : ∀ {b : Nat} {cs : Array Value} {t : TypeId}, b < γ3.hs -> γ3.bk b = .priv 0 -> w3.heap[b]? = some (.cells cs t (0, 0)) -> Fact 0 γ4 w4 b (.priv 0) (.cells cs t (0, 0)) := fun h1 h2 h3 => ⟨Nat.lt_of_lt_of_le h1 A.stays.hs, (A.stays.bk _ h1).trans h2, (A.stays.heap _ h1 h2).trans h3⟩
   have f1 := fact (by omega) d1 H3s
   have f2 := fact (by omega) d2 H3l
   have f3 := fact (by omega) d3 H3w
   have hm4 := hmem.keeps (snap_keeps2 (γ' := γ4) (w' := w4) (out' := γ4.hs) (fun b hb q => (st4.bk b hb).trans q) hs0 (fun b hb q => st4.heap b hb q) st4.hs)
   subst e1 e2 e3 e4 e5 hW0
   have hT := fun v0 v2 v6 v7 v8 v12 v13 v14 v15 v16 v17 v18 => lives_parts2 (v0 := v0) (v2 := v2) (v6 := v6) (v7 := v7) (v8 := v8) (v12 := v12) (v13 := v13) (v14 := v14) (v15 := v15) (v16 := v16) (v17 := v17) (v18 := v18) (top := top) (Post := Post) (cc := cc) (cs := cs) hG s4 hn hm4 hshort f1 f2 f3 (by omega) (by omega) (by omega) (Nat.le_trans hgl st4.hs) (fun γ' w' out s5 q1 q2 q3 q4 q5 q6 => hGood h W0 hG rfl rfl rfl rfl rfl rfl (by omega) (by omega) γ' w' out s5 (st4.trans ⟨q1, q3, q4⟩) (by omega) (q5.trans tp4) q6)
   simp only [partsTail, Tryz.f6, Option.getD_some] at hT
   exact hT _ _ _ _ _ _ _ _ _ _ _ _
  | false =>
   simp only [Bool.false_eq_true, if_false]
   refine lives_pure rfl hg (fun wV => ?_)
   refine goes_oper_k rfl rfl (by k_ne) (fun W hW => ?_)
   go_simp
   refine hW _ _ ⟨⟨rfl, no_listed (by simp [go_sem])⟩, ?_⟩
   clear hW
   clear W wV
   try walk_nrm
   refine lives_ctl rfl hg (fun _ => stepG_region_end) ?_
   refine lives_ctl rfl hg (fun _ => stepG_seq) ?_
   refine lives_ctl rfl hg (fun _ => stepG_region) ?_
   simp only [List.size_toArray, List.length_cons, List.length_nil, Nat.reduceAdd, Nat.zero_add, List.range, List.range.loop]
   refine lives_pure rfl hg (fun wV => ?_)
   refine goes_oper_k rfl rfl (by k_ne) (fun W hW => ?_)
   go_simp
   refine hW _ _ ⟨⟨rfl, no_listed (by simp [go_sem])⟩, ?_⟩
   clear hW
   clear W wV
   try walk_nrm
   refine lives_pure rfl hg (fun wV => ?_)
   refine goes_oper_k rfl rfl (by k_ne) (fun W hW => ?_)
   go_simp
   refine hW _ _ ⟨⟨rfl, no_listed (by simp [go_sem])⟩, ?_⟩
   clear hW
   clear W wV
   try walk_nrm
   refine lives_ctl rfl hg (fun _ => stepG_region_end) ?_
   refine lives_ctl rfl hg (fun _ => stepG_cond (t := true) rfl) ?_
   simp only [if_true, if_false, Bool.false_eq_true, ↓reduceIte]
   refine lives_ctl rfl hg (fun _ => stepG_seq) ?_
   refine lives_ctl rfl hg (fun _ => stepG_region) ?_
   simp only [List.size_toArray, List.length_cons, List.length_nil, Nat.reduceAdd, Nat.zero_add, List.range, List.range.loop]
   refine lives_pure rfl hg (fun wV => ?_)
   refine goes_oper_k rfl rfl (by k_ne) (fun W hW => ?_)
   go_simp
   refine hW _ _ ⟨⟨rfl, no_listed (by simp [go_sem])⟩, ?_⟩
   clear hW
   clear W wV
   try walk_nrm
   refine lives_pure rfl hg (fun wV => ?_)
   refine goes_oper_k rfl rfl (by k_ne) (fun W hW => ?_)
   go_simp
   refine hW _ _ ⟨⟨rfl, no_listed (by simp [go_sem])⟩, ?_⟩
   clear hW
   clear W wV
   try walk_nrm
   refine lives_pure rfl hg (fun wV => ?_)
   refine goes_oper_k rfl rfl (by k_ne) (fun W hW => ?_)
   go_simp
   refine hW _ _ ⟨⟨rfl, no_listed (by simp [go_sem])⟩, ?_⟩
   clear hW
   clear W wV
   try walk_nrm
   refine lives_ctl rfl hg (fun _ => stepG_region_end) ?_
   refine lives_ctl rfl hg (fun _ => stepG_ret') ?_
   refine lives_ctl rfl hg (fun _ => stepG_leave (v := .tuple #[.slice none 0 0, .int .i64 2]) rfl rfl Tryz.func6 (by kernel_rfl) (by kernel_rfl)) ?_
   exact hBad (.inr hgb) γ4 w4 s4 st4 (by omega) tp4
 ·have hmb : (!decide (1 <= m) || !decide (m <= 16)) = true := by
   by_cases h1 : 1 <= m
   ·have h2 : ¬ m <= 16 := fun h2 => hm ⟨h1, h2⟩
    simp [h2]
   ·simp [h1]
  simp only [hmb]
  refine lives_ctl rfl hg (fun _ => stepG_cond (t := true) rfl) ?_
  simp only [if_true, if_false, Bool.false_eq_true, ↓reduceIte]
  refine lives_ctl rfl hg (fun _ => stepG_seq) ?_
  refine lives_ctl rfl hg (fun _ => stepG_region) ?_
  simp only [List.size_toArray, List.length_cons, List.length_nil, Nat.reduceAdd, Nat.zero_add, List.range, List.range.loop]
  refine lives_pure rfl hg (fun wV => ?_)
  refine goes_oper_k rfl rfl (by k_ne) (fun W hW => ?_)
  go_simp
  refine hW _ _ ⟨⟨rfl, no_listed (by simp [go_sem])⟩, ?_⟩
  clear hW
  clear W wV
  try walk_nrm
  refine lives_pure rfl hg (fun wV => ?_)
  refine goes_oper_k rfl rfl (by k_ne) (fun W hW => ?_)
  go_simp
  refine hW _ _ ⟨⟨rfl, no_listed (by simp [go_sem])⟩, ?_⟩
  clear hW
  clear W wV
  try walk_nrm
  refine lives_ctl rfl hg (fun _ => stepG_region_end) ?_
  refine lives_ctl rfl hg (fun _ => stepG_ret') ?_
  refine lives_ctl rfl hg (fun _ => stepG_leave (v := .tuple #[.slice none 0 0, .int .i64 2]) rfl rfl Tryz.func6 (by kernel_rfl) (by kernel_rfl)) ?_
  exact hBad (.inl hm) γ3 w3 s3 st3 (by have := l3'.cnt; omega) t3
end
end Go.Proofs.YtbicafgmfgdckaaGreatDoor
namespace Go.Proofs.YtbicafgmfgdckaaGreatDoor
open Go Go.RowKit
noncomputable def cutsLoop : Code := match Tryz.f3.body.getD .skip with
 | .seq _ (.seq _ (.seq _ (.seq _ (.seq _ (.seq c _))))) => c
 | _ => .skip
noncomputable def cutsTail : Code := match Tryz.f3.body.getD .skip with
 | .seq _ (.seq _ (.seq _ (.seq _ (.seq _ (.seq _ c))))) => c
 | _ => .skip
def PartRows (w : World) (h : CutMath.Sh) (rows : Txts) (out : Nat) : Prop :=
 ∀ x, x < rows.length -> ∃ a cap, w.cell? ⟨out, x, none⟩ = some (.slice a (partsOf h (txt rows x)).length cap) /\ RowsC partC 33 w a cap (partsOf h (txt rows x))
def CutsRel (w : World) (n : Nat) (x : Value) (wr : World) : Prop := ∃ i : Nat, i <= n /\ x = .int .i64 i /\ Below w.heap.size w wr
set_option maxRecDepth 100000 in
set_option maxHeartbeats 8000000 in
theorem cuts_loop {h : CutMath.Sh} {rows : Txts} {la : Option Addr} {lc n SB out : Nat} {v0 v2 v4 v5 v6 v8 v9 v10 v11 v12 v13 v14 v15 v16 v17 v18 v19 v20 v21 v22 v23 v24 v25 v26 v27 v28 v29 v30 v31 v32 v33 v34 v35 v36 v37 v38 v39 v40 v41 v42 v43 v44 v45 v46 v47 v48 v49 v50 v51 v52 v53 v54 v55 v56 v57 v58 v59 v60 v61 v62 v63 v64 : Value} (g : h.Good) (w : World) (hn : n = rows.length) (hT : Texts w la lc rows) (hsh : ∀ r ∈ rows, r.length <= 100000) (hP : PartRows w h rows out)
  (c0 : w.cell? ⟨SB, 0, none⟩ = some (.int .i64 h.L)) (c1 : w.cell? ⟨SB, 1, none⟩ = some (.int .i64 h.M)) (c2 : w.cell? ⟨SB, 2, none⟩ = some (.int .i64 h.K)) (c3 : w.cell? ⟨SB, 3, none⟩ = some (.int .i64 h.W)) (c4 : w.cell? ⟨SB, 4, none⟩ = some (U32 h.s)) (hn2 : n <= 100000) :
  cutsLoop.wp Tryz.prog (fun e a' _ => e = .normal /\ a'.defers = [] /\ a'.tmps.size = 65) ⟨#[v0, .slice la n lc, v2, .pointer (some ⟨SB, 0, none⟩), v4, v5, v6, .slice (some ⟨out, 0, none⟩) n n, v8, v9, v10, v11, v12, v13, v14, v15, v16, v17, v18, v19, v20, v21, v22, v23, v24, v25, v26, v27, v28, v29, v30, v31, v32, v33, v34, v35, v36, v37, v38, v39, v40, v41, v42, v43, v44, v45, v46, v47, v48, v49, v50, v51, v52, v53, v54, v55, v56, v57, v58, v59, v60, v61, v62, v63, v64], []⟩ w := by
 subst hn
 have hfit := hT.fits
 have hroom := hT.room
 have HT := Lib.hid hT
 have HS := Lib.hid hsh
 have HP := Lib.hid hP
 have C0 := Lib.hid c0
 have C1 := Lib.hid c1
 have C2 := Lib.hid c2
 have C3 := Lib.hid c3
 have C4 := Lib.hid c4
 clear hT hsh hP c0 c1 c2 c3 c4
 unfold cutsLoop
 simp only [Tryz.f3, Option.getD_some]
 go_wp2_with fail
 go_loopw [9] (fun y wr => CutsRel w rows.length y wr) (fun y _ => rows.length - (intOf y).toNat)
 case atStart => exact ⟨0, Nat.zero_le _, rfl, Below.refl _ _⟩
 case round =>
  obtain ⟨i, hi, rfl, hbr⟩ := hrel
  by_cases hlt : i < rows.length
  ·obtain ⟨b, off, rfl, hrows⟩ := HT.out.rows.resolve_left (fun e => by rw [e] at hlt; simp at hlt)
   obtain ⟨x, c, hcell, hreads⟩ := hrows i hlt
   obtain ⟨pa, pc, hpc, hpr⟩ := HP.out i hlt
   have hsz := hbr.size
   have c0 : ∀ y : Later w, y.to.cell? _ = _ := fun y => Keeps.below y.below _ _ C0.out
   have c1 : ∀ y : Later w, y.to.cell? _ = _ := fun y => Keeps.below y.below _ _ C1.out
   have c2 : ∀ y : Later w, y.to.cell? _ = _ := fun y => Keeps.below y.below _ _ C2.out
   have c3 : ∀ y : Later w, y.to.cell? _ = _ := fun y => Keeps.below y.below _ _ C3.out
   have c4 : ∀ y : Later w, y.to.cell? _ = _ := fun y => Keeps.below y.below _ _ C4.out
   have c5 : ∀ y : Later w, y.to.cell? _ = _ := fun y => Keeps.below y.below _ _ hcell
   have c6 : ∀ y : Later w, y.to.cell? _ = _ := fun y => Keeps.below y.below _ _ hpc
   have hmlen : (txt rows i).length <= 100000 := by rw [txt_lt hlt]; exact HS.out _ (List.getElem_mem hlt)
   have hb1 := hbr.drew
   have RP := refParts_any h g x c (txt rows i) wr.drew (hreads.keeps (Keeps.below hb1)) hmlen
   have HPR := Lib.hid hpr
   have HBR := Lib.hid hbr
   have hkl := partsOf_len h (txt rows i)
   have HKL := Lib.hid hkl
   clear hcell hpc hreads hrows hpr hbr hkl hsz hmlen
   generalize partsOf h (txt rows i) = PL at *
   generalize txt rows i = mm at *
   unfold shV shapeV at *
   go_wp2_with fail
   refine wp_region_plan [([0, 1, 2, 3, 4, 5, 6, 7, 8], some 9), ([], some 10), ([11], none)] (fun w' => ∃ y : Later w, w' = y.to) (by kernel_rfl) (by kernel_rfl) (fun c _ _ _ _ h => by have q : (Exit.panic c = Exit.normal /\ _) := h; cases q.1) (later_of hb1) ?_
   refine plan_some (show wpQuiet _ _ _ _ (_ :: _ :: _ :: _ :: _ :: _ :: _ :: _ :: _ :: []) _ from ?_)
   repeat (go_big_quiet_step (fail))
   refine wpQuiet_nil (show wpList _ _ _ (_ :: []) _ _ from ?_)
   have HB1 := Lib.hid hb1
   clear hb1
   generalize wr.drew = w3 at *
   go_wp2_with fail
   refine RP.mono ?_
   rintro e w4 ⟨v, rfl, ho, hb4⟩
   obtain ⟨va, vc, rfl, hvr, _⟩ := ho.form
   have HB4 := Lib.hid (HB1.out.trans (hb4.mono HB1.out.size))
   have SP := sameParts_any w4 pa va pc vc PL HKL.out (HPR.out.below HB4.out) hvr
   clear ho hb4 RP hvr
   go_wp2_with fail
   refine late_normal (fun _ h => h) (later_of HB4.out) ?_
   refine plan_some (show wpQuiet _ _ _ _ [] _ from ?_)
   refine wpQuiet_nil (show wpList _ _ _ (_ :: []) _ _ from ?_)
   go_wp2_with fail
   refine SP.mono ?_
   rintro e w5 ⟨rfl, hb5⟩
   have HB5 := Lib.hid (HB4.out.trans (hb5.mono HB4.out.size))
   clear hb5 SP
   go_wp2_with fail
   refine late_normal (fun _ h => h) (later_of HB5.out) ?_
   refine plan_none (show wpQuiet _ _ _ _ (_ :: []) _ from ?_)
   repeat (go_big_quiet_step (fail))
   refine wpQuiet_nil (plan_nil ?_)
   clear c0 c1 c2 c3 c4 c5 c6
   go_wp2
   go_roundw
   case rel => exact ⟨i + 1, by omega, by go_num, HB5.out⟩
   case measure => simp [intOf]; omega
  ·obtain rfl : i = rows.length := by omega
   clear hbr
   go_wp2_with fail
   try rfl
end Go.Proofs.YtbicafgmfgdckaaGreatDoor
namespace Go.Proofs.YtbicafgmfgdckaaGreatDoor
open Go Go.RowKit Go.Conc Go.Conc.Lib Go.ConcR.Gen
def abc : List (BitVec 8) := [97, 98, 99]
theorem abc_sum : byteAt (Sha.sum abc) 0 = 186 := by kernel_rfl
noncomputable def tail9 : Code := match Tryz.f9.body.getD .skip with
 | .seq _ (.seq _ c) => c
 | _ => .skip
def ts9 (x y sv e : Value) : Array Value := #[.bool false, sv, e, .tuple #[sv, e], x, x, y, .tuple #[sv, e], sv, e] ++ Array.replicate 14 undef
theorem ts9_vr {ρ : Ren} {x y sv e : Value} (h1 : VR ρ x x) (h2 : VR ρ y y) (h3 : VR ρ sv sv) (h4 : VR ρ e e) : VsR ρ (ts9 x y sv e) (ts9 x y sv e) := by
 have ht : VR ρ (.tuple #[sv, e]) (.tuple #[sv, e]) := .tuple rfl (vs_cons h3 (vs_cons h4 vs_nil)).at_
 refine VsR.append (vs_cons (.bool _) (vs_cons h3 (vs_cons h4 (vs_cons ht (vs_cons h1 (vs_cons h1 (vs_cons h2 (vs_cons ht (vs_cons h3 (vs_cons h4 vs_nil)))))))))) ⟨rfl, fun i h1 h2 => ?_⟩
 simp only [Array.getElem_replicate]
 exact vr_undef
theorem livesTail_any (x y : Value) (oa : Option Addr) (oc : Nat) (w : World) (hS : RowsC keyC 32 w oa oc [Sha.sum abc]) :
  tail9.wp Tryz.prog (bodyPost Tryz.prog Tryz.f9 fun e w' => ∃ v, e = .returned v /\ v = .bool true) ⟨ts9 x y (.slice oa 1 oc) (.int .i64 0), []⟩ w := by
 have hcap := hS.fits
 have hroom := hS.room
 obtain ⟨b, off, rfl, hrow⟩ := hS.rows.resolve_left (by simp)
 have h0 := hrow 0 (by simp)
 have hc : w.cell? ⟨b, off + 0 * 32 + 0, none⟩ = some (.int .u8 186) := by
  refine h0 0 _ ?_
  show (keyC (Sha.sum abc))[0]? = _
  have h1 := abc_sum
  have h2 : 0 < (Sha.sum abc).length := by rw [sum_length]; decide
  rw [byteAt_lt h2] at h1
  simp [keyC, List.getElem?_eq_getElem h2, h1, U8]
 simp only [Nat.zero_mul, Nat.add_zero] at hc
 clear hrow h0 hS
 obtain ⟨fn, hfn⟩ : ∃ fn, fn = Tryz.f9 := ⟨_, rfl⟩
 rw [<- hfn]
 have HFN := Lib.hid hfn
 clear hfn
 simp only [tail9, ts9, Tryz.f9, Option.getD_some, Array.replicate_succ, Array.replicate_zero, List.push_toArray, List.append_toArray, List.nil_append, List.cons_append]
 go_wp2
 obtain rfl := HFN.out
 go_ret
 exact ⟨_, rfl, rfl⟩
theorem conv_at {P : Program} (W : World) (t e : TypeId) (A : Array Obj) (cs : Array Value) (E : TypeId) (len cap : Nat) (hW : W.heap = A.push (.cells cs E)) (hs : P.underlying t = some (.slice e)) (he : P.underlying e = some (.int .u8)) :
  (convert t t (.slice (some ⟨A.size, 0, none⟩) len cap)).run P W = .ok (.slice (some ⟨A.size, 0, none⟩) len cap) { W with heap := A.push (.cells cs E (cs.size, cs.size + 1)) } := by
 have hsh : W.shape? A.size = some (E, cs.size) := by
  unfold World.shape?; rw [hW]; simp
 have hf : W.freeze ⟨A.size, cs.size, none⟩ 1 = { W with heap := A.push (.cells cs E (cs.size, cs.size + 1)) } := by
  have : W.heap.modify A.size (fun | .cells c elem (lo, hi) => .cells c elem (if lo == hi then (cs.size, cs.size + 1) else (min lo cs.size, max hi (cs.size + 1))) | o => o) = A.push (.cells cs E (cs.size, cs.size + 1)) := by
   rw [hW]
   apply Array.ext_getElem?
   intro i
   rw [Array.getElem?_modify, Array.getElem?_push, Array.getElem?_push]
   by_cases h : i = A.size
   ·subst h; simp
   ·simp [h, Ne.symm h]
  unfold World.freeze
  rw [if_neg (by decide)]
  exact congrArg (fun h => ({ W with heap := h } : World)) this
 simp [convert, run_underlying hs, run_underlying he, markStringish, hsh, hf]
theorem conv_ev {P : Program} (W : World) (t e : TypeId) (A : Array Obj) (cs : Array Value) (E : TypeId) (len cap : Nat) (hW : W.heap = A.push (.cells cs E)) (hs : P.underlying t = some (.slice e)) (he : P.underlying e = some (.int .u8)) :
  (convert t t (.slice (some ⟨A.size, 0, none⟩) len cap)).events P W #[] = #[] := by
 have hsh : W.shape? A.size = some (E, cs.size) := by
  unfold World.shape?; rw [hW]; simp
 simp [convert, run_underlying hs, run_underlying he, markStringish, hsh]
theorem own_last {S F : Nat -> Prop} {w w' : World} {A : Array Obj} {o o' : Obj} {es : Array Event} (h : w.heap = A.push o) (h' : w'.heap = A.push o') (et : w'.tape = w.tape) (eo : w'.os = w.os) (eu : w'.output = w.output) (hS : S A.size) (he : ∀ e ∈ es, False) : Own S F w w' es :=
 ⟨by rw [h, h']; simp, et, eo, eu, fun b hb hn => by
  have hne : b ≠ A.size := fun q => hn (by rw [q]; exact hS)
  rw [h, h', Array.getElem?_push, Array.getElem?_push, if_neg hne, if_neg hne], fun e h => (he e h).elim⟩
section
variable {top : Nat} {γ γ' γ2 : Gho} {w w' w2 w1 : World} {Post : Value -> World -> Prop} {c : Frame} {cs : List Frame}
set_option maxRecDepth 100000 in
set_option maxHeartbeats 8000000 in
theorem lives_lives (s0 : Solo γ w) (hgl : Tryz.prog.globals.size <= γ.hs) (hcnt : γ.cnt + 16 <= top) (hk : KTab w) (hkS : γ.bk 0 = .priv 0)
  (hK : ∀ γ' w', Goes2 γ w γ' w' -> LV Tryz.prog wgLink.tWg top Post 0 γ' w' (G (c.finish (.bool true)) cs)) :
  LV Tryz.prog wgLink.tWg top Post 0 γ w (G ((base 9).at ⟨#[] ++ Array.replicate 24 undef, []⟩ [.code (Tryz.f9.body.getD .skip)]) (c :: cs)) := by
 have hg : γ.tag 0 ≠ .gone := s0.ng
 simp only [Tryz.f9, Option.getD_some]
 walk_nrm
 refine lives_ctl rfl hg (fun _ => stepG_seq) ?_
 refine lives_ctl rfl hg (fun _ => stepG_region) ?_
 simp only [List.size_toArray, List.length_cons, List.length_nil, Nat.reduceAdd, Nat.zero_add, List.range, List.range.loop]
 refine lives_pure rfl hg (fun wV => ?_)
 refine goes_oper_k rfl rfl (by k_ne) (fun W hW => ?_)
 go_simp
 refine hW _ _ ⟨⟨rfl, no_listed (by simp [go_sem])⟩, ?_⟩
 clear hW
 clear W wV
 try walk_nrm
 refine lives_ctl rfl hg (fun _ => stepG_region_end) ?_
 refine lives_ctl rfl hg (fun _ => stepG_seq) ?_
 refine lives_ctl rfl hg (fun _ => stepG_region) ?_
 simp only [List.size_toArray, List.length_cons, List.length_nil, Nat.reduceAdd, Nat.zero_add, List.range, List.range.loop]
 refine solo_goes s0 rfl fun wV eV eT => ?_
 refine goes_oper_k rfl rfl (by k_ne) (fun W hW => ?_)
 go_simp
 refine hW _ _ ⟨own_push (w := wV) rfl rfl rfl rfl (no_listed (by simp [go_sem])), fun γ1 w1 h1 t1 s1 l1 b1 => ?_⟩
 replace h1 : w1.heap = (w.heap).push (Obj.cells #[Value.int .u8 97, Value.int .u8 98, Value.int .u8 99] 5) := by rw [h1]; show wV.heap.push _ = _; rw [eV]; try rfl
 replace t1 : w1.tape = w.tape := t1.trans eT
 replace b1 : γ1.bk (w.heap.size) = .priv 0 := b1 _ (by rw [s0.hs]; simp [Nat.add_assoc]) (by show _ < (wV.heap.push _).size; rw [eV]; simp [Nat.add_assoc])
 clear hW
 clear W eV eT
 clear wV
 have hg : γ1.tag 0 ≠ .gone := s1.ng
 try walk_nrm
 refine solo_goes s1 rfl fun wV eV eT => ?_
 refine goes_oper_k rfl rfl (by k_ne) (fun W hW => ?_)
 have hcv := conv_at (P := Tryz.prog) wV 37 5 w.heap #[Value.int .u8 97, Value.int .u8 98, Value.int .u8 99] 5 3 3 (eV.trans h1) (by kernel_rfl) (by kernel_rfl)
 have hev := conv_ev (P := Tryz.prog) wV 37 5 w.heap #[Value.int .u8 97, Value.int .u8 98, Value.int .u8 99] 5 3 3 (eV.trans h1) (by kernel_rfl) (by kernel_rfl)
 go_simp
 refine hW _ _ ⟨own_last (S := γ1.S 0) (eV.trans h1) rfl (by first | exact (eT.trans t1).symm | exact eT.symm) rfl rfl (show γ1.S 0 w.heap.size from ⟨by rw [s1.hs, h1]; simp, b1⟩) (no_listed (by simp [go_sem]; exact hev)), fun γ2 w2 h2 t2 s2 l2 bX => ?_⟩
 replace h2 : w2.heap = w.heap.push (Obj.cells #[Value.int .u8 97, Value.int .u8 98, Value.int .u8 99] 5 (3, 4)) := h2
 replace t2 : w2.tape = w1.tape := by first | exact t2.trans eT | exact t2.trans t1.symm | exact t2
 have b2 : γ2.bk w.heap.size = .priv 0 := (l2.bk _ (by rw [s1.hs, h1]; simp)).trans b1
 clear hW hcv hev bX
 clear W eV eT
 clear wV
 rw [t1] at t2
 have m2 := l2
 replace l2 := l1.trans l2
 have hg : γ2.tag 0 ≠ .gone := s2.ng
 try walk_nrm
 refine solo_goes s2 rfl fun wV eV eT => ?_
 refine goes_oper_k rfl rfl (by k_ne) (fun W hW => ?_)
 go_simp
 refine hW _ _ ⟨own_push (w := wV) rfl rfl rfl rfl (no_listed (by simp [go_sem])), fun γ3 w3 h3 t3 s3 l3 b3 => ?_⟩
 replace h3 : w3.heap = (w.heap.push (Obj.cells #[Value.int .u8 97, Value.int .u8 98, Value.int .u8 99] 5 (3, 4))).push (Obj.cells #[Value.slice (some ⟨w.heap.size, 0, none⟩) 3 3] 37) := by rw [h3]; show wV.heap.push _ = _; rw [eV, h2]; try rfl
 replace t3 : w3.tape = w2.tape := t3.trans eT
 replace b3 : γ3.bk (w.heap.size + 1) = .priv 0 := b3 _ (by rw [s2.hs, h2]; simp [Nat.add_assoc]) (by show _ < (wV.heap.push _).size; rw [eV, h2]; simp [Nat.add_assoc])
 clear hW
 clear W eV eT
 clear wV
 rw [t2] at t3
 have m3 := l3
 replace l3 := l2.trans l3
 have hg : γ3.tag 0 ≠ .gone := s3.ng
 try walk_nrm
 have hN : γ.hs = w.heap.size := s0.hs
 have hs3 : γ3.hs = w.heap.size + 2 := by rw [s3.hs, h3]; simp
 have H0 : w3.heap[w.heap.size]? = some (.cells #[Value.int .u8 97, Value.int .u8 98, Value.int .u8 99] 5 (3, 4)) := by
  rw [h3]
  simp only [Array.getElem?_push, Array.size_push]
  rw [if_neg (by omega)]
  try simp
 have H1 : w3.heap[w.heap.size + 1]? = some (.cells #[Value.slice (some ⟨w.heap.size, 0, none⟩) 3 3] 37 (0, 0)) := by
  rw [h3]
  simp only [Array.getElem?_push, Array.size_push]
  try simp
 have d0 : γ3.bk w.heap.size = .priv 0 := (m3.bk _ (by rw [s2.hs, h2]; simp)).trans b2
 have T0 : ownT γ3 w3 w.heap.size := ⟨⟨by omega, d0⟩, _, _, _, H0⟩
 have T1 : ownT γ3 w3 (w.heap.size + 1) := ⟨⟨by omega, b3⟩, _, _, _, H1⟩
 have c0 : ∀ i (h : i < 3), w3.cell? ⟨w.heap.size, i, none⟩ = some (U8 (byteAt abc i)) := fun i hi => by
  unfold World.cell?
  rw [H0]
  match i, hi with
  | 0, _ => rfl
  | 1, _ => rfl
  | 2, _ => rfl
 have c1 : w3.cell? ⟨w.heap.size + 1, 0, none⟩ = some (.slice (some ⟨w.heap.size, 0, none⟩) 3 3) := by
  unfold World.cell?
  rw [H1]
  rfl
 have rd : Reads w3 (some ⟨w.heap.size, 0, none⟩) 3 abc := ⟨by decide, by decide, (fun e => by cases e), .inr ⟨w.heap.size, 0, rfl, fun i hi => by rw [Nat.zero_add]; exact c0 i hi⟩⟩
 have tx : TextsH γ3 w3 (some ⟨w.heap.size + 1, 0, none⟩) 1 [abc] := by
  refine ⟨⟨by simp, by omega, .inr ⟨_, 0, rfl, fun i hi => ?_⟩⟩, fun ad e => by injection e with e; subst e; exact ⟨rfl, T1⟩, fun b off i x n cx e hi hc => ?_⟩
  ·obtain rfl : i = 0 := by simpa using hi
   exact ⟨_, _, c1, rd⟩
  ·obtain rfl : i = 0 := by simpa using hi
   injection e with e
   injection e with e e' _
   subst e e'
   have hc' : w3.cell? ⟨w.heap.size + 1, 0, none⟩ = some (.slice x n cx) := hc
   rw [c1] at hc'
   injection hc' with hc'
   injection hc' with e1 e2 e3
   subst e1 e2 e3
   exact ⟨fun ad e => by injection e with e; subst e; exact ⟨rfl, T0⟩, fun _ _ => by decide⟩
 have st3 : Stays γ w γ3 w3 := .of l3 fun b hb => by
  rw [h3]
  simp only [Array.getElem?_push, Array.size_push]
  rw [if_neg (by omega), if_neg (by omega)]
 have hk3 : KTab w3 := fun i hi => by
  have h := hk i hi
  have hlt := World.block_lt_of_cell? w _ h
  rw [<- h]
  unfold World.cell?
  rw [st3.heap _ (by dsimp only at hlt; omega) hkS]
 have hkS3 : γ3.bk 0 = .priv 0 := by
  have hlt := World.block_lt_of_cell? w _ (hk 0 (by decide))
  dsimp only at hlt
  exact (st3.bk _ (by omega)).trans hkS
 refine lives_ctl rfl hg (fun _ => stepG_callv (first := #[]) (caps := #[]) (vs := #[.slice (some ⟨w.heap.size + 1, 0, none⟩) 1 1, .int .i64 2]) rfl rfl (by k_ne) rfl rfl (by simp [Act.eval]) Tryz.func15 (by kernel_rfl) rfl) ?_
 refine lives_sums (n := 1) (rows := [abc]) s3 (by decide) (tx.mem s3.hs rfl (fun r hr => by simp at hr; subst hr; decide) hk3 hkS3) (Nat.le_trans hgl st3.hs) (by rw [l3.cnt]; exact hcnt) (fun W0 hW0 q1 q16 γ4 w4 out s4 e1 e2 e3 e4 e5 e6 e7 e8 => ?_) (fun hm => absurd (by decide) hm)
 rw [Frame.finish_at]
 have st4 : Stays γ w γ4 w4 := st3.trans ⟨by omega, e5, e6⟩
 clear hg
 have hg : γ4.tag 0 ≠ .gone := s4.ng
 walk_nrm
 refine lives_pure rfl hg (fun wV => ?_)
 refine goes_oper_k rfl rfl (by k_ne) (fun W hW => ?_)
 go_simp
 refine hW _ _ ⟨⟨rfl, no_listed (by simp [go_sem])⟩, ?_⟩
 clear hW
 clear W wV
 try walk_nrm
 refine lives_pure rfl hg (fun wV => ?_)
 refine goes_oper_k rfl rfl (by k_ne) (fun W hW => ?_)
 go_simp
 refine hW _ _ ⟨⟨rfl, no_listed (by simp [go_sem])⟩, ?_⟩
 clear hW
 clear W wV
 try walk_nrm
 refine lives_pure rfl hg (fun wV => ?_)
 refine goes_oper_k rfl rfl (by k_ne) (fun W hW => ?_)
 go_simp
 refine hW _ _ ⟨⟨rfl, no_listed (by simp [go_sem])⟩, ?_⟩
 clear hW
 clear W wV
 try walk_nrm
 refine lives_pure rfl hg (fun wV => ?_)
 refine goes_oper_k rfl rfl (by k_ne) (fun W hW => ?_)
 go_simp
 refine hW _ _ ⟨⟨rfl, no_listed (by simp [go_sem])⟩, ?_⟩
 clear hW
 clear W wV
 try walk_nrm
 refine lives_pure rfl hg (fun wV => ?_)
 refine goes_oper_k rfl rfl (by k_ne) (fun W hW => ?_)
 go_simp
 refine hW _ _ ⟨⟨rfl, no_listed (by simp [go_sem])⟩, ?_⟩
 clear hW
 clear W wV
 try walk_nrm
 refine lives_ctl rfl hg (fun _ => stepG_region_end) ?_
 have hS4 : γ4.S 0 out := ⟨e2, e3⟩
 have hout := rows_of_sums (γ := γ4) (rows := [abc]) rfl (by decide) e8 hS4
 have hgl4 : Tryz.prog.globals.size <= γ4.hs := Nat.le_trans hgl st4.hs
 have hx : Held γ4 w4 (some ⟨w.heap.size, 0, none⟩) := fun ad e => by injection e with e; subst e; exact ⟨rfl, Stays.own ⟨by omega, e5, e6⟩ T0⟩
 have hy : Held γ4 w4 (some ⟨w.heap.size + 1, 0, none⟩) := fun ad e => by injection e with e; subst e; exact ⟨rfl, Stays.own ⟨by omega, e5, e6⟩ T1⟩
 have hT := fun Tp d => livesTail_any (.slice (some ⟨w.heap.size, 0, none⟩) 3 3) (.slice (some ⟨w.heap.size + 1, 0, none⟩) 1 1) (some ⟨out, 0, none⟩) 1 (LW γ4 w4 Tp d) (hout.lone (keysC_ints _))
 have hV := ts9_vr (e := .int .i64 0) (hx.vr (n := 3) (c := 3)) (hy.vr (n := 1) (c := 1)) (hout.held.vr (n := 1) (c := 1)) (.int _ _)
 simp only [tail9, ts9, Tryz.f9, Option.getD_some, Array.replicate_succ, Array.replicate_zero, List.push_toArray, List.append_toArray, List.nil_append, List.cons_append] at hT hV
 refine lives_rest okRef Tryz.func9 (by kernel_rfl) (by kernel_rfl) rfl rfl s4 hgl4 hV (fun g hg => by cases hg) _ hT (fun γ5 w5 v v' ρ wl A hR hv sm => ?_)
 subst hR
 rw [vr_bool hv]
 exact hK γ5 w5 ⟨A.solo, st4.trans A.stays, A.tape.trans (e7.trans t3), by have := A.later.cnt; have := l3.cnt; have e9 : (2 : Int) = (W0 : Int) := hW0; omega⟩
end
end Go.Proofs.YtbicafgmfgdckaaGreatDoor
namespace Go.Proofs.YtbicafgmfgdckaaGreatDoor
open Go Go.Conc
section
variable {ty : TypeId} {top : Nat} {γ : Gho} {w : World} {P : Program} {Post : Value -> World -> Prop} {g : Goroutine} {b : Frame} {a : Act} {v : Value} {main : Bool}
theorem lives_stop (s : Solo γ w) (hr : g.status = .running) (hst : ∀ w2, stepG P true g w2 = .ended (.done v) w2 #[]) (hP : ∀ w2, w2.heap = w.heap -> w2.tape = w.tape -> Post v w2) : LV P ty top Post 0 γ w g := by
 refine lives_step hr s.ng fun γ2 w2 hrl hI hi => ?_
 obtain ⟨s2, e1, e2, e3, e5, e4⟩ := s.rel hrl
 exact .stop v rfl (hst w2) ⟨hP w2 e1 e2, fun j hj _ => ⟨hj, (hI.free s2.ph s2.col).2.1 j hj⟩, fun t hT => over_race s2.ph s2.col hT⟩
theorem stepG_finish {fn : Func} {todo : List Item} (hn : b.kind = .normal) (hd : a.defers = []) (hf : P.funcs[b.fn]? = some fn) (hr : (results fn a.tmps).run P w = .ok v w) (he : (results fn a.tmps).events P w #[] = #[]) (hi : P.inits.idxOf? b.fn = none) :
  stepG P true (G { b.at a todo with mode := .returning } []) w = .ended (.done v) w #[] := by
 simp [G, stepG, unwind, doReturn, Frame.at, hn, hd, hf, hr, he, hi, seen, GStep.after]
end
end Go.Proofs.YtbicafgmfgdckaaGreatDoor
