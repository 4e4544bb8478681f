/- Main by itself: the law's own lone calls. -/
import Derived.Test.YtbicafgmfgdckaaGreatDoorMgBi
import Derived.Test.YtbicafgmfgdckaaGreatDoorMgBj
import Derived.Test.YtbicafgmfgdckaaGreatDoorMgAj
namespace Go.Proofs.YtbicafgmfgdckaaGreatDoor
open Go Go.RowKit Go.Conc
section
variable {top : Nat} {γ γ' γ2 : Gho} {w w' w2 w1 : World} {Post : Value -> World -> Prop} {c b : Frame} {rest : List Frame} {n m : Nat}
structure After (γ : Gho) (w : World) (γ' : Gho) (w' : World) : Prop where
 solo : Solo γ' w'
 later : Later2 γ γ'
 stays : Stays γ w γ' w'
 tape : w'.tape = w.tape
 new : ∀ b, γ.hs <= b -> b < γ'.hs -> γ'.bk b = .priv 0
structure Goes2 (γ : Gho) (w : World) (γ' : Gho) (w' : World) : Prop where
 solo : Solo γ' w'
 stays : Stays γ w γ' w'
 tape : w'.tape = w.tape
 cnt : γ'.cnt <= γ.cnt + 16
theorem lives_lone {G : Nat -> Bool} {fs : List Nat} (hfs : ∀ f, fs.contains f = true -> okBody Tryz.prog G fs f = true) {f : Nat} (hf : fs.contains f = true) (s : Solo γ w) (hgl : Tryz.prog.globals.size <= γ.hs)
  {args : Array Value} (ha : VsR (diag (ownT γ w)) args args) (hG : ∀ g, G g = true -> ownT γ w g) (R : Value -> World -> Prop)
  (hc : ∀ (Tp : Tape) (d : Nat), Calls Tryz.prog f args (LW γ w Tp d) (fun e w' => ∃ v, e = .returned v /\ R v w'))
  (hK : ∀ γ' w' v v' ρ w1, After γ w γ' w' -> R v w1 -> VR ρ v v' -> SameN (ownT γ w) γ.hs ρ w1 w' -> LV Tryz.prog wgLink.tWg top Post 0 γ' w' (Conc.G (c.finish v') rest)) :
  LV Tryz.prog wgLink.tWg top Post 0 γ w (Conc.G (Frame.enter Tryz.prog f args .normal) (c :: rest)) :=
 lives_call0 hfs hf s hgl (ownT γ w) (fun b hb => ⟨hb.1, hb.2⟩) ha hG R hc fun γ' w' v v' ρ w1 s' l hnew hold htp hR hv sm => hK γ' w' v v' ρ w1 ⟨s', l, .of l hold, htp, hnew⟩ hR hv sm
theorem lives_rest {G : Nat -> Bool} {fs : List Nat} (hfs : ∀ f, fs.contains f = true -> okBody Tryz.prog G fs f = true) {f : Nat} {fn : Func} (hf : Tryz.prog.funcs[f]? = some fn) (hfi : (Tryz.prog.inits.idxOf? f).isNone = true) {code : Code} (hok : okCode Tryz.prog G fs code = true) (hbf : b.fn = f) (hbk : b.kind = .normal) (s : Solo γ w) (hgl : Tryz.prog.globals.size <= γ.hs)
  {ts : Array Value} (ha : VsR (diag (ownT γ w)) ts ts) (hG : ∀ g, G g = true -> ownT γ w g) (R : Value -> World -> Prop)
  (hc : ∀ (Tp : Tape) (d : Nat), code.wp Tryz.prog (bodyPost Tryz.prog fn (fun e w' => ∃ v, e = .returned v /\ R v w')) ⟨ts, []⟩ (LW γ w Tp d))
  (hK : ∀ γ' w' v v' ρ w1, After γ w γ' w' -> R v w1 -> VR ρ v v' -> SameN (ownT γ w) γ.hs ρ w1 w' -> LV Tryz.prog wgLink.tWg top Post 0 γ' w' (Conc.G (c.finish v') rest)) :
  LV Tryz.prog wgLink.tWg top Post 0 γ w (Conc.G (b.at ⟨ts, []⟩ [.code code]) (c :: rest)) :=
 lives_code0 hfs hf hfi hok hbf hbk s hgl (ownT γ w) (fun b hb => ⟨hb.1, hb.2⟩) ha hG R hc fun γ' w' v v' ρ w1 s' l hnew hold htp hR hv sm => hK γ' w' v v' ρ w1 ⟨s', l, .of l hold, htp, hnew⟩ hR hv sm
theorem vs_nil {ρ : Ren} : VsR ρ #[] #[] := VsR.empty
theorem vs_cons {ρ : Ren} {v : Value} {l : List Value} (h : VR ρ v v) (k : VsR ρ l.toArray l.toArray) : VsR ρ (v :: l).toArray (v :: l).toArray := by
 refine ⟨rfl, fun i h1 h2 => ?_⟩
 cases i with
 | zero => exact h
 | succ i =>
  have q := k.at_ i (by simpa using h1) (by simpa using h1)
  rw [List.getElem_toArray] at q ⊢
  exact q
theorem keyC_ints (k : List (BitVec 8)) : ∀ v ∈ keyC k, ∃ kd n, v = .int kd n := fun v hv => by
 obtain ⟨y, _, rfl⟩ := List.mem_map.1 hv
 exact ⟨_, _, rfl⟩
theorem keysC_ints (l : Txts) : ∀ x ∈ l, ∀ v ∈ keyC x, ∃ kd n, v = .int kd n := fun x _ => keyC_ints x
theorem partC_ints (p : Pt) : ∀ v ∈ partC p, ∃ kd n, v = .int kd n := fun v hv => by
 unfold partC at hv
 rcases List.mem_append.1 hv with h | h
 ·exact keyC_ints _ v h
 ·rw [List.mem_singleton] at h
  exact ⟨_, _, h⟩
structure UserTexts (γ : Gho) (w : World) (a : Option Addr) (cap : Nat) (ls : Txts) : Prop where
 txts : Texts w a cap ls
 held : Held γ w a
 rows : ∀ b off i x n c, a = some ⟨b, off, none⟩ -> i < ls.length -> w.cell? ⟨b, off + i, none⟩ = some (.slice x n c) -> Held γ w x \/ (n = 0 /\ c = 0)
theorem UserTexts.lone {a : Option Addr} {cap : Nat} {ls : Txts} {Tp : Tape} {d : Nat} (h : UserTexts γ w a cap ls) : Texts (LW γ w Tp d) a cap ls := by
 refine ⟨h.txts.fits, h.txts.room, ?_⟩
 rcases h.txts.rows with e | ⟨b, off, e, hb⟩
 ·exact .inl e
 ·refine .inr ⟨b, off, e, fun i hi => ?_⟩
  obtain ⟨x, c, h1, h2⟩ := hb i hi
  rcases h.rows b off i x _ c e hi h1 with hh | ⟨h0, hc0⟩
  ·exact ⟨x, c, lw_cell h1 hh.vr, lw_reads h2⟩
  ·subst hc0
   rw [h0] at h1
   have h3 : (LW γ w Tp d).cell? ⟨b, off + i, none⟩ = some (tameV (diag (ownT γ w)) (.slice x 0 0)) := lone_cell_tame h1
   have ht : txt ls i = [] := List.eq_nil_of_length_eq_zero h0
   cases x with
   | none =>
    rw [tame_self (.snil _ _)] at h3
    exact ⟨none, 0, by rw [h0]; exact h3, by rw [ht]; exact reads_nil _⟩
   | some ad =>
    obtain ⟨ad', e2⟩ := tame_void (ρ := diag (ownT γ w)) ad
    rw [e2] at h3
    exact ⟨some ad', 0, by rw [h0]; exact h3, by rw [ht]; exact ⟨by simp, by omega, fun e => (by cases e), .inl rfl⟩⟩
theorem lives_few {a : Option Addr} {cap : Nat} {ls : Txts} (s : Solo γ w) (hgl : Tryz.prog.globals.size <= γ.hs) (hu : UserTexts γ w a cap ls)
  (hK : ∀ γ' w' x cx, After γ w γ' w' -> TextsH γ' w' x cx (fewOf ls) -> LV Tryz.prog wgLink.tWg top Post 0 γ' w' (Conc.G (c.finish (.slice x (fewOf ls).length cx)) rest)) :
  LV Tryz.prog wgLink.tWg top Post 0 γ w (Conc.G (Frame.enter Tryz.prog 5 #[.slice a ls.length cap] .normal) (c :: rest)) := by
 refine lives_lone okRef (by decide) s hgl (vs_cons hu.held.vr vs_nil) (fun g hg => by cases hg) (fun v w1 => ∃ B vs, OwnsRows (fun _ => False) w1 B 37 v vs (fewOf ls) /\ Firm vs) (fun Tp d => (few_any a cap ls _ hu.lone).mono fun e w' ⟨v, vs, e1, h1, h2, _⟩ => ⟨v, e1, _, vs, h1, h2⟩) fun γ' w' v v' ρ w1 A ⟨B, vs, h1, h2⟩ hv sm => ?_
 obtain ⟨x, cx, rfl, hx⟩ := texts_of_lone sm A.stays A.solo.hs A.new h1 h2 hv
 exact hK γ' w' x cx A hx
theorem refRight_any (m : Int) (w : World) : Calls Tryz.prog 7 #[.int .i64 m] w fun e w' => e = .returned (.bool (decide (1 <= m) && decide (m <= 16))) /\ w' = w := by
 by_cases h1 : 1 <= m
 ·by_cases h2 : m <= 16
  ·go_enter Tryz.func7, Tryz.ntmps7
   go_wp2
   go_ret
   exact ⟨ret_bool (by simp [h1, h2]), rfl⟩
  ·go_enter Tryz.func7, Tryz.ntmps7
   go_wp2
   go_ret
   exact ⟨ret_bool (by simp [h1, h2]), rfl⟩
 ·go_enter Tryz.func7, Tryz.ntmps7
  go_wp2
  go_ret
  exact ⟨ret_bool (by have q : decide (1 <= m) = false := decide_eq_false (by omega); rw [q]; rfl), rfl⟩
theorem lives_refRight {m : Int} (s : Solo γ w) (hgl : Tryz.prog.globals.size <= γ.hs)
  (hK : ∀ γ' w', After γ w γ' w' -> LV Tryz.prog wgLink.tWg top Post 0 γ' w' (Conc.G (c.finish (.bool (decide (1 <= m) && decide (m <= 16)))) rest)) :
  LV Tryz.prog wgLink.tWg top Post 0 γ w (Conc.G (Frame.enter Tryz.prog 7 #[.int .i64 m] .normal) (c :: rest)) := by
 refine lives_lone okRef (by decide) s hgl (vs_cons (.int _ _) vs_nil) (fun g hg => by cases hg) (fun v w1 => v = .bool (decide (1 <= m) && decide (m <= 16))) (fun Tp d => (refRight_any m _).mono fun e w' h => ⟨_, h.1, rfl⟩) fun γ' w' v v' ρ w1 A h hv sm => ?_
 subst h
 rw [vr_bool hv]
 exact hK γ' w' A
theorem vr_shape {ρ : Ren} (L M K W : Int) (s : BitVec 32) : VR ρ (shapeV L M K W s) (shapeV L M K W s) := by
 unfold shapeV
 exact .agg rfl (vs_cons (.int _ _) (vs_cons (.int _ _) (vs_cons (.int _ _) (vs_cons (.int _ _) (vs_cons (.int _ _) vs_nil))))).at_
theorem lives_check {L M K W : Int} {sd : BitVec 32} (s : Solo γ w) (hgl : Tryz.prog.globals.size <= γ.hs)
  (hK : ∀ γ' w', After γ w γ' w' -> LV Tryz.prog wgLink.tWg top Post 0 γ' w' (Conc.G (c.finish (.int .i64 (if goodB L M K W then 0 else 2))) rest)) :
  LV Tryz.prog wgLink.tWg top Post 0 γ w (Conc.G (Frame.enter Tryz.prog 20 #[shapeV L M K W sd] .normal) (c :: rest)) := by
 refine lives_lone okRef (by decide) s hgl (vs_cons (vr_shape _ _ _ _ _) vs_nil) (fun g hg => by cases hg) (fun v w1 => v = .int .i64 (if goodB L M K W then 0 else 2)) (fun Tp d => ?_) fun γ' w' v v' ρ w1 A h hv sm => ?_
 ·cases hb : goodB L M K W with
  | true =>
   obtain ⟨h1, h2, h3, h4, h5, h6, h7⟩ := good_iff.1 hb
   exact (check_yes L M K W sd _ h1 h2 h3 h4 h5 h6 h7).mono fun e w' h => ⟨_, h.1, rfl⟩
  | false => exact (check_no L M K W sd _ (bad_iff.1 hb)).mono fun e w' h => ⟨_, h.1, rfl⟩
 ·subst h
  rw [vr_int hv]
  exact hK γ' w' A
theorem lives_refCheck {L M K W : Int} {sd : BitVec 32} (s : Solo γ w) (hgl : Tryz.prog.globals.size <= γ.hs)
  (hK : ∀ γ' w', After γ w γ' w' -> LV Tryz.prog wgLink.tWg top Post 0 γ' w' (Conc.G (c.finish (.bool (goodB L M K W))) rest)) :
  LV Tryz.prog wgLink.tWg top Post 0 γ w (Conc.G (Frame.enter Tryz.prog 8 #[shapeV L M K W sd] .normal) (c :: rest)) := by
 refine lives_lone okRef (by decide) s hgl (vs_cons (vr_shape _ _ _ _ _) vs_nil) (fun g hg => by cases hg) (fun v w1 => v = .bool (goodB L M K W)) (fun Tp d => ?_) fun γ' w' v v' ρ w1 A h hv sm => ?_
 ·cases hb : goodB L M K W with
  | true =>
   obtain ⟨h1, h2, h3, h4, h5, h6, h7⟩ := good_iff.1 hb
   exact (refCheck_yes L M K W sd _ h1 h2 h3 h4 h5 h6 h7).mono fun e w' h => ⟨_, h.1, rfl⟩
  | false => exact (refCheck_no L M K W sd _ (bad_iff.1 hb)).mono fun e w' h => ⟨_, h.1, rfl⟩
 ·subst h
  rw [vr_bool hv]
  exact hK γ' w' A
theorem rows_of_sums {rows : Txts} {out : Nat} (hn : n = rows.length) (hn2 : n <= 1000) (hout : ∃ cells, w.heap[out]? = some (.cells cells 40 (0, 0)) /\ cells.size = 32 * n /\ ∀ x, x < n -> ∀ o, o < 32 -> cells[32 * x + o]? = some (sumVal rows x o)) (hS : γ.S 0 out) : RowsH keyC 32 γ w (some ⟨out, 0, none⟩) n (rows.map Sha.sum) := by
 obtain ⟨cells, h1, h2, h3⟩ := hout
 refine ⟨⟨by rw [List.length_map]; omega, by omega, .inr ⟨out, 0, rfl, fun i hi j v hv => ?_⟩⟩, fun ad e => by injection e with e; subst e; exact ⟨rfl, hS, _, _, _, h1⟩⟩
 rw [List.length_map] at hi
 rw [List.getElem_map] at hv
 have hj : j < 32 := by
  have := (List.getElem?_eq_some_iff.1 hv).1
  simp only [keyC, List.length_map, sum_length] at this
  exact this
 have h4 := h3 i (by omega) j hj
 unfold World.cell?
 rw [h1]
 simp only [Option.isSome_none, Bool.false_eq_true, if_false]
 rw [show 0 + i * 32 + j = 32 * i + j by omega, h4]
 unfold sumVal
 rw [List.getD_eq_getElem?_getD, List.getElem?_eq_getElem hi, Option.getD_some, <- hv]
 simp [keyC, byteAt, List.getD_eq_getElem?_getD, List.getElem?_eq_getElem (show j < (Sha.sum rows[i]).length by rw [sum_length]; exact hj)]
theorem TextsH.mem {a : Option Addr} {cap : Nat} {ls : Txts} (h : TextsH γ w a cap ls) (hs : γ.hs = w.heap.size) (hn : n = ls.length) (hl : ∀ r ∈ ls, r.length <= 1048576) (hk : KTab w) (hkS : γ.bk 0 = .priv 0) : RowsMem (snapW γ γ.hs w) a n ls := by
 have low : ∀ b, ownT γ w b -> γ.bk b = .priv 0 /\ b ≠ γ.hs := fun b q => ⟨q.1.2, by have := q.1.1; omega⟩
 refine ⟨hn, ?_, fun i hi => snap_cell_of hkS (fun q => ?_) (hk i hi)⟩
 ·rcases h.txts.rows with rfl | ⟨b, off, e, hb⟩
  ·exact ⟨0, 0, fun q => absurd rfl q, fun x row hx => by simp at hx⟩
  ·refine ⟨b, off, fun _ => e, fun x row hx => ?_⟩
   obtain ⟨hlt, e2⟩ := List.getElem?_eq_some_iff.1 hx
   obtain ⟨x', c, h1, h2⟩ := hb x hlt
   rw [txt_lt hlt, e2] at h1 h2
   obtain ⟨hx1, hx2⟩ := h.rows b off x x' _ c e hlt h1
   obtain ⟨p1, p2⟩ := low b (h.held _ e).2
   refine ⟨hl row (by rw [<- e2]; exact List.getElem_mem hlt), x', c, snap_cell_of p1 p2 h1, ⟨h2.fits, h2.room, h2.null, h2.bytes.imp id fun ⟨b3, off3, e3, hb3⟩ => ⟨b3, off3, e3, fun i hi => ?c1⟩⟩, fun ad e3 => ?c2⟩
   case c1 =>
    obtain ⟨q1, q2⟩ := low b3 (hx1 _ e3).2
    exact snap_cell_of q1 q2 (hb3 i hi)
   case c2 =>
    obtain ⟨b4, off4, e4, hb4⟩ := h2.bytes.resolve_left fun q => by have := hx2 ad e3; rw [q] at this; simp at this
    obtain ⟨q1, q2⟩ := low ad.block (hx1 _ e3).2
    rw [e3] at e4
    injection e4 with e4
    subst e4
    exact ⟨off4 + 0, _, snap_cell_of q1 q2 (hb4 0 (hx2 _ e3))⟩
 ·have h0 := hk 0 (by decide)
  have := World.block_lt_of_cell? w _ h0
  dsimp only at this
  omega
end
end Go.Proofs.YtbicafgmfgdckaaGreatDoor
