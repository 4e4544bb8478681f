/- A cutter's put: what it gives. -/
import Derived.Test.YtbjaeofooaikkaaCutter
namespace Go.Proofs.Ytbjaeofooaikkaa
open Go Go.RowKit

theorem bytesElem : Elem Try.prog 25 5 (.int .u8 0) 1 := ⟨by kernel_rfl, by kernel_rfl, rfl⟩
theorem row_form {w : World} {B : Nat} {E : TypeId} {size n : Nat} {v : Value} {xs : List Value} (h : w.ownsRow B E size v n xs) : ∃ a cap, v = .slice a n cap := by
  rcases h.2 with ⟨rfl, rfl⟩ | ⟨g, cap, cur, rfl, _⟩
  · exact ⟨none, 0, rfl⟩
  · exact ⟨_, _, rfl⟩
/-- What put gives. -/
def PutsC (B b r : Nat) (v : Value) (h : CutMath.Sh) (held : List (BitVec 8)) (c : BitVec 8) (w : World) (e : Ending) (w' : World) : Prop :=
  ∃ v', e = .returned (.bool (CutMath.ends h (held ++ [c]))) ∧ Cutter w' B b r v' h (held ++ [c]) ∧ Touch (Foot b r v) w w' ∧ (v'.ownBlock = v.ownBlock ∨ ∃ k, v'.ownBlock = some k ∧ w.heap.size ≤ k)
theorem putsC_end {w w2 w3 : World} {B b r : Nat} {v v' : Value} {h : CutMath.Sh} {held : List (BitVec 8)} {c : BitVec 8} (k : Cutter w B b r v h held) (ca : CutterAt w2 b r h v') (t : Touch (Foot b r v) w w2)
    (ho : Owns w2 B 5 v' (held ++ [c])) (hb : v'.ownBlock = v.ownBlock ∨ ∃ k, v'.ownBlock = some k ∧ w.heap.size ≤ k) (o : Touch (fun k => k = r) w2 w3) (hr : Roller w3 r h.s h.W (given h (held ++ [c]))) :
    PutsC B b r v h held c w (.returned (.bool (CutMath.ends h (held ++ [c])))) w3 := by
  have hvb : v'.ownBlock ≠ some b := fun e => by
    rcases hb with e2 | ⟨k', e2, e3⟩
    · exact k.vb (e2.symm.trans e)
    · rw [e] at e2; injection e2 with e2; have := k.at_.lt; omega
  have hvr : v'.ownBlock ≠ some r := fun e => by
    rcases hb with e2 | ⟨k', e2, e3⟩
    · exact k.vr (e2.symm.trans e)
    · rw [e] at e2; injection e2 with e2; have := k.roll.lt; omega
  exact ⟨v', rfl, ⟨ca.touch o (fun e => k.ne e.symm), k.ne, hr, o.owns ho fun q hq e => hvr (by rw [hq, e]), hvb, hvr, k.low⟩, t.trans (o.mono fun q e => .inr (.inl e)), hb⟩
set_option maxRecDepth 40000 in
set_option maxHeartbeats 2000000 in
theorem cutPut_any {w : World} {B b r : Nat} {v : Value} {h : CutMath.Sh} {held : List (BitVec 8)} (g : h.Good) (k : Cutter w B b r v h held) (hl : held.length ≤ 1048576) (hB : B ≤ w.heap.size) (c : BitVec 8) :
    Calls Try.prog 30 #[.pointer (some ⟨b, 0, none⟩), U8 c] w (PutsC B b r v h held c w) := by
  have c7 := k.at_.c7
  have t0 : Touch (Foot b r v) w (w.alloc (.cells #[U8 c] 5)) := (Touch.refl _ _).alloc _
  have hrow := (Touch.row (F := fun _ => False) ((Touch.refl _ w).alloc (.cells #[U8 c] 5)) k.own fun _ _ f => f)
  have hcell : (w.alloc (.cells #[U8 c] 5)).cell? ⟨w.heap.size, 0, none⟩ = some (U8 c) := alloc_cell w _ _ 0
  have hB2 : B ≤ (w.alloc (.cells #[U8 c] 5)).heap.size := by simp; omega
  have TA : ∀ w1, (w.alloc (.cells #[U8 c] 5)).grownBy w1 v.ownBlock → Touch (fun q => v.ownBlock = some q) w w1 := fun w1 hg => ((Touch.refl _ w).alloc _).trans (.of_grown hg fun _ hk => hk)
  have KA : ∀ w1, Touch (fun q => v.ownBlock = some q) w w1 → CutterAt w1 b r h v := fun w1 t => k.at_.touch t k.vb
  have hv : ∃ a cap, v = .slice a held.length cap := by obtain ⟨a, cap, e, _⟩ := k.own.reads; exact ⟨a, cap, e⟩
  obtain ⟨a, cap, hv⟩ := hv
  rw [hv] at c7
  have HV := Lib.hid hv; clear hv
  have g1 := g.w1
  have g2 := g.wl
  have g3 := g.lm
  have g4 := g.m
  have hwr : IntKind.i64.wrap ((h.L : Int) - (h.W : Int)) = (h.L : Int) - h.W := IntWalk.i64_in _ (by omega)
  go_enter Try.func30, Try.ntmps30
  go_wp2_with (at_builtin; refine wpList_append_elem bytesElem rfl _ _ rfl B v held.length (held.map U8) HV.out.symm hrow ⟨w.heap.size, 0, none⟩ 1 (U8 c) rfl hcell rfl (by omega) (by omega) hB2 ?_; intro v' w1 h1 hg hb; have t1 := TA w1 hg; have ca := KA w1 t1; have d7 := ca.c7; have f7 := ca.thawed 7; obtain ⟨a', cap', rfl⟩ := row_form h1)
  have hv2 : (Value.slice a' (held.length + 1) cap').ownBlock ≠ some b := fun e => by
    rcases hb with e2 | e2
    · exact k.vb (e2.symm.trans e)
    · rw [e] at e2; injection e2 with e2; have := k.at_.lt; simp at e2; omega
  have hb2 : (Value.slice a' (held.length + 1) cap').ownBlock = v.ownBlock ∨ ∃ q, (Value.slice a' (held.length + 1) cap').ownBlock = some q ∧ w.heap.size ≤ q := by
    rcases hb with e2 | e2
    · exact .inl e2
    · exact .inr ⟨_, e2, by simp⟩
  have ts : Touch (fun q => q = b) w1 (w1.setCell ⟨b, 7, none⟩ (.slice a' (held.length + 1) cap')) := Touch.set _ _ _ _ rfl
  have ca2 := ca.hold (.slice a' (held.length + 1) cap')
  have tt : Touch (fun q => q = b ∨ v.ownBlock = some q) w (w1.setCell ⟨b, 7, none⟩ (.slice a' (held.length + 1) cap')) := (t1.mono fun q e => .inr e).trans (ts.mono fun q e => .inl e)
  have ho2 : Owns (w1.setCell ⟨b, 7, none⟩ (.slice a' (held.length + 1) cap')) B 5 (.slice a' (held.length + 1) cap') (held ++ [c]) :=
    ts.owns (by unfold Owns; rw [List.length_append, List.length_singleton, List.map_append]; exact h1) fun q hq e => hv2 (by rw [hq, e])
  have r2 : Roller (w1.setCell ⟨b, 7, none⟩ (.slice a' (held.length + 1) cap')) r h.s h.W (given h held) := k.roll.touch tt fun e => e.elim k.ne k.vr
  have t2 : Touch (Foot b r v) w (w1.setCell ⟨b, 7, none⟩ (.slice a' (held.length + 1) cap')) := tt.mono fun q e => e.elim .inl fun e => .inr (.inr e)
  have HB := Lib.hid hb2
  clear d7 f7 hv2 hb hb2 ts ca tt h1 hg t1 c7 t0 hrow hcell hB2 TA KA
  generalize w1.setCell ⟨b, 7, none⟩ (.slice a' (held.length + 1) cap') = w2 at *
  have hln : (held ++ [c]).length = held.length + 1 := by simp
  have key : (held.length + 1 = h.M) ∨ (held.length + 1 ≠ h.M ∧ held.length + 1 < h.L ∧ h.L - h.W < held.length + 1) ∨ (held.length + 1 ≠ h.M ∧ held.length + 1 < h.L ∧ held.length + 1 ≤ h.L - h.W) ∨ (held.length + 1 ≠ h.M ∧ h.L ≤ held.length + 1) := by omega
  have c0 := ca2.c0
  have c1 := ca2.c1
  have c3 := ca2.c3
  have c5 := ca2.c5
  have FIN := fun (w3 : World) (o : Touch (fun k => k = r) w2 w3) (hr : Roller w3 r h.s h.W (given h (held ++ [c]))) => putsC_end k ca2 t2 ho2 HB.out o hr
  have PA := fun n => put_any (w2.drewN n) r h.s h.W (given h held) c (r2.drewN n) g.w63
  have hq := fun (hle : h.L - h.W ≤ held.length) => (given_push h g held c hle).symm
  have KA := fun (w3 : World) (o : Touch (fun k => k = r) w2 w3) => ca2.touch o (fun e => k.ne e.symm)
  rcases key with A | ⟨A, A2, A3⟩ | ⟨A, A2, A3⟩ | ⟨A, A2⟩
  · have hp : (h.L : Int) - (h.W : Int) < (held.length : Int) + 1 := by omega
    have hm : ((held.length : Int) + 1 == (h.M : Int)) = true := by rw [beq_iff_eq]; omega
    go_quiet (fail)
    go_wp2_with fail
    refine (PA _).mono ?_
    rintro e w3 ⟨rfl, r3, o3⟩
    rw [hq (by omega)] at r3
    have o : Touch (fun k => k = r) w2 w3 := Touch.trans ((Touch.refl _ w2).drewN nq) (.of_only o3 rfl)
    have d1 := (KA w3 o).c1
    generalize RollMath.sum h.s (pushed h.W (given h held) c) = X at *
    clear o3 c0 c1 c3 c5 PA KA hq
    have FIN := fun n => FIN _ (o.drewN n) (r3.drewN n)
    rw [ends_most (hln.trans A)] at FIN
    go_wp2_with fail
    go_quiet (fail)
    go_wp2
    go_ret
    exact FIN _
  · have hp : (h.L : Int) - (h.W : Int) < (held.length : Int) + 1 := by omega
    have hm : ((held.length : Int) + 1 == (h.M : Int)) = false := by rw [beq_eq_false_iff_ne]; omega
    have hL : decide ((h.L : Int) ≤ (held.length : Int) + 1) = false := by rw [decide_eq_false_iff_not]; omega
    go_quiet (fail)
    go_wp2_with fail
    refine (PA _).mono ?_
    rintro e w3 ⟨rfl, r3, o3⟩
    rw [hq (by omega)] at r3
    have o : Touch (fun k => k = r) w2 w3 := Touch.trans ((Touch.refl _ w2).drewN nq) (.of_only o3 rfl)
    have d1 := (KA w3 o).c1
    have d0 := (KA w3 o).c0
    generalize RollMath.sum h.s (pushed h.W (given h held) c) = X at *
    clear o3 c0 c1 c3 c5 PA KA hq
    have FIN := fun n => FIN _ (o.drewN n) (r3.drewN n)
    rw [ends_short (fun e => A (hln.symm.trans e)) (by omega)] at FIN
    go_wp2_with fail
    go_quiet (fail)
    go_wp2
    go_ret
    exact FIN _
  · have hp : ¬ (h.L : Int) - (h.W : Int) < (held.length : Int) + 1 := by omega
    have hm : ((held.length : Int) + 1 == (h.M : Int)) = false := by rw [beq_eq_false_iff_ne]; omega
    have hL : decide ((h.L : Int) ≤ (held.length : Int) + 1) = false := by rw [decide_eq_false_iff_not]; omega
    have r3 : Roller w2 r h.s h.W (given h (held ++ [c])) := by
      rw [given_nil h _ (by omega)]; rw [given_nil h _ (by omega)] at r2; exact r2
    clear PA KA hq
    have FIN := fun n m => FIN _ (((Touch.refl _ w2).drewN n).drewN m) ((r3.drewN n).drewN m)
    rw [ends_short (fun e => A (hln.symm.trans e)) (by omega)] at FIN
    go_quiet (fail)
    go_wp2_with fail
    go_quiet (fail)
    go_wp2
    go_ret
    exact FIN _ _
  · have hp : (h.L : Int) - (h.W : Int) < (held.length : Int) + 1 := by omega
    have hm : ((held.length : Int) + 1 == (h.M : Int)) = false := by rw [beq_eq_false_iff_ne]; omega
    have hL : decide ((h.L : Int) ≤ (held.length : Int) + 1) = true := by rw [decide_eq_true_eq]; omega
    go_quiet (fail)
    go_wp2_with fail
    refine (PA _).mono ?_
    rintro e w3 ⟨rfl, r3, o3⟩
    rw [hq (by omega)] at r3
    have o : Touch (fun k => k = r) w2 w3 := Touch.trans ((Touch.refl _ w2).drewN nq) (.of_only o3 rfl)
    have d1 := (KA w3 o).c1
    have d0 := (KA w3 o).c0
    have d5 := (KA w3 o).c5
    have d6 := (KA w3 o).c6
    generalize RollMath.sum h.s (pushed h.W (given h held) c) = X at *
    clear o3 c0 c1 c3 c5 PA KA hq
    have FIN := fun n => FIN _ (o.drewN n) (r3.drewN n)
    have VA := fun n => value_any (w3.drewN n) r h.s h.W _ (r3.drewN n)
    rw [ends_sum (fun e => A (hln.symm.trans e)) (by omega), ← given_last h g _ (by omega)] at FIN
    generalize RollMath.sum h.s (given h (held ++ [c])) = Y at *
    go_wp2_with fail
    go_quiet (exact quiet_same (VA _))
    go_wp2
    go_ret
    exact FIN _
end Go.Proofs.Ytbjaeofooaikkaa
