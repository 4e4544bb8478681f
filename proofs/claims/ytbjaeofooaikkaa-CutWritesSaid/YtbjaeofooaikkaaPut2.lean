/- A roller's Put: what it gives. -/
import Derived.Test.YtbjaeofooaikkaaPut
namespace Go.Proofs.Ytbjaeofooaikkaa
open Go Go.RowKit

set_option maxRecDepth 100000 in
set_option maxHeartbeats 2000000 in
theorem put_full (w : World) (b : Nat) (s x : BitVec 32) (win n at_ : Nat) (ring : Nat → BitVec 8) (c : BitVec 8) (h : RollerAt w b s win n at_ x ring) (h1 : 1 ≤ win) (h63 : win ≤ 63) (hn : win = n) (hat : at_ < win) :
    Calls Try.prog 34 #[.pointer (some ⟨b, 0, none⟩), U8 c] w fun e w' =>
      e = .returned (U32 (RollMath.rot x 1 ^^^ RollMath.word s c ^^^ RollMath.rot (RollMath.word s (ring at_)) (win % 32))) ∧ RollerAt w' b s win win ((at_ + 1) % win) (RollMath.rot x 1 ^^^ RollMath.word s c ^^^ RollMath.rot (RollMath.word s (ring at_)) (win % 32)) (fun i => if i = at_ then c else ring i) ∧ Only b w w' := by
  subst hn
  obtain ⟨X, hX⟩ : ∃ X, RollMath.rot x 1 ^^^ RollMath.word s c = X := ⟨_, rfl⟩
  obtain ⟨ring', hR⟩ : ∃ r', (fun i => if i = at_ then c else ring i) = r' := ⟨_, rfl⟩
  obtain ⟨Y, hY⟩ : ∃ Y, X ^^^ RollMath.rot (RollMath.word s (ring at_)) (win % 32) = Y := ⟨_, rfl⟩
  rw [hX, hR, hY]
  have HY := Lib.hid hY
  clear hY
  have HX := Lib.hid hX
  have HR := Lib.hid hR
  clear hX hR
  have c1 := h.win
  have c2 := h.x
  have c3 := h.word_at c
  have c4 := h.thawed 322
  have hi := idx8_lt c
  go_enter Try.func34, Try.ntmps34
  go_wp2_with fail
  refine (ok_some w b win c1 h1).mono ?_
  rintro e w' ⟨rfl, rfl⟩
  go_wp2_with fail
  refine wp_region_mid 15 (by kernel_rfl) (by kernel_rfl) rfl ?_
  simp only [List.take_succ_cons, List.take_zero, List.drop_zero]
  repeat (first | go_big_quiet_step (exact turn32_quiet _ _ _ _) | quiet_step (exact turn32_quiet _ _ _ _))
  refine wpQuiet_nil ?_
  intro j
  rw [show ((1 : Int) % 32).toNat = 1 from rfl]
  go_wp2
  refine midPost_normal (rest_quiet (by kernel_rfl) ?_)
  simp only [List.drop_succ_cons, List.drop_nil]
  refine wpQuiet_nil ?_
  intro j'
  have h2 := ((h.drewN j).setX (RollMath.rot x 1 ^^^ RollMath.word s c)).drewN j'
  have o2 := ((Only.drewN b w j).trans (Only.set _ b 322 (U32 (RollMath.rot x 1 ^^^ RollMath.word s c)))).trans (Only.drewN b _ j')
  rw [HX.out] at h2 o2 ⊢
  generalize ((w.drewN j).setCell ⟨b, 322, none⟩ (U32 X)).drewN j' = w1 at *
  clear c1 c2 c3 c4 h
  have c1 := h2.win
  have c2 := h2.n
  go_wp2_with fail
  go_quiet (fail)
  have h2 := h2.drewN nq
  have o2 := o2.trans (Only.drewN b _ nq)
  generalize w1.drewN nq = w2 at *
  clear c1 c2
  have c1 := h2.win
  have c2 := h2.x
  have c3 := h2.thawed 322
  have c4 := h2.at_
  have c5 := h2.ring at_ (by omega)
  have c6 : at_ < 63 := by omega
  have c7 := h2.word_at (ring at_)
  have c8 := idx8_lt (ring at_)
  generalize ring at_ = d at *
  go_wp2_with fail
  refine wp_region_mid 26 (by kernel_rfl) (by kernel_rfl) rfl ?_
  simp only [List.take_succ_cons, List.take_zero, List.drop_zero]
  repeat (first | go_big_quiet_step (exact turn32_quiet _ _ _ _) | quiet_step (exact turn32_quiet _ _ _ _))
  refine wpQuiet_nil ?_
  intro k1
  rw [HY.out]
  go_wp2
  refine midPost_normal (rest_quiet (by kernel_rfl) ?_)
  simp only [List.drop_succ_cons, List.drop_nil]
  refine wpQuiet_nil ?_
  intro k2
  have h3 := ((h2.drewN k1).setX Y).drewN k2
  have o3 := ((o2.trans (Only.drewN b _ k1)).trans (Only.set _ b 322 (U32 Y))).trans (Only.drewN b _ k2)
  generalize ((w2.drewN k1).setCell ⟨b, 322, none⟩ (U32 Y)).drewN k2 = w2 at *
  clear h2 o2 c1 c2 c3 c4 c5 c6 c7 c8
  have c1 := h3.at_
  have c2 := h3.thawed (256 + at_)
  have c3 := h3.ring at_ (by omega)
  have c6 : at_ < 63 := by omega
  go_wp2_with fail
  refine wp_region_mid 9 (by kernel_rfl) (by kernel_rfl) rfl ?_
  simp only [List.take_succ_cons, List.take_zero, List.drop_zero]
  repeat (first | go_big_quiet_step (fail) | quiet_step (fail))
  refine wpQuiet_nil ?_
  intro j2
  go_wp2
  refine midPost_normal (rest_quiet (by kernel_rfl) ?_)
  simp only [List.drop_succ_cons, List.drop_nil]
  refine wpQuiet_nil ?_
  intro j3
  have h4 := ((h3.drewN j2).setRing at_ c6 c).drewN j3
  have o4 := ((o3.trans (Only.drewN b _ j2)).trans (Only.set _ b (256 + at_) (U8 c))).trans (Only.drewN b _ j3)
  generalize ((w2.drewN j2).setCell ⟨b, 256 + at_, none⟩ (U8 c)).drewN j3 = w3 at *
  rw [HR.out] at h4
  clear h3 o3 c1 c2 c3
  have c1 := h4.at_
  have c2 := h4.win
  have c3 := h4.thawed 321
  have hw := wrap_succ at_ (by omega)
  have c5 : (0 : Int) ≤ (at_ : Int) + 1 := by omega
  go_wp2_with fail
  refine wp_region_mid 13 (by kernel_rfl) (by kernel_rfl) rfl ?_
  simp only [List.take_succ_cons, List.take_zero, List.drop_zero]
  repeat (first | go_big_quiet_step (fail) | quiet_step (fail))
  refine wpQuiet_nil ?_
  intro j4
  go_wp2
  refine midPost_normal (rest_quiet (by kernel_rfl) ?_)
  simp only [List.drop_succ_cons, List.drop_nil]
  refine wpQuiet_nil ?_
  intro j5
  have h5 := ((h4.drewN j4).setAt ((at_ + 1) % win)).drewN j5
  have o5 := ((o4.trans (Only.drewN b _ j4)).trans (Only.set _ b 321 (.int .i64 (((at_ + 1) % win : Nat) : Int)))).trans (Only.drewN b _ j5)
  rw [show ((((at_ + 1) % win : Nat) : Int)) = ((at_ : Int) + 1) % (win : Int) from rfl] at h5 o5
  generalize ((w3.drewN j4).setCell ⟨b, 321, none⟩ (.int .i64 (((at_ : Int) + 1) % (win : Int)))).drewN j5 = w4 at *
  clear h4 o4 c1 c2 c3 hw
  have c1 := h5.x
  go_wp2
  go_ret
  exact ⟨rfl, h5, o5⟩
end Go.Proofs.Ytbjaeofooaikkaa
