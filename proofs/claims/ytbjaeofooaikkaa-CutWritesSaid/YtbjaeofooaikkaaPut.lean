/- A roller's Put: what it gives. -/
import Derived.Test.YtbjaeofooaikkaaRoller
namespace Go.Proofs.Ytbjaeofooaikkaa
open Go Go.RowKit

theorem ok_none (w : World) : Calls Try.prog 38 #[.pointer none] w fun e w' => e = .returned (.bool false) ∧ w = w' := by
  go_enter Try.func38, Try.ntmps38
  go_wp2
  go_ret
  exact ⟨rfl, rfl⟩
theorem ok_zero (w : World) (b : Nat) (h : w.cell? ⟨b, 319, none⟩ = some (.int .i64 0)) : Calls Try.prog 38 #[.pointer (some ⟨b, 0, none⟩)] w fun e w' => e = .returned (.bool false) ∧ w = w' := by
  go_enter Try.func38, Try.ntmps38
  go_wp2
  go_ret
  exact ⟨rfl, rfl⟩

theorem wrap_succ (n : Nat) (h : n ≤ 63) : IntKind.i64.wrap ((n : Int) + 1) = (n : Int) + 1 := IntWalk.i64_in _ (by omega)

set_option maxRecDepth 100000 in
set_option maxHeartbeats 2000000 in
theorem put_room (w : World) (b : Nat) (s x : BitVec 32) (win n at_ : Nat) (ring : Nat → BitVec 8) (c : BitVec 8) (h : RollerAt w b s win n at_ x ring) (h1 : 1 ≤ win) (h63 : win ≤ 63) (hn : n < win) (hat : at_ < win) :
    Calls Try.prog 34 #[.pointer (some ⟨b, 0, none⟩), U8 c] w fun e w' =>
      e = .returned (U32 (RollMath.rot x 1 ^^^ RollMath.word s c)) ∧ RollerAt w' b s win (n + 1) ((at_ + 1) % win) (RollMath.rot x 1 ^^^ RollMath.word s c) (fun i => if i = at_ then c else ring i) ∧ Only b w w' := by
  obtain ⟨X, hX⟩ : ∃ X, RollMath.rot x 1 ^^^ RollMath.word s c = X := ⟨_, rfl⟩
  obtain ⟨ring', hR⟩ : ∃ r', (fun i => if i = at_ then c else ring i) = r' := ⟨_, rfl⟩
  rw [hX, hR]
  have HX := Lib.hid hX
  have HR := Lib.hid hR
  clear hX hR
  have c1 := h.win
  have c2 := h.x
  have c3 := h.word_at c
  have c4 := h.thawed 322
  have hi := idx8_lt c
  have ht : ((n : Int) == (win : Int)) = false := by rw [beq_eq_false_iff_ne]; omega
  go_enter Try.func34, Try.ntmps34
  go_wp2_with fail
  refine (ok_some w b win c1 h1).mono ?_
  rintro e w' ⟨rfl, rfl⟩
  go_wp2_with fail
  refine wp_region_mid 15 (by kernel_rfl) (by kernel_rfl) rfl ?_
  simp only [List.take_succ_cons, List.take_zero, List.drop_zero]
  repeat (first | go_big_quiet_step (exact turn32_quiet _ _ _ _) | quiet_step (exact turn32_quiet _ _ _ _))
  refine wpQuiet_nil ?_
  intro j
  rw [show ((1 : Int) % 32).toNat = 1 from rfl]
  go_wp2
  refine midPost_normal (rest_quiet (by kernel_rfl) ?_)
  simp only [List.drop_succ_cons, List.drop_nil]
  refine wpQuiet_nil ?_
  intro j'
  have h2 := ((h.drewN j).setX (RollMath.rot x 1 ^^^ RollMath.word s c)).drewN j'
  have o2 := ((Only.drewN b w j).trans (Only.set _ b 322 (U32 (RollMath.rot x 1 ^^^ RollMath.word s c)))).trans (Only.drewN b _ j')
  rw [HX.out] at h2 o2 ⊢
  generalize ((w.drewN j).setCell ⟨b, 322, none⟩ (U32 X)).drewN j' = w1 at *
  clear c1 c2 c3 c4 h
  have c1 := h2.win
  have c2 := h2.n
  have c3 := h2.thawed 320
  have hw := wrap_succ n (by omega)
  go_wp2_with fail
  go_quiet (fail)
  go_wp2_with fail
  have h3 := (h2.drewN nq).setN (n + 1)
  have o3 := (o2.trans (Only.drewN b _ nq)).trans (Only.set _ b 320 (.int .i64 ((n : Int) + 1)))
  rw [show (((n + 1 : Nat) : Int)) = (n : Int) + 1 from rfl] at h3
  generalize (w1.drewN nq).setCell ⟨b, 320, none⟩ (.int .i64 ((n : Int) + 1)) = w2 at *
  clear h2 o2 c1 c2 c3 hw ht
  have c1 := h3.at_
  have c2 := h3.thawed (256 + at_)
  have c3 := h3.ring at_ (by omega)
  have c4 : at_ < 63 := by omega
  refine wp_region_mid 9 (by kernel_rfl) (by kernel_rfl) rfl ?_
  simp only [List.take_succ_cons, List.take_zero, List.drop_zero]
  repeat (first | go_big_quiet_step (fail) | quiet_step (fail))
  refine wpQuiet_nil ?_
  intro j2
  go_wp2
  refine midPost_normal (rest_quiet (by kernel_rfl) ?_)
  simp only [List.drop_succ_cons, List.drop_nil]
  refine wpQuiet_nil ?_
  intro j3
  have h4 := ((h3.drewN j2).setRing at_ c4 c).drewN j3
  have o4 := ((o3.trans (Only.drewN b _ j2)).trans (Only.set _ b (256 + at_) (U8 c))).trans (Only.drewN b _ j3)
  generalize ((w2.drewN j2).setCell ⟨b, 256 + at_, none⟩ (U8 c)).drewN j3 = w3 at *
  rw [HR.out] at h4
  clear h3 o3 c1 c2 c3
  have c1 := h4.at_
  have c2 := h4.win
  have c3 := h4.thawed 321
  have hw := wrap_succ at_ (by omega)
  have c5 : (0 : Int) ≤ (at_ : Int) + 1 := by omega
  go_wp2_with fail
  refine wp_region_mid 13 (by kernel_rfl) (by kernel_rfl) rfl ?_
  simp only [List.take_succ_cons, List.take_zero, List.drop_zero]
  repeat (first | go_big_quiet_step (fail) | quiet_step (fail))
  refine wpQuiet_nil ?_
  intro j4
  go_wp2
  refine midPost_normal (rest_quiet (by kernel_rfl) ?_)
  simp only [List.drop_succ_cons, List.drop_nil]
  refine wpQuiet_nil ?_
  intro j5
  have h5 := ((h4.drewN j4).setAt ((at_ + 1) % win)).drewN j5
  have o5 := ((o4.trans (Only.drewN b _ j4)).trans (Only.set _ b 321 (.int .i64 (((at_ + 1) % win : Nat) : Int)))).trans (Only.drewN b _ j5)
  rw [show ((((at_ + 1) % win : Nat) : Int)) = ((at_ : Int) + 1) % (win : Int) from rfl] at h5 o5
  generalize ((w3.drewN j4).setCell ⟨b, 321, none⟩ (.int .i64 (((at_ : Int) + 1) % (win : Int)))).drewN j5 = w4 at *
  clear h4 o4 c1 c2 c3 hw
  have c1 := h5.x
  go_wp2
  go_ret
  exact ⟨rfl, h5, o5⟩
end Go.Proofs.Ytbjaeofooaikkaa
