/- What a roller's methods give. -/
import Derived.Test.YtbjaeofooaikkaaPut2
namespace Go.Proofs.Ytbjaeofooaikkaa
open Go Go.RowKit

theorem put_any (w : World) (b : Nat) (s : BitVec 32) (win : Nat) (L : List (BitVec 8)) (c : BitVec 8) (h : Roller w b s win L) (h63 : win ≤ 63) :
    Calls Try.prog 34 #[.pointer (some ⟨b, 0, none⟩), U8 c] w fun e w' => Puts b w s win (pushed win L c) e w' := by
  obtain ⟨at_, ring, h1, h2⟩ := h
  have h3 := h2.lt
  have h4 := h2.len
  by_cases hlt : L.length < win
  · have e : pushed win L c = L ++ [c] := if_pos hlt
    rw [e]
    refine (put_room w b s _ win L.length at_ ring c h1 (by omega) h63 hlt h3).mono ?_
    rintro e w' ⟨he, hr, ho⟩
    rw [← RollMath.sum_snoc] at he hr
    refine ⟨he, ⟨_, _, ?_, h2.push c hlt⟩, ho⟩
    rw [List.length_append, List.length_singleton]
    exact hr
  · have e : pushed win L c = L.drop 1 ++ [c] := if_neg hlt
    rw [e]
    obtain ⟨d, L, rfl⟩ : ∃ d L', L = d :: L' := by
      cases L with
      | nil => simp at hlt; omega
      | cons d L' => exact ⟨d, L', rfl⟩
    rw [List.length_cons] at h4 hlt
    have hn : win = L.length + 1 := by omega
    obtain ⟨hd, hs⟩ := h2.slide c hn.symm
    refine (put_full w b s _ win _ at_ ring c h1 (by omega) h63 (by rw [List.length_cons]; exact hn) h3).mono ?_
    rintro e w' ⟨he, hr, ho⟩
    rw [hd, RollMath.rot_mod, hn, RollMath.sum_slide] at he hr
    rw [List.drop_succ_cons, List.drop_zero]
    refine ⟨he, ⟨_, _, ?_, hs⟩, ho⟩
    rw [List.length_append, List.length_singleton, ← hn]
    rw [← hn] at hr
    exact hr
theorem value_any (w : World) (b : Nat) (s : BitVec 32) (win : Nat) (L : List (BitVec 8)) (h : Roller w b s win L) :
    Calls Try.prog 35 #[.pointer (some ⟨b, 0, none⟩)] w fun e w' => e = .returned (U32 (RollMath.sum s L)) ∧ w = w' := by
  obtain ⟨at_, ring, h1, h2⟩ := h
  have h3 := h2.lt
  have OK := ok_some w b win h1.win (by omega)
  have c1 := h1.x
  generalize RollMath.sum s L = X at *
  clear h1 h2
  go_enter Try.func35, Try.ntmps35
  go_wp2_with fail
  refine OK.mono ?_
  rintro e w' ⟨rfl, rfl⟩
  go_wp2
  go_ret
  exact ⟨rfl, rfl⟩
theorem ok_quiet (w : World) (b win : Nat) (h : w.cell? ⟨b, 319, none⟩ = some (.int .i64 win)) (hw : 0 < win) (n : Nat) :
    Calls Try.prog 38 #[.pointer (some ⟨b, 0, none⟩)] (w.drewN n) fun e w'' => e = .returned (.bool true) ∧ ∃ m, w'' = w.drewN m :=
  (ok_some (w.drewN n) b win h hw).mono fun _ _ ⟨he, hw⟩ => ⟨he, n, hw.symm⟩
theorem clear_any (w : World) (b : Nat) (s : BitVec 32) (win : Nat) (L : List (BitVec 8)) (h : Roller w b s win L) :
    Calls Try.prog 36 #[.pointer (some ⟨b, 0, none⟩)] w fun e w' => e = .returned (.tuple #[]) ∧ Roller w' b s win [] ∧ Only b w w' := by
  obtain ⟨at_, ring, h1, h2⟩ := h
  have h3 := h2.lt
  have OK := ok_some w b win h1.win (by omega)
  have c1 := h1.n
  have c2 := h1.at_
  have c3 := h1.x
  have c4 := h1.thawed 320
  have c5 := h1.thawed 321
  have c6 := h1.thawed 322
  generalize RollMath.sum s L = X at *
  generalize L.length = n at *
  go_enter Try.func36, Try.ntmps36
  go_wp2_with fail
  refine OK.mono ?_
  rintro e w' ⟨rfl, rfl⟩
  go_wp2
  refine bodyPost_end (results_none rfl _ _ _) rfl ⟨rfl, ⟨0, ring, ((h1.setN 0).setAt 0).setX 0#32, ⟨Nat.zero_le _, by omega, fun i hi => absurd hi (by simp)⟩⟩, ?_⟩
  exact ((Only.set w b 320 _).trans (Only.set _ b 321 _)).trans (Only.set _ b 322 _)
end Go.Proofs.Ytbjaeofooaikkaa
