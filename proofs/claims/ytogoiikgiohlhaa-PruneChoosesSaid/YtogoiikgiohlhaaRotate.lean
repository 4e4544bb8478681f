/- slices.SortStableFunc at places: one row brought ahead of another; insertion. -/
import Derived.Test.YtogoiikgiohlhaaSwap
import Derived.BigQuiet
namespace Go.Proofs.Ytogoiikgiohlhaa
open Go Go.RowKit Sm

def RotRel (w0 : World) (blk off n : Nat) (T : Nat → Int) (a m b : Nat) (x y : Value) (wr : World) : Prop :=
  ∃ (i j : Nat) (e : Nat → Int), x = .int .i64 i ∧ y = .int .i64 j ∧ 1 ≤ i ∧ 1 ≤ j ∧ a + i ≤ m ∧ m + j ≤ b ∧ SR w0 blk off n e wr ∧ rot e (m - i) m (m + j) = T
set_option maxRecDepth 40000 in
set_option maxHeartbeats 4000000 in
theorem rotate_any {w0 w : World} {blk off n cap : Nat} {d : Nat → Int} (S : SR w0 blk off n d w) (a m b : Nat) (h1 : a < m) (h2 : m < b) (h3 : b ≤ n) (hn : n ≤ 1000) (fv : Value) :
    Calls Try.prog 52 #[.slice (some ⟨blk, off, none⟩) n cap, .int .i64 a, .int .i64 m, .int .i64 b, fv] w fun e w' => e = .returned (.tuple #[]) ∧ SR w0 blk off n (rot d a m b) w' := by
  have HS := Lib.hid S
  clear S
  obtain ⟨T, hT⟩ : ∃ T, rot d a m b = T := ⟨_, rfl⟩
  rw [hT]
  have HT := Lib.hid hT
  clear hT
  obtain ⟨i0, hi0⟩ : ∃ i0 : Nat, (m : Int) - (a : Int) = i0 := ⟨m - a, by omega⟩
  obtain ⟨j0, hj0⟩ : ∃ j0 : Nat, (b : Int) - (m : Int) = j0 := ⟨b - m, by omega⟩
  go_enter Try.func52, Try.ntmps52
  go_wp2
  go_loopw [10, 11] (fun x y wr => RotRel w0 blk off n T a m b x y wr) (fun x y _ => (intOf x).toNat + (intOf y).toNat)
  case atStart => exact ⟨i0, j0, d, rfl, rfl, by omega, by omega, by omega, by omega, HS.out, by rw [← HT.out]; congr 1 <;> omega⟩
  case round =>
    clear HS HT hi0 hj0
    obtain ⟨i, j, e, rfl, rfl, i1, j1, i2, j2, S1, hR⟩ := hrel
    obtain ⟨u, hu⟩ : ∃ u : Nat, (m : Int) - (i : Int) = u := ⟨m - i, by omega⟩
    have hu2 : m - i = u := by omega
    by_cases hne : i = j
    · subst hne
      have SW := fun cap fv => swapRange_any (cap := cap) S1 u m i (by omega) (by omega) hn fv
      have hF := Lib.hid (show swr e u m i = T by rw [← hu2, rot_even e m i (by omega), hR])
      clear S1 hR hu2
      have hq : ((i : Int) != (i : Int)) = false := by simp
      go_wp2_with fail
      refine (SW _ _).mono ?_
      rintro e w' ⟨rfl, S2⟩
      rw [hF.out] at S2
      go_wp2
      exact bodyPost_end (results_none rfl _ _ _) rfl ⟨rfl, S2⟩
    · have hq : ((i : Int) != (j : Int)) = true := by simp; omega
      by_cases hlt : j < i
      · have SW := fun cap fv => swapRange_any (cap := cap) S1 u m j (by omega) (by omega) hn fv
        have hF := Lib.hid (show rot (swr e u m j) (m - (i - j)) m (m + j) = T by rw [← hu2, rot_more e m i j hlt (by omega), hR])
        clear S1 hR hu2
        obtain ⟨v, hv⟩ : ∃ v : Nat, (i : Int) - (j : Int) = v := ⟨i - j, by omega⟩
        go_wp2_with fail
        refine (SW _ _).mono ?_
        rintro e w' ⟨rfl, S2⟩
        go_wp2
        clear hu
        go_roundw
        case rel => exact ⟨v, j, _, rfl, rfl, by omega, by omega, by omega, by omega, S2, by rw [show v = i - j by omega]; exact hF.out⟩
        case measure => simp [intOf]; omega
      · obtain ⟨v, hv⟩ : ∃ v : Nat, (j : Int) - (i : Int) = v := ⟨j - i, by omega⟩
        obtain ⟨z, hz⟩ : ∃ z : Nat, (m : Int) + (j : Int) - (i : Int) = z := ⟨m + j - i, by omega⟩
        have hz2 : m + j - i = z := by omega
        have SW := fun cap fv => swapRange_any (cap := cap) S1 u z i (by omega) (by omega) hn fv
        have hF := Lib.hid (show rot (swr e u z i) (m - i) m (m + (j - i)) = T by rw [← hu2, ← hz2, rot_less e m i j (by omega) (by omega), hR])
        clear S1 hR hu2 hz2
        go_wp2_with fail
        refine (SW _ _).mono ?_
        rintro e w' ⟨rfl, S2⟩
        go_wp2
        clear hu hz
        go_roundw
        case rel => exact ⟨i, v, _, rfl, rfl, by omega, by omega, by omega, by omega, S2, by rw [show v = j - i by omega]; exact hF.out⟩
        case measure => simp [intOf]; omega
end Go.Proofs.Ytogoiikgiohlhaa
