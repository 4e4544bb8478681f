/- slices.SortStableFunc at places: what stands in memory between its steps; two rows changed. -/
import Derived.Test.YtogoiikgiohlhaaSortMath
import Derived.Test.YtogoiikgiohlhaaRefDayW
import Derived.Test.YtogoiikgiohlhaaQ
import Derived.Shelf.Abstract
import Derived.BigRegion
namespace Go.Proofs.Ytogoiikgiohlhaa
open Go Go.RowKit Sm

/-- n places in a row, which read d; since w0 nothing but this row has turned. -/
structure SR (w0 : World) (blk off n : Nat) (d : Nat → Int) (w : World) : Prop where
  touch : Touch (fun b => b = blk) w0 w
  cell : ∀ i, i < n → w.cell? ⟨blk, off + i, none⟩ = some (.int .i64 (d i))
  froz : ∀ i, i < n → w.frozen? ⟨blk, off + i, none⟩ = false
  rng : ∀ i, i < n → 0 ≤ d i ∧ d i < n
section
variable {w0 w : World} {blk off n : Nat} {d : Nat → Int}
theorem SR.drewN (h : SR w0 blk off n d w) (m : Nat) : SR w0 blk off n d (w.drewN m) := ⟨h.touch.drewN m, h.cell, h.froz, h.rng⟩
theorem SR.drew (h : SR w0 blk off n d w) : SR w0 blk off n d w.drew := h.drewN 1
theorem SR.set (h : SR w0 blk off n d w) {i : Nat} (hi : i < n) {v : Int} (hv : 0 ≤ v ∧ v < n) : SR w0 blk off n (put d i v) (w.setCell ⟨blk, off + i, none⟩ (.int .i64 v)) where
  touch := h.touch.trans (Touch.set w blk (off + i) _ rfl)
  cell k hk := by
    by_cases e : k = i
    · subst e
      rw [World.cell?_setCell_same _ _ _ (h.cell k hk)]; unfold put; rw [if_pos rfl]
    · rw [World.cell?_setCell_other _ _ _ _ (by intro e'; simp only [Addr.mk.injEq] at e'; omega), h.cell k hk]; unfold put; rw [if_neg e]
  froz k hk := by rw [World.frozen?_setCell]; exact h.froz k hk
  rng k hk := by
    unfold put
    split
    · exact hv
    · exact h.rng k hk
theorem SR.swap (h : SR w0 blk off n d w) {i j : Nat} (hi : i < n) (hj : j < n) :
    SR w0 blk off n (swp d i j) ((w.setCell ⟨blk, off + i, none⟩ (.int .i64 (d j))).setCell ⟨blk, off + j, none⟩ (.int .i64 (d i))) := by
  have h1 := (h.set hi (h.rng j hj)).set hj (h.rng i hi)
  rw [swp_put] at h1
  exact h1
theorem SR.c2 (h : SR w0 blk off n d w) {i j : Nat} (hj : j < n) (v : Value) (hij : i ≠ j) : (w.setCell ⟨blk, off + i, none⟩ v).cell? ⟨blk, off + j, none⟩ = some (.int .i64 (d j)) :=
  (World.cell?_setCell_other _ _ _ _ (by intro e'; simp only [Addr.mk.injEq] at e'; omega)).trans (h.cell j hj)
end
def SwRel (w0 : World) (blk off n : Nat) (d : Nat → Int) (a b k : Nat) (x : Value) (wr : World) : Prop := ∃ i : Nat, i ≤ k ∧ x = .int .i64 i ∧ SR w0 blk off n (swr d a b i) wr
set_option maxRecDepth 40000 in
set_option maxHeartbeats 4000000 in
theorem swapRange_any {w0 w : World} {blk off n cap : Nat} {d : Nat → Int} (S : SR w0 blk off n d w) (a b k : Nat) (h1 : a + k ≤ b) (h2 : b + k ≤ n) (hn : n ≤ 1000) (fv : Value) :
    Calls Try.prog 53 #[.slice (some ⟨blk, off, none⟩) n cap, .int .i64 a, .int .i64 b, .int .i64 k, fv] w fun e w' => e = .returned (.tuple #[]) ∧ SR w0 blk off n (swr d a b k) w' := by
  have HS := Lib.hid S
  clear S
  go_enter Try.func53, Try.ntmps53
  go_wp2
  go_loopw [10] (fun x wr => SwRel w0 blk off n d a b k x wr) (fun x _ => k - (intOf x).toNat)
  case atStart => exact ⟨0, Nat.zero_le _, rfl, by rw [swr_zero]; exact HS.out⟩
  case round =>
    clear HS
    obtain ⟨i, hi, rfl, S1⟩ := hrel
    by_cases hlt : i < k
    · have S3 := Lib.hid (show SR w0 blk off n (swr d a b (i + 1)) _ by rw [← swr_step d a b i (by omega)]; exact (S1.swap (i := a + i) (j := b + i) (by omega) (by omega)).drew)
      have ca := S1.cell (a + i) (by omega)
      have cb := S1.cell (b + i) (by omega)
      have fa := S1.froz (a + i) (by omega)
      have fb := S1.froz (b + i) (by omega)
      generalize swr d a b i (a + i) = va at *
      generalize hvb : swr d a b i (b + i) = vb at *
      have cc := S1.c2 (i := a + i) (j := b + i) (by omega) (.int .i64 vb) (by omega)
      rw [hvb] at cc
      clear hvb S1
      obtain ⟨p, hp⟩ : ∃ p, a + i = p := ⟨_, rfl⟩
      obtain ⟨q, hq⟩ : ∃ q, b + i = q := ⟨_, rfl⟩
      have ea : ((a : Int) + (i : Int)).toNat = p := by omega
      have pa : (0 : Int) ≤ (a : Int) + (i : Int) := by omega
      have ba : (a : Int) + (i : Int) < (n : Int) := by omega
      have ra : IntKind.i64.wrap ((a : Int) + (i : Int)) = (a : Int) + (i : Int) := by rw [IntKind.wrap_i64]; omega
      have eb : ((b : Int) + (i : Int)).toNat = q := by omega
      have pb : (0 : Int) ≤ (b : Int) + (i : Int) := by omega
      have bb : (b : Int) + (i : Int) < (n : Int) := by omega
      have rb : IntKind.i64.wrap ((b : Int) + (i : Int)) = (b : Int) + (i : Int) := by rw [IntKind.wrap_i64]; omega
      rw [hp] at ca fa cc S3
      rw [hq] at cb fb cc S3
      clear hp hq
      go_wp2_with fail
      go_big_region
      clear ca cb fa fb cc
      generalize ((wr.setCell ⟨blk, off + p, none⟩ (.int .i64 vb)).setCell ⟨blk, off + q, none⟩ (.int .i64 va)).drew = w3 at *
      clear ea eb ra rb
      go_wp2
      go_roundw
      case rel => exact ⟨i + 1, by omega, by go_num, S3.out⟩
      case measure => simp [intOf]; omega
    · obtain rfl : i = k := by omega
      go_wp2
      exact bodyPost_end (results_none rfl _ _ _) rfl ⟨rfl, S1⟩
end Go.Proofs.Ytogoiikgiohlhaa
