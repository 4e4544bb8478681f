/- The law's walk: RollNobody. -/
import Derived.Test.YtmmejcbiiojmlaaNobody
namespace Go.Proofs.Ytmmejcbiiojmlaa
open Go Go.RowKit

set_option maxRecDepth 100000 in
theorem rollNobody_walk (c : BitVec 8) (w : World) :
    Calls Try.prog 7 #[U8 c] w fun e w' => e = .returned (.bool true) ∧ Below w.heap.size w w' := by
  obtain ⟨Z, hz, hs, zw, zr, z0, z1, z2, z3⟩ := zero_roller
  have NN : ∀ v : World, Nobody v none := fun v => .inl rfl
  have CN := fun v => clear_nobody v none (NN v)
  have PN := fun v => put_nobody v none c (NN v)
  have VN := fun v => value_nobody v none (NN v)
  have FN := fun v => full_nobody v none (NN v)
  have hp : Nobody (w.alloc (.cells Z 43)) (some ⟨w.heap.size, 0, none⟩) := .inr ⟨_, rfl, by rw [alloc_cell]; exact z0⟩
  have hb : Below w.heap.size w (w.alloc (.cells Z 43)) := (Below.refl _ _).alloc (Nat.le_refl _) _
  clear NN zw zr z0 z1 z2 z3
  go_enter Try.func7, Try.ntmps7
  go_wp2_with fail
  refine (CN _).mono ?_
  rintro e w' ⟨rfl, rfl⟩
  clear hz hs
  generalize w.alloc (.cells Z 43) = w1 at *
  generalize some (⟨w.heap.size, 0, none⟩ : Addr) = p at *
  go_wp2_with fail
  refine (clear_nobody _ _ hp).mono ?_
  rintro e w' ⟨rfl, rfl⟩
  go_wp2_with fail
  refine (PN _).mono ?_
  rintro e w' ⟨rfl, rfl⟩
  go_wp2_with fail
  refine (put_nobody _ _ c hp).mono ?_
  rintro e w' ⟨rfl, rfl⟩
  go_wp2_with fail
  refine (VN _).mono ?_
  rintro e w' ⟨rfl, rfl⟩
  go_wp2_with fail
  refine (value_nobody _ _ hp).mono ?_
  rintro e w' ⟨rfl, rfl⟩
  go_wp2_with fail
  refine (FN _).mono ?_
  rintro e w' ⟨n, rfl, rfl⟩
  go_wp2_with fail
  refine (full_nobody _ _ (hp.drewN n)).mono ?_
  rintro e w' ⟨m, rfl, rfl⟩
  go_wp2_with fail
  refine (lives_any _).mono ?_
  rintro e w2 ⟨rfl, hb2⟩
  go_wp2
  go_ret
  exact ⟨rfl, (below_drewN hb (n + m)).trans (hb2.mono hb.size)⟩
end Go.Proofs.Ytmmejcbiiojmlaa
