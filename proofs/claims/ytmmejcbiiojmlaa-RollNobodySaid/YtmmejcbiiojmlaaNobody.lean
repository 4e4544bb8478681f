/- What a roller gives that no call made. -/
import Derived.Test.YtmmejcbiiojmlaaLives
namespace Go.Proofs.Ytmmejcbiiojmlaa
open Go Go.RowKit

def Nobody (w : World) (p : Option Addr) : Prop := p = none ∨ ∃ b, p = some ⟨b, 0, none⟩ ∧ w.cell? ⟨b, 319, none⟩ = some (.int .i64 0)
theorem Nobody.drewN {w : World} {p : Option Addr} (h : Nobody w p) (n : Nat) : Nobody (w.drewN n) p := h
theorem ok_nobody (w : World) (p : Option Addr) (h : Nobody w p) : Calls Try.prog 27 #[.pointer p] w fun e w' => e = .returned (.bool false) ∧ w = w' := by
  rcases h with rfl | ⟨b, rfl, h⟩
  · exact ok_none w
  · exact ok_zero w b h
theorem ok_nobody_quiet (w : World) (p : Option Addr) (h : Nobody w p) (n : Nat) : Calls Try.prog 27 #[.pointer p] (w.drewN n) fun e w'' => e = .returned (.bool false) ∧ ∃ m, w'' = w.drewN m :=
  (ok_nobody (w.drewN n) p h).mono fun _ _ ⟨he, hw⟩ => ⟨he, n, hw.symm⟩
theorem clear_nobody (w : World) (p : Option Addr) (h : Nobody w p) : Calls Try.prog 20 #[.pointer p] w fun e w' => e = .returned (.tuple #[]) ∧ w = w' := by
  have OK := ok_nobody w p h
  clear h
  go_enter Try.func20, Try.ntmps20
  go_wp2_with fail
  refine OK.mono ?_
  rintro e w' ⟨rfl, rfl⟩
  go_wp2
  exact bodyPost_end (results_none rfl _ _ _) rfl ⟨rfl, rfl⟩
theorem put_nobody (w : World) (p : Option Addr) (c : BitVec 8) (h : Nobody w p) : Calls Try.prog 22 #[.pointer p, U8 c] w fun e w' => e = .returned (.int .u32 0) ∧ w = w' := by
  have OK := ok_nobody w p h
  clear h
  go_enter Try.func22, Try.ntmps22
  go_wp2_with fail
  refine OK.mono ?_
  rintro e w' ⟨rfl, rfl⟩
  go_wp2
  go_ret
  exact ⟨rfl, rfl⟩
theorem value_nobody (w : World) (p : Option Addr) (h : Nobody w p) : Calls Try.prog 18 #[.pointer p] w fun e w' => e = .returned (.int .u32 0) ∧ w = w' := by
  have OK := ok_nobody w p h
  clear h
  go_enter Try.func18, Try.ntmps18
  go_wp2_with fail
  refine OK.mono ?_
  rintro e w' ⟨rfl, rfl⟩
  go_wp2
  go_ret
  exact ⟨rfl, rfl⟩
theorem full_nobody (w : World) (p : Option Addr) (h : Nobody w p) : Calls Try.prog 19 #[.pointer p] w (Gives w (.bool false)) := by
  have OK := ok_nobody_quiet w p h
  clear h
  go_enter Try.func19, Try.ntmps19
  go_wp2_with fail
  go_quiet (exact OK _)
  go_wp2
  go_ret
  exact ⟨_, rfl, rfl⟩
end Go.Proofs.Ytmmejcbiiojmlaa
