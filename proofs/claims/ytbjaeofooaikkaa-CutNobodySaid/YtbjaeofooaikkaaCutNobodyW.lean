/- The law's walk: CutNobody. -/
import Derived.Test.YtbjaeofooaikkaaCutJoinsW
namespace Go.Proofs.Ytbjaeofooaikkaa
open Go Go.RowKit

/-- A cutter that no call made. -/
def Nobody (p : Value) (w : World) : Prop := p = .pointer none ∨ ∃ b, p = .pointer (some ⟨b, 0, none⟩) ∧ w.cell? ⟨b, 5, none⟩ = some (.pointer none)
theorem nobody_ok {p : Value} {w : World} (h : Nobody p w) : Calls Try.prog 29 #[p] w fun e w' => e = .returned (.bool false) ∧ w = w' := by
  rcases h with rfl | ⟨b, rfl, c5⟩
  all_goals
    go_enter Try.func29, Try.ntmps29
    go_wp2
    go_ret
    exact ⟨rfl, rfl⟩
theorem nobody_write {p : Value} {w : World} (h : Nobody p w) (v : Value) : Calls Try.prog 22 #[p, v] w fun e w' => e = .returned (.slice none 0 0) ∧ w = w' := by
  have OK := nobody_ok h
  clear h
  go_enter Try.func22, Try.ntmps22
  go_wp2_with fail
  refine OK.mono ?_
  rintro e w' ⟨rfl, rfl⟩
  go_wp2
  go_ret
  exact ⟨rfl, rfl⟩
theorem nobody_end {p : Value} {w : World} (h : Nobody p w) : Calls Try.prog 23 #[p] w fun e w' => e = .returned (.slice none 0 0) ∧ w = w' := by
  have OK := nobody_ok h
  clear h
  go_enter Try.func23, Try.ntmps23
  go_wp2_with fail
  refine OK.mono ?_
  rintro e w' ⟨rfl, rfl⟩
  go_wp2
  go_ret
  exact ⟨rfl, rfl⟩
theorem nobody_held {p : Value} {w : World} (h : Nobody p w) : Calls Try.prog 25 #[p] w fun e w' => e = .returned (.int .i64 0) ∧ w = w' := by
  have OK := nobody_ok h
  clear h
  go_enter Try.func25, Try.ntmps25
  go_wp2_with fail
  refine OK.mono ?_
  rintro e w' ⟨rfl, rfl⟩
  go_wp2
  go_ret
  exact ⟨rfl, rfl⟩
def zeroCutter : Array Value := #[.int .i64 0, .int .i64 0, .int .i64 0, .int .i64 0, .int .u32 0, .pointer none, .int .u32 0, .slice none 0 0]
theorem cutNobody_walk (a : Option Addr) (cap : Nat) (l : List (BitVec 8)) (w : World) (hr : Reads w a cap l) :
    Calls Try.prog 9 #[.slice a l.length cap] w fun e w' => e = .returned (.bool true) ∧ Below w.heap.size w w' := by
  clear hr
  generalize l.length = n
  have N1 := fun v => @nobody_write (.pointer none) v (.inl rfl)
  have N2 := fun v => @nobody_end (.pointer none) v (.inl rfl)
  have N3 := fun v => @nobody_held (.pointer none) v (.inl rfl)
  go_enter Try.func9, Try.ntmps9
  go_wp2_with fail
  have NB : Nobody (.pointer (some ⟨w.heap.size, 0, none⟩)) (w.alloc (.cells zeroCutter 56)) := .inr ⟨_, rfl, alloc_cell w zeroCutter _ 5⟩
  have hb := (Below.refl w.heap.size w).alloc (Nat.le_refl _) (.cells zeroCutter 56)
  unfold zeroCutter at *
  generalize w.alloc _ = w1 at *
  have M1 := nobody_write NB
  have M2 := nobody_end NB
  have M3 := nobody_held NB
  clear NB
  refine (N1 _ _).mono ?_
  rintro e w' ⟨rfl, rfl⟩
  go_wp2_with fail
  refine (M1 _).mono ?_
  rintro e w' ⟨rfl, rfl⟩
  go_wp2_with fail
  refine (N2 _).mono ?_
  rintro e w' ⟨rfl, rfl⟩
  go_wp2_with fail
  refine M2.mono ?_
  rintro e w' ⟨rfl, rfl⟩
  go_wp2_with fail
  refine (N3 _).mono ?_
  rintro e w' ⟨rfl, rfl⟩
  go_wp2_with fail
  refine M3.mono ?_
  rintro e w' ⟨rfl, rfl⟩
  go_wp2_with fail
  refine (lives_any _).mono ?_
  rintro e w2 ⟨rfl, hb2⟩
  go_wp2
  go_ret
  exact ⟨rfl, hb.trans (hb2.mono hb.size)⟩
end Go.Proofs.Ytbjaeofooaikkaa
