/- The law's walk: RollWords. -/
import Derived.Test.YtmmejcbiiojmlaaLives
namespace Go.Proofs.Ytmmejcbiiojmlaa
open Go Go.RowKit

theorem rollWords_walk (s : BitVec 32) (c : BitVec 8) (a : Option Addr) (cap : Nat) (l : List (BitVec 8)) (w : World) (hr : Reads w a cap l) :
    Calls Try.prog 4 #[U32 s, U8 c, .slice a l.length cap] w fun e w' => e = .returned (.bool true) ∧ Below w.heap.size w w' := by
  go_enter Try.func4, Try.ntmps4
  go_wp2_with fail
  refine (cut_any _ _ l 150 _ _ rfl hr (by decide)).mono ?_
  rintro e w' ⟨rfl, rfl⟩
  have hm := hr.take 150
  generalize l.take 150 = m at *
  go_wp2_with fail
  refine (word_any _ _ _).mono ?_
  rintro e w' ⟨rfl, rfl⟩
  go_wp2_with fail
  refine (refWord_any _ _ _).mono ?_
  rintro e w' ⟨rfl, rfl⟩
  go_wp2_with fail
  refine (rollSum_any s _ _ m _ hm).mono ?_
  rintro e w' ⟨n, rfl, rfl⟩
  go_wp2_with fail
  refine (refRollSum_any s _ _ m _ (hm.keeps (Keeps.drewN w n))).mono ?_
  rintro e w' ⟨rfl, rfl⟩
  go_wp2_with fail
  refine (lives_any _).mono ?_
  rintro e w2 ⟨rfl, hb2⟩
  go_wp2
  go_ret
  exact ⟨rfl, (below_drewN (Below.refl _ _) n).trans hb2⟩
end Go.Proofs.Ytmmejcbiiojmlaa
