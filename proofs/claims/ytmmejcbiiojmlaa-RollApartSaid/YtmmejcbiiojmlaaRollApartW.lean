/- The law's walk: RollApart. -/
import Derived.Test.YtmmejcbiiojmlaaLives
namespace Go.Proofs.Ytmmejcbiiojmlaa
open Go Go.RowKit

theorem rollApart_walk (s : BitVec 32) (a b : BitVec 8) (w : World) :
    Calls Try.prog 3 #[U32 s, U8 a, U8 b] w fun e w' => e = .returned (.bool true) ∧ Below w.heap.size w w' := by
  have LV := lives_any w
  by_cases h : a = b
  · subst h
    have h1 : (RollMath.word s a == RollMath.word s a) = true := beq_self_eq_true _
    have h2 : (a == a) = true := beq_self_eq_true _
    go_enter Try.func3, Try.ntmps3
    go_wp2_with fail
    refine (word_any _ _ _).mono ?_
    rintro e w' ⟨rfl, rfl⟩
    go_wp2_with fail
    refine (word_any _ _ _).mono ?_
    rintro e w' ⟨rfl, rfl⟩
    go_wp2_with fail
    refine LV.mono ?_
    rintro e w' ⟨rfl, hb⟩
    go_wp2
    go_ret
    exact ⟨rfl, hb⟩
  · have h1 : (RollMath.word s a == RollMath.word s b) = false := beq_eq_false_iff_ne.2 fun e => h (RollMath.word_inj e)
    have h2 : (a == b) = false := beq_eq_false_iff_ne.2 h
    clear h
    go_enter Try.func3, Try.ntmps3
    go_wp2_with fail
    refine (word_any _ _ _).mono ?_
    rintro e w' ⟨rfl, rfl⟩
    go_wp2_with fail
    refine (word_any _ _ _).mono ?_
    rintro e w' ⟨rfl, rfl⟩
    go_wp2_with fail
    refine LV.mono ?_
    rintro e w' ⟨rfl, hb⟩
    go_wp2
    go_ret
    exact ⟨rfl, hb⟩
end Go.Proofs.Ytmmejcbiiojmlaa
