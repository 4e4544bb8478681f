/- What 'lives' gives: always true. -/
import Derived.Test.YtmmejcbiiojmlaaNew
namespace Go.Proofs.Ytmmejcbiiojmlaa
open Go Go.RowKit

theorem word_lives : RollMath.word 1#32 7#8 = 1522731872#32 := by decide
theorem lives_any (w : World) : Calls Try.prog 10 #[] w fun e w' => e = .returned (.bool true) ∧ Below w.heap.size w w' := by
  have NS : Calls Try.prog 17 #[.int .u32 1, .int .i64 4] w fun e w' => ∃ b, w.heap.size ≤ b ∧ e = .returned (.tuple #[.pointer (some ⟨b, 0, none⟩), .int .i64 0]) ∧ Roller w' b 1#32 4 [] ∧ Below w.heap.size w w' := new_some w 1#32 4 (by omega) (by omega)
  have e1 : RollMath.sum 1#32 (pushed 4 [] 7#8) = RollMath.word 1#32 7#8 := by decide
  have WA : ∀ v, Calls Try.prog 9 #[.int .u32 1, .int .u8 7] v fun e w' => e = .returned (U32 (RollMath.word 1#32 7#8)) ∧ v = w' := fun v => word_any 1#32 7#8 v
  have RA : ∀ v, Calls Try.prog 12 #[.int .u32 1, .int .u8 7] v fun e w' => e = .returned (U32 (RollMath.word 1#32 7#8)) ∧ v = w' := fun v => refWord_any 1#32 7#8 v
  rw [word_lives] at WA RA e1
  go_enter Try.func10, Try.ntmps10
  go_wp2_with fail
  refine NS.mono ?_
  rintro e w1 ⟨b, hb, rfl, hr, hw⟩
  have PA : Calls Try.prog 22 #[.pointer (some ⟨b, 0, none⟩), .int .u8 7] w1 fun e w' => Puts b w1 1#32 4 (pushed 4 [] 7#8) e w' := put_any w1 b 1#32 4 [] 7#8 hr (by omega)
  go_wp2_with fail
  refine PA.mono ?_
  rintro e w2 ⟨rfl, _, ho⟩
  rw [e1]
  have hw2 := hw.trans (ho.below hb hw.size)
  clear hw ho hr PA NS e1
  go_wp2_with fail
  refine (RA _).mono ?_
  rintro e w' ⟨rfl, rfl⟩
  go_wp2_with fail
  refine (WA _).mono ?_
  rintro e w' ⟨rfl, rfl⟩
  go_wp2
  go_ret
  exact ⟨rfl, hw2⟩
end Go.Proofs.Ytmmejcbiiojmlaa
