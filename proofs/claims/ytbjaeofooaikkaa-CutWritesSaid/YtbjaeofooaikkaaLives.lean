/- 'lives': streams are cut. -/
import Derived.Test.YtbjaeofooaikkaaSizes
namespace Go.Proofs.Ytbjaeofooaikkaa
open Go Go.RowKit

def h0 : CutMath.Sh := ⟨2, 9, 0, 1, 0#32⟩
theorem h0_good : h0.Good := ⟨by decide, by decide, by decide, by decide, by decide, by decide⟩
theorem h0_split : CutMath.split h0 [1#8, 2#8, 3#8] = [[1#8, 2#8], [3#8]] := by decide +kernel
def cells3 : Array Value := #[.int .u8 1, .int .u8 2, .int .u8 3]
theorem lives_sizes (w : World) : Calls Try.prog 13 #[.agg #[.int .i64 2, .int .i64 9, .int .i64 0, .int .i64 1, .int .u32 0], .slice (some ⟨w.heap.size, 0, none⟩) 3 3] (w.alloc (.cells #[.int .u8 1, .int .u8 2, .int .u8 3] 5))
    (SizesC h0 [1#8, 2#8, 3#8] (w.alloc (.cells #[.int .u8 1, .int .u8 2, .int .u8 3] 5))) :=
  sizes_good h0 h0_good (some ⟨w.heap.size, 0, none⟩) 3 [1#8, 2#8, 3#8] _ (by decide) (reads_lit w #[.int .u8 1, .int .u8 2, .int .u8 3] 5 (0, 0) [1#8, 2#8, 3#8] rfl (by decide))
theorem lives_any (w : World) : Calls Try.prog 16 #[] w fun e w' => e = .returned (.bool true) ∧ Below w.heap.size w w' := by
  have SZ := lives_sizes w
  have hb0 := (Below.refl w.heap.size w).alloc (Nat.le_refl _) (.cells #[.int .u8 1, .int .u8 2, .int .u8 3] 5)
  go_enter Try.func16, Try.ntmps16
  go_wp2_with fail
  refine SZ.mono ?_
  rintro e w2 ⟨v, rfl, hrow, hb⟩
  rw [h0_split] at hrow
  obtain ⟨g, cap, rfl, c0⟩ := ints_at hrow (i := 0) (by decide) rfl
  obtain ⟨g', cap', e, c1⟩ := ints_at hrow (i := 1) (by decide) rfl
  injection e with e _ _
  injection e with e
  injection e with e _ _
  subst e
  have d0 : w2.cell? ⟨g, 0, none⟩ = some (.int .i64 2) := c0
  have d1 : w2.cell? ⟨g, 1, none⟩ = some (.int .i64 1) := c1
  clear c0 c1 hrow SZ
  go_wp2
  go_ret
  exact ⟨rfl, hb0.trans (hb.mono hb0.size)⟩
end Go.Proofs.Ytbjaeofooaikkaa
