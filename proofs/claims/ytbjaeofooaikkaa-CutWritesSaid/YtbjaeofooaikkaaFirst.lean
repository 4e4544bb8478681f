/- The first chunk, in the document's answer. -/
import Derived.Test.YtbjaeofooaikkaaEnds
import Derived.Test.YtbjaeofooaikkaaL
import Derived.StillTailTactics
import Derived.Outline
namespace Go.Proofs.Ytbjaeofooaikkaa
open Go Go.RowKit

/-- How many bytes the first chunk has: a whole one, or what there is. -/
def FirstOf (h : CutMath.Sh) (l : List (BitVec 8)) (w : World) (e : Ending) (w' : World) : Prop :=
  ∃ n : Nat, e = .returned (.int .i64 n) ∧ n ≤ l.length ∧ Below w.heap.size w w' ∧
    ((1 ≤ n ∧ (∀ m, 1 ≤ m → m < n → CutMath.ends h (l.take m) = false) ∧ CutMath.ends h (l.take n) = true) ∨ (n = l.length ∧ ∀ m, 1 ≤ m → m ≤ l.length → CutMath.ends h (l.take m) = false))
def FirstRel (h : CutMath.Sh) (l : List (BitVec 8)) (w1 : World) (i : Value) (wr : World) : Prop :=
  ∃ n : Nat, 1 ≤ n ∧ n ≤ l.length + 1 ∧ i = .int .i64 n ∧ (∀ m, 1 ≤ m → m < n → CutMath.ends h (l.take m) = false) ∧ Below w1.heap.size w1 wr
theorem box_cells (w : World) (cs : Array Value) (E : TypeId) (wr : World) (hb : Below (w.alloc (.cells cs E)).heap.size (w.alloc (.cells cs E)) wr) (i : Nat) : wr.cell? ⟨w.heap.size, i, none⟩ = cs[i]? := by
  rw [hb.cell (p := ⟨w.heap.size, i, none⟩) (by simp), alloc_cell]
set_option maxHeartbeats 400000 in
theorem refFirst_any (h : CutMath.Sh) (g : h.Good) (a : Option Addr) (cap : Nat) (l : List (BitVec 8)) (w : World) (hr : Reads w a cap l) (hl : l.length ≤ 1048576) :
    Calls Try.prog 26 #[shV h, .slice a l.length cap] w (FirstOf h l w) := by
  have k1 := hr.fits
  have k2 := hr.room
  have EN := fun n (v : World) (kv : Keeps w v) (hn : n ≤ l.length) => refEnds_any h g a cap (l.take n) v ((hr.take n).keeps kv)
  have EN' : ∀ (n : Nat) (v : World), Keeps w v → n ≤ l.length → Calls Try.prog 27 #[shV h, .slice a n cap] v fun e w' => e = .returned (.bool (CutMath.ends h (l.take n))) ∧ Below v.heap.size v w' := by
    intro n v kv hn
    have := EN n v kv hn
    rwa [List.length_take, Nat.min_eq_left hn] at this
  clear EN hr
  have bx := box_cells w #[.int .i64 h.L, .int .i64 h.M, .int .i64 h.K, .int .i64 h.W, U32 h.s] 24
  have ka := Keeps.alloc w (.cells #[.int .i64 h.L, .int .i64 h.M, .int .i64 h.K, .int .i64 h.W, U32 h.s] 24)
  have hb0 := (Below.refl w.heap.size w).alloc (Nat.le_refl _) (.cells #[.int .i64 h.L, .int .i64 h.M, .int .i64 h.K, .int .i64 h.W, U32 h.s] 24)
  unfold shV shapeV at *
  go_enter Try.func26, Try.ntmps26
  go_wp2
  generalize w.alloc (.cells #[.int .i64 h.L, .int .i64 h.M, .int .i64 h.K, .int .i64 h.W, U32 h.s] 24) = w1 at *
  go_loopw [5] (fun i wr => FirstRel h l w1 i wr) (fun i _ => l.length + 1 - (intOf i).toNat)
  case atStart => exact ⟨1, Nat.le_refl _, by omega, rfl, fun m _ _ => by omega, Below.refl _ _⟩
  case round =>
    obtain ⟨n, n1, n2, rfl, hn, hb⟩ := hrel
    have HN := Lib.hid hn
    by_cases hlt : n ≤ l.length
    · have c0 := bx _ hb 0
      have c1 := bx _ hb 1
      have c2 := bx _ hb 2
      have c3 := bx _ hb 3
      have c4 := bx _ hb 4
      have sl := fun w => run_slice_to byteSlice w a l.length cap .i64 n (n : Int) rfl (by omega)
      clear bx hn
      go_wp2
      go_still_tail 4, (by kernel_rfl)
      change wpList _ _ _ _ _ wr.drew
      have hb2 := hb.drew
      clear hb c0 c1 c2 c3 c4
      generalize wr.drew = w2 at *
      have kk : Keeps w w2 := Keeps.trans ka (Keeps.below hb2)
      go_wp2_with fail
      refine (EN' n _ kk hlt).mono ?_
      rintro e w3 ⟨rfl, hb3⟩
      have hb4 := hb2.trans (hb3.mono hb2.size)
      clear EN' hb3
      cases he : CutMath.ends h (l.take n)
      · have HE := Lib.hid he; clear he
        go_wp2
        go_roundw
        case rel =>
          refine ⟨n + 1, by omega, by omega, by go_num, fun m m1 m2 => ?_, hb4⟩
          by_cases hm : m = n
          · rw [hm]; exact HE.out
          · exact HN.out m m1 (by omega)
        case measure => simp [intOf]; omega
      · have HE := Lib.hid he; clear he
        go_wp2
        go_ret
        exact ⟨n, rfl, hlt, hb0.trans (hb4.mono hb0.size), .inl ⟨n1, HN.out, HE.out⟩⟩
    · obtain rfl : n = l.length + 1 := by omega
      clear bx EN' hn
      go_wp2
      go_ret
      exact ⟨l.length, rfl, Nat.le_refl _, hb0.trans (hb.mono hb0.size), .inr ⟨rfl, fun m m1 m2 => HN.out m m1 (by omega)⟩⟩
end Go.Proofs.Ytbjaeofooaikkaa
