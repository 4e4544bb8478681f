/- The law's walk: CutJoins. -/
import Derived.Test.YtbjaeofooaikkaaCutSizesW
namespace Go.Proofs.Ytbjaeofooaikkaa
open Go Go.RowKit

theorem flat_snoc (ls : Rows) (k : Nat) (h : k < ls.length) : (ls.take (k + 1)).flatten = (ls.take k).flatten ++ rowOf ls k := by rw [rows_take_snoc ls k h]; simp
theorem flat_take_le (ls : Rows) (k : Nat) : (ls.take k).flatten.length ≤ ls.flatten.length := by
  conv => rhs; rw [← List.take_append_drop k ls, List.flatten_append, List.length_append]
  omega
theorem cutJoins_bad (L M K W : Int) (s : BitVec 32) (a : Option Addr) (cap : Nat) (l : List (BitVec 8)) (w : World) (hr : Reads w a cap l) (h : W < 1 ∨ 63 < W ∨ L < W ∨ M < L ∨ 8192 < M ∨ K < 0 ∨ 20 < K) :
    Calls Try.prog 4 #[shapeV L M K W s, .slice a l.length cap] w fun e w' => e = .returned (.bool true) ∧ Below w.heap.size w w' := by
  have SP := fun v a n cap => cutSplit_bad L M K W s a n cap v h
  unfold shapeV at *
  clear h
  have hb0 := (Below.refl w.heap.size w).alloc (Nat.le_refl _) (.cells #[.int .i64 L, .int .i64 M, .int .i64 K, .int .i64 W, U32 s] 24)
  have bx := box5 w (.int .i64 L) (.int .i64 M) (.int .i64 K) (.int .i64 W) (U32 s) 24
  have hr0 := hr.keeps (Keeps.below hb0)
  clear hr
  go_enter Try.func4, Try.ntmps4
  go_wp2_with fail
  generalize w.alloc (.cells #[.int .i64 L, .int .i64 M, .int .i64 K, .int .i64 W, U32 s] 24) = w1 at *
  refine (cut_any a cap l 3000 _ _ rfl hr0 (by decide)).mono ?_
  rintro e w' ⟨rfl, rfl⟩
  generalize (l.take 3000).length = m at *
  clear hr0
  obtain ⟨c0, c1, c2, c3, c4⟩ := bx _ (Below.refl _ _)
  go_wp2_with fail
  refine (SP _ _ _ _).mono ?_
  rintro e w3 ⟨rfl, hb3⟩
  clear c0 c1 c2 c3 c4
  go_wp2_with fail
  refine (lives_any _).mono ?_
  rintro e w7 ⟨rfl, hb7⟩
  have hb7 := hb3.trans (hb7.mono hb3.size)
  go_wp2
  go_ret
  exact ⟨rfl, hb0.trans (hb7.mono hb0.size)⟩
def JoinsRel (w2 : World) (ls : Rows) (v i : Value) (wr : World) : Prop := ∃ k : Nat, k ≤ ls.length ∧ i = .int .i64 k ∧ Owns wr w2.heap.size 5 v (ls.take k).flatten ∧ Below w2.heap.size w2 wr
set_option maxRecDepth 40000 in
set_option maxHeartbeats 4000000 in
theorem cutJoins_good (h : CutMath.Sh) (g : h.Good) (a : Option Addr) (cap : Nat) (l : List (BitVec 8)) (w : World) (hr : Reads w a cap l) :
    Calls Try.prog 4 #[shV h, .slice a l.length cap] w fun e w' => e = .returned (.bool true) ∧ Below w.heap.size w w' := by
  have SP := fun (v : World) (a : Option Addr) (cap : Nat) (l : List (BitVec 8)) (hl : l.length ≤ 3000) (hr : Reads v a cap l) => cutSplit_good h g a cap l v (by omega) hr
  unfold shV shapeV at *
  have hb0 := (Below.refl w.heap.size w).alloc (Nat.le_refl _) (.cells #[.int .i64 h.L, .int .i64 h.M, .int .i64 h.K, .int .i64 h.W, U32 h.s] 24)
  have bx := box5 w (.int .i64 h.L) (.int .i64 h.M) (.int .i64 h.K) (.int .i64 h.W) (U32 h.s) 24
  have hr0 := hr.keeps (Keeps.below hb0)
  clear hr
  go_enter Try.func4, Try.ntmps4
  go_wp2_with fail
  generalize w.alloc (.cells #[.int .i64 h.L, .int .i64 h.M, .int .i64 h.K, .int .i64 h.W, U32 h.s] 24) = w1 at *
  refine (cut_any a cap l 3000 _ _ rfl hr0 (by decide)).mono ?_
  rintro e w' ⟨rfl, rfl⟩
  have hm := hr0.take 3000
  have hlen : (l.take 3000).length ≤ 3000 := by rw [List.length_take]; omega
  generalize l.take 3000 = m at *
  clear hr0
  obtain ⟨c0, c1, c2, c3, c4⟩ := bx _ (Below.refl _ _)
  go_wp2_with fail
  refine (SP _ _ _ _ hlen hm).mono ?_
  rintro e w2 ⟨lv, lvs, rfl, lrows, hb2⟩
  obtain ⟨la, lc, rfl, lrr⟩ := lrows.rr
  have hm := hm.keeps (Keeps.below hb2)
  clear c0 c1 c2 c3 c4 lrows SP
  have SZ := CutMath.split_sizes g m
  have HJ := Lib.hid (CutMath.split_join h m)
  have hfl : (CutMath.split h m).flatten.length ≤ 3000 := by rw [CutMath.split_join]; exact hlen
  generalize CutMath.split h m = ls at *
  have hl1 := lrr.fits
  have hl2 := lrr.room
  have hs2 := hb2.size
  go_wp2
  go_loopw [7, 8, 9] (fun v i _ wr => JoinsRel w2 ls v i wr) (fun _ i _ _ => ls.length - (intOf i).toNat)
  case atStart => exact ⟨0, Nat.zero_le _, rfl, owns_nil _ _ _, Below.refl _ _⟩
  case round =>
    obtain ⟨k, hk, rfl, ho, hbr⟩ := hrel
    have hb1r := hb2.trans (hbr.mono hs2)
    by_cases hlt : k < ls.length
    · obtain ⟨z1, z2, z3⟩ := SZ k hlt
      rw [← rowOf_lt hlt] at z1 z2 z3
      rcases lrr.rows with e | ⟨b2, off2, rfl, hrows⟩
      · rw [e] at hlt; simp at hlt
      · obtain ⟨ai, ci, d1, rd⟩ := (hrows.keeps (Keeps.below hbr)) k hlt
        obtain ⟨c0, c1, c2, c3, c4⟩ := bx _ hb1r
        have HF := Lib.hid (flat_snoc ls k hlt)
        have hfk := flat_take_le ls (k + 1)
        rw [HF.out, List.length_append] at hfk
        have hBr := hbr.size
        have HB := Lib.hid hbr
        clear hrows lrr SZ bx hm hb2 hb1r hbr hb0
        generalize (ls.take k).flatten = all at *
        generalize hrow : rowOf ls k = row at *
        by_cases hlast : k < ls.length - 1
        · have z4 := z3 hlast
          clear z3 hrow
          go_wp2_with (at_builtin; refine wpList_append_bytes_at byteSlice rfl _ _ rfl w2.heap.size u7 all rfl ho ai ci row rfl rd (by omega) hBr ?_; intro v' w5 h1 hg hb5)
          go_roundw
          case rel =>
            refine ⟨k + 1, by omega, by go_num, by rw [HF.out]; exact h1, ?_⟩
            exact HB.out.trans ((Touch.of_grown (F := fun k => u7.ownBlock = some k) hg fun k hk => hk).below (fun k hk => (row_lt ho hk).1) hBr)
          case measure => simp [intOf]; omega
        · clear z3 hrow
          go_wp2_with (at_builtin; refine wpList_append_bytes_at byteSlice rfl _ _ rfl w2.heap.size u7 all rfl ho ai ci row rfl rd (by omega) hBr ?_; intro v' w5 h1 hg hb5)
          go_roundw
          case rel =>
            refine ⟨k + 1, by omega, by go_num, by rw [HF.out]; exact h1, ?_⟩
            exact HB.out.trans ((Touch.of_grown (F := fun k => u7.ownBlock = some k) hg fun k hk => hk).below (fun k hk => (row_lt ho hk).1) hBr)
          case measure => simp [intOf]; omega
    · obtain rfl : k = ls.length := by omega
      rw [List.take_length, HJ.out] at ho
      obtain ⟨va, vc, rfl, hall⟩ := ho.reads
      have SA := same_any va a vc cap m m wr hall (hm.keeps (Keeps.below hbr))
      rw [beq_bytes] at SA
      clear lrr hall hm ho SZ
      go_wp2_with fail
      refine SA.mono ?_
      rintro e w8 ⟨j8, rfl, rfl⟩
      go_wp2_with fail
      refine (lives_any _).mono ?_
      rintro e w10 ⟨rfl, hb10⟩
      have hb9 := below_drewN hb1r j8
      go_wp2
      go_ret
      exact ⟨rfl, hb0.trans ((hb9.trans (hb10.mono hb9.size)).mono hb0.size)⟩
theorem cutJoins_walk (L M K W : Int) (s : BitVec 32) (a : Option Addr) (cap : Nat) (l : List (BitVec 8)) (w : World) (hr : Reads w a cap l) :
    Calls Try.prog 4 #[shapeV L M K W s, .slice a l.length cap] w fun e w' => e = .returned (.bool true) ∧ Below w.heap.size w w' := by
  cases hg : goodB L M K W
  · exact cutJoins_bad L M K W s a cap l w hr (bad_iff.1 hg)
  · obtain ⟨h, g, e, _⟩ := good_of (s := s) hg
    rw [e]
    exact cutJoins_good h g a cap l w hr
end Go.Proofs.Ytbjaeofooaikkaa
