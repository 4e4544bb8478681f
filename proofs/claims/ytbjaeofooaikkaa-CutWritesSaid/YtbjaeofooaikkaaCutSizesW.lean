/- The law's walk: CutSizes. -/
import Derived.Test.YtbjaeofooaikkaaLives
namespace Go.Proofs.Ytbjaeofooaikkaa
open Go Go.RowKit

theorem box5 (w : World) (x0 x1 x2 x3 x4 : Value) (E : TypeId) (wr : World) (hb : Below (w.alloc (.cells #[x0, x1, x2, x3, x4] E)).heap.size (w.alloc (.cells #[x0, x1, x2, x3, x4] E)) wr) :
    wr.cell? ⟨w.heap.size, 0, none⟩ = some x0 ∧ wr.cell? ⟨w.heap.size, 1, none⟩ = some x1 ∧ wr.cell? ⟨w.heap.size, 2, none⟩ = some x2 ∧ wr.cell? ⟨w.heap.size, 3, none⟩ = some x3 ∧ wr.cell? ⟨w.heap.size, 4, none⟩ = some x4 :=
  ⟨box_cells w _ E wr hb 0, box_cells w _ E wr hb 1, box_cells w _ E wr hb 2, box_cells w _ E wr hb 3, box_cells w _ E wr hb 4⟩

set_option maxRecDepth 40000 in
set_option maxHeartbeats 2000000 in
theorem cutSizes_bad (L M K W : Int) (s : BitVec 32) (a : Option Addr) (cap : Nat) (l : List (BitVec 8)) (w : World) (hr : Reads w a cap l) (h : W < 1 ∨ 63 < W ∨ L < W ∨ M < L ∨ 8192 < M ∨ K < 0 ∨ 20 < K) :
    Calls Try.prog 3 #[shapeV L M K W s, .slice a l.length cap] w fun e w' => e = .returned (.bool true) ∧ Below w.heap.size w w' := by
  have SP := fun v a n cap => cutSplit_bad L M K W s a n cap v h
  have SZ := fun v a n cap => sizes_bad L M K W s a n cap v h
  have RC := fun v => refCheck_no L M K W s v h
  have CC := fun v => check_no L M K W s v h
  unfold shapeV at *
  clear h
  have hb0 := (Below.refl w.heap.size w).alloc (Nat.le_refl _) (.cells #[.int .i64 L, .int .i64 M, .int .i64 K, .int .i64 W, U32 s] 24)
  have bx := box5 w (.int .i64 L) (.int .i64 M) (.int .i64 K) (.int .i64 W) (U32 s) 24
  have hr0 := hr.keeps (Keeps.below hb0)
  clear hr
  go_enter Try.func3, Try.ntmps3
  go_wp2_with fail
  generalize w.alloc (.cells #[.int .i64 L, .int .i64 M, .int .i64 K, .int .i64 W, U32 s] 24) = w1 at *
  refine (cut_any a cap l 400 _ _ rfl hr0 (by decide)).mono ?_
  rintro e w' ⟨rfl, rfl⟩
  have hm := hr0.take 400
  have hlen : (l.take 400).length ≤ 400 := by rw [List.length_take]; omega
  generalize l.take 400 = m at *
  clear hr0
  go_wp2_with fail
  refine (copy_any a cap m _ hm (by omega)).mono ?_
  rintro e w2 ⟨v, rfl, ho, hb2⟩
  obtain ⟨va, vc, rfl⟩ := row_form ho
  obtain ⟨c0, c1, c2, c3, c4⟩ := bx _ hb2
  clear hm ho
  go_wp2_with fail
  refine (SP _ _ _ _).mono ?_
  rintro e w3 ⟨rfl, hb3⟩
  have hb3 := hb2.trans (hb3.mono hb2.size)
  clear c0 c1 c2 c3 c4
  obtain ⟨c0, c1, c2, c3, c4⟩ := bx _ hb3
  go_wp2_with fail
  refine (SZ _ _ _ _).mono ?_
  rintro e w4 ⟨rfl, hb4⟩
  have hb4 := hb3.trans (hb4.mono hb3.size)
  clear c0 c1 c2 c3 c4
  obtain ⟨c0, c1, c2, c3, c4⟩ := bx _ hb4
  go_wp2_with fail
  refine (RC _).mono ?_
  rintro e w5 ⟨rfl, hb5⟩
  have hb5 := hb4.trans (hb5.mono hb4.size)
  clear c0 c1 c2 c3 c4
  obtain ⟨c0, c1, c2, c3, c4⟩ := bx _ hb5
  go_wp2_with fail
  refine (CC _).mono ?_
  rintro e w6 ⟨rfl, hb6⟩
  have hb6 := hb5.trans (hb6.mono hb5.size)
  clear c0 c1 c2 c3 c4
  go_wp2_with fail
  refine (lives_any _).mono ?_
  rintro e w7 ⟨rfl, hb7⟩
  have hb7 := hb6.trans (hb7.mono hb6.size)
  go_wp2
  go_ret
  exact ⟨rfl, hb0.trans (hb7.mono hb0.size)⟩

def LoopRel (n : Nat) (w : World) (i : Value) (wr : World) : Prop := ∃ k j : Nat, k ≤ n ∧ i = .int .i64 k ∧ wr = w.drewN j
theorem beq_rows (ls : Rows) : (ls == ls) = true := beq_self_eq_true ls
theorem beq_bytes (l : List (BitVec 8)) : (l == l) = true := beq_self_eq_true l
set_option maxRecDepth 40000 in
set_option maxHeartbeats 4000000 in
theorem cutSizes_good (h : CutMath.Sh) (g : h.Good) (a : Option Addr) (cap : Nat) (l : List (BitVec 8)) (w : World) (hr : Reads w a cap l) :
    Calls Try.prog 3 #[shV h, .slice a l.length cap] w fun e w' => e = .returned (.bool true) ∧ Below w.heap.size w w' := by
  have SP := fun (v : World) (a : Option Addr) (cap : Nat) (l : List (BitVec 8)) (hl : l.length ≤ 400) (hr : Reads v a cap l) => cutSplit_good h g a cap l v (by omega) hr
  have SZ := fun (v : World) (a : Option Addr) (cap : Nat) (l : List (BitVec 8)) (hl : l.length ≤ 400) (hr : Reads v a cap l) => sizes_good h g a cap l v (by omega) hr
  have RS := fun (v : World) (a : Option Addr) (cap : Nat) (l : List (BitVec 8)) (hl : l.length ≤ 400) (hr : Reads v a cap l) => refSplit_any h g a cap l v hr (by omega)
  have RC := fun v => refCheck_yes h.L h.M h.K h.W h.s v (by have := g.w1; omega) (by have := g.w63; omega) (by have := g.wl; omega) (by have := g.lm; omega) (by have := g.m; omega) (by omega) (by have := g.k; omega)
  have CC := fun v => check_yes h.L h.M h.K h.W h.s v (by have := g.w1; omega) (by have := g.w63; omega) (by have := g.wl; omega) (by have := g.lm; omega) (by have := g.m; omega) (by omega) (by have := g.k; omega)
  unfold shV shapeV at *
  have hb0 := (Below.refl w.heap.size w).alloc (Nat.le_refl _) (.cells #[.int .i64 h.L, .int .i64 h.M, .int .i64 h.K, .int .i64 h.W, U32 h.s] 24)
  have bx := box5 w (.int .i64 h.L) (.int .i64 h.M) (.int .i64 h.K) (.int .i64 h.W) (U32 h.s) 24
  have hr0 := hr.keeps (Keeps.below hb0)
  clear hr
  go_enter Try.func3, Try.ntmps3
  go_wp2_with fail
  generalize w.alloc (.cells #[.int .i64 h.L, .int .i64 h.M, .int .i64 h.K, .int .i64 h.W, U32 h.s] 24) = w1 at *
  refine (cut_any a cap l 400 _ _ rfl hr0 (by decide)).mono ?_
  rintro e w' ⟨rfl, rfl⟩
  have hm := hr0.take 400
  have hlen : (l.take 400).length ≤ 400 := by rw [List.length_take]; omega
  generalize l.take 400 = m at *
  clear hr0
  go_wp2_with fail
  refine (copy_any a cap m _ hm (by omega)).mono ?_
  rintro e w2 ⟨v, rfl, ho, hb2⟩
  obtain ⟨va, vc, rfl, hmine⟩ := ho.reads
  obtain ⟨c0, c1, c2, c3, c4⟩ := bx _ hb2
  clear ho
  go_wp2_with fail
  refine (SP _ _ _ _ hlen hmine).mono ?_
  rintro e w3 ⟨lv, lvs, rfl, lrows, hb3'⟩
  obtain ⟨la, lc, rfl, lrr⟩ := lrows.rr
  have hmine := hmine.keeps (Keeps.below hb3')
  have hb3 := hb2.trans (hb3'.mono hb2.size)
  clear c0 c1 c2 c3 c4 lrows hb3'
  obtain ⟨c0, c1, c2, c3, c4⟩ := bx _ hb3
  go_wp2_with fail
  refine (SZ _ _ _ _ hlen hmine).mono ?_
  rintro e w4 ⟨nv, rfl, nrow, hb4'⟩
  obtain ⟨na, nc, rfl⟩ := row_form nrow
  have hmine := hmine.keeps (Keeps.below hb4')
  have lrr := lrr.keeps (Keeps.below hb4')
  have hb4 := hb3.trans (hb4'.mono hb3.size)
  clear c0 c1 c2 c3 c4 hb4'
  obtain ⟨c0, c1, c2, c3, c4⟩ := bx _ hb4
  go_wp2_with fail
  refine (RC _).mono ?_
  rintro e w5 ⟨rfl, hb5'⟩
  have hmine := hmine.keeps (Keeps.below hb5')
  have lrr := lrr.keeps (Keeps.below hb5')
  have nrow := (Touch.of_below (F := fun _ => False) hb5').row nrow fun _ _ f => f
  have hb5 := hb4.trans (hb5'.mono hb4.size)
  have hm5 := hm.keeps (Keeps.below hb5)
  clear c0 c1 c2 c3 c4 hb5'
  obtain ⟨c0, c1, c2, c3, c4⟩ := bx _ hb5
  go_wp2_with fail
  refine (RS _ _ _ _ hlen hm5).mono ?_
  rintro e w6 ⟨wv, wvs, rfl, wrows, hb6'⟩
  obtain ⟨wa, wc, rfl, wrr⟩ := wrows.rr
  have hmine := hmine.keeps (Keeps.below hb6')
  have lrr := lrr.keeps (Keeps.below hb6')
  have nrow := (Touch.of_below (F := fun _ => False) hb6').row nrow fun _ _ f => f
  have hb6 := hb5.trans (hb6'.mono hb5.size)
  clear c0 c1 c2 c3 c4 wrows hb6' hm5
  obtain ⟨c0, c1, c2, c3, c4⟩ := bx _ hb6
  go_wp2_with fail
  refine (CC _).mono ?_
  rintro e w7 ⟨rfl, hb7'⟩
  have hmine := hmine.keeps (Keeps.below hb7')
  have lrr := lrr.keeps (Keeps.below hb7')
  have wrr := wrr.keeps (Keeps.below hb7')
  have nrow := (Touch.of_below (F := fun _ => False) hb7').row nrow fun _ _ f => f
  have hb7 := hb6.trans (hb7'.mono hb6.size)
  have hm7 := hm.keeps (Keeps.below hb7)
  clear c0 c1 c2 c3 c4 hb7' SP SZ RS RC CC bx hb2 hb3 hb4 hb5 hb6
  have SA := sameRows_any la wa lc wc _ _ w7 lrr wrr
  rw [beq_rows] at SA
  generalize CutMath.split h m = ls at *
  have hz : ((ls.length : Int) != (ls.length : Int)) = false := bne_self_eq_false _
  go_wp2_with fail
  refine SA.mono ?_
  rintro e w8 ⟨j8, rfl, rfl⟩
  have SB := fun j => same_any va a vc cap m m (w7.drewN j) (hmine.keeps (Keeps.drewN _ _)) (hm7.keeps (Keeps.drewN _ _))
  rw [beq_bytes] at SB
  go_wp2_with fail
  refine (SB _).mono ?_
  rintro e w9 ⟨j9, rfl, hw9⟩
  rw [World.drewN_drewN] at hw9
  have hb9 : Below w1.heap.size w1 w9 := hw9 ▸ below_drewN hb7 _
  have k9 : Keeps w7 w9 := hw9 ▸ Keeps.drewN _ _
  have nrow := (Touch.refl (fun _ => False) w7).drewN (j8 + j9) |>.row nrow fun _ _ f => f
  rw [← hw9] at nrow
  have wrr := wrr.keeps k9
  clear SA SB hmine hm7 lrr k9 hw9
  have hl1 := wrr.fits
  have hl2 := wrr.room
  go_wp2
  go_loopw [12] (fun i wr => LoopRel ls.length w9 i wr) (fun i _ => ls.length - (intOf i).toNat)
  case atStart => exact ⟨0, 0, Nat.zero_le _, rfl, rfl⟩
  case round =>
    obtain ⟨k, j, hk, rfl, hw⟩ := hrel
    have hbr : Below w1.heap.size w1 wr := hw ▸ below_drewN hb9 j
    have kr : Keeps w9 wr := hw ▸ Keeps.drewN w9 j
    have HW := Lib.hid hw; clear hw
    by_cases hlt : k < ls.length
    · obtain ⟨g1, gc, e1, d1⟩ := ints_at nrow hlt rfl
      injection e1 with e1 _ e3
      subst e1 e3
      have d1 := kr _ _ d1
      rcases wrr.rows with e | ⟨b2, off2, rfl, hrows⟩
      · rw [e] at hlt; simp at hlt
      · obtain ⟨ai, ci, d2, _⟩ := hrows k hlt
        have d2 := kr _ _ d2
        clear hrows wrr nrow kr hz
        generalize (rowOf ls k).length = q at *
        have hz : ((q : Int) != (q : Int)) = false := bne_self_eq_false _
        go_wp2_with fail
        go_quiet (fail)
        go_wp2
        go_roundw
        case rel => exact ⟨k + 1, j + nq, by omega, by go_num, by rw [HW.out, World.drewN_drewN]⟩
        case measure => simp [intOf]; omega
    · clear wrr nrow kr hz
      go_wp2_with fail
      refine (lives_any _).mono ?_
      rintro e w10 ⟨rfl, hb10⟩
      go_wp2
      go_ret
      exact ⟨rfl, hb0.trans ((hbr.trans (hb10.mono hbr.size)).mono hb0.size)⟩
theorem cutSizes_walk (L M K W : Int) (s : BitVec 32) (a : Option Addr) (cap : Nat) (l : List (BitVec 8)) (w : World) (hr : Reads w a cap l) :
    Calls Try.prog 3 #[shapeV L M K W s, .slice a l.length cap] w fun e w' => e = .returned (.bool true) ∧ Below w.heap.size w w' := by
  cases hg : goodB L M K W
  · exact cutSizes_bad L M K W s a cap l w hr (bad_iff.1 hg)
  · obtain ⟨h, g, e, _⟩ := good_of (s := s) hg
    rw [e]
    exact cutSizes_good h g a cap l w hr
end Go.Proofs.Ytbjaeofooaikkaa
