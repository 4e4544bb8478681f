/- The law's walk: CutOften. -/
import Derived.Test.YtbjaeofooaikkaaCutPiecesW
import Derived.Test.YtbjaeofooaikkaaP
namespace Go.Proofs.Ytbjaeofooaikkaa
open Go Go.RowKit

theorem within_some (x : Int) (lo hi : Nat) (h : lo ≤ hi) : ∃ n : Nat, within x lo hi = n ∧ lo ≤ n ∧ n ≤ hi := by
  unfold within
  split
  · exact ⟨lo, rfl, Nat.le_refl _, h⟩
  · split
    · exact ⟨hi, rfl, h, Nat.le_refl _⟩
    · exact ⟨x.toNat, by omega, by omega, by omega⟩
theorem split_few' (h : CutMath.Sh) (l : List (BitVec 8)) : (CutMath.split h l).length ≤ l.length + 1 := by
  have := CutMath.feed_few h l []
  rcases split_cases h l with ⟨_, e⟩ | ⟨_, e⟩ <;> rw [e] <;> simp <;> omega
def S6 (b : Nat) (l k : Value) (v : World) : Prop := v.cell? ⟨b, 0, none⟩ = some l ∧ v.cell? ⟨b, 2, none⟩ = some k
set_option maxRecDepth 40000 in
set_option maxHeartbeats 4000000 in
theorem cutOften_walk (L M K W : Int) (s : BitVec 32) (a : Option Addr) (cap : Nat) (l : List (BitVec 8)) (w : World) (hr : Reads w a cap l) :
    Calls Try.prog 7 #[shapeV L M K W s, .slice a l.length cap] w fun e w' => e = .returned (.bool true) ∧ Below w.heap.size w w' := by
  obtain ⟨W', hW, hW1, hW2⟩ := within_some W 1 63 (by decide)
  obtain ⟨L', hL, hL1, hL2⟩ := within_some L W' 8192 (by omega)
  obtain ⟨K', hK, _, hK2⟩ := within_some K 0 20 (by decide)
  have WI1 := fun v => within_any W 1 63 v
  have WI2 := fun v => within_any L W' 8192 v
  have WI3 := fun v => within_any K 0 20 v
  have hW' : within W 1 63 = W' := hW
  have hL' : within L W' 8192 = L' := hL
  have hK' : within K 0 20 = K' := hK
  rw [hW'] at WI1
  rw [hL'] at WI2
  rw [hK'] at WI3
  clear hW hL hK hW' hL' hK'
  unfold shapeV at *
  have hb0 := (Below.refl w.heap.size w).alloc (Nat.le_refl _) (.cells #[.int .i64 L, .int .i64 M, .int .i64 K, .int .i64 W, U32 s] 24)
  have hr0 := hr.keeps (Keeps.below hb0)
  have hm := hr.take 2000
  clear hr
  go_enter Try.func7, Try.ntmps7
  go_wp2_with fail
  refine (cut_any a cap l 2000 _ _ rfl hr0 (by decide)).mono ?_
  rintro e w' ⟨rfl, rfl⟩
  have hlen : (l.take 2000).length ≤ 2000 := by rw [List.length_take]; omega
  generalize l.take 2000 = m at *
  clear hr0
  go_wp2_with fail
  refine (WI1 _).mono ?_
  rintro e w' ⟨rfl, rfl⟩
  go_wp2_with fail
  refine (WI2 _).mono ?_
  rintro e w' ⟨rfl, rfl⟩
  go_wp2_with fail
  have s0 : ∀ x : Of (S6 w.heap.size (.int .i64 L') (.int .i64 K)), _ := fun x => x.ok.1
  have s2 : ∀ x : Of (S6 w.heap.size (.int .i64 L') (.int .i64 K)), _ := fun x => x.ok.2
  obtain ⟨h, hh⟩ : ∃ h : CutMath.Sh, h = ⟨L', 0, 0, W', s⟩ := ⟨_, rfl⟩
  have hhL : h.L = L' := by rw [hh]
  have gO : (CutMath.often h).Good := by rw [hh]; exact ⟨hW1, hW2, hL1, hL2, Nat.le_refl 8192, Nat.zero_le 20⟩
  have gT : (CutMath.oneSize h K').Good := by rw [hh]; exact ⟨hW1, hW2, hL1, Nat.le_refl _, hL2, hK2⟩
  have SZ1 : ∀ v, Reads v a cap m → Calls Try.prog 13 #[.agg #[.int .i64 L', .int .i64 8192, .int .i64 0, .int .i64 W', U32 s], .slice a m.length cap] v (SizesC (CutMath.often h) m v) := fun v hv => by
    have := sizes_good (CutMath.often h) gO a cap m v (by omega) hv
    subst hh; exact this
  have SZ2 : ∀ v, Reads v a cap m → Calls Try.prog 13 #[.agg #[.int .i64 L', .int .i64 L', .int .i64 K', .int .i64 W', U32 s], .slice a m.length cap] v (SizesC (CutMath.oneSize h K') m v) := fun v hv => by
    have := sizes_good (CutMath.oneSize h K') gT a cap m v (by omega) hv
    subst hh; exact this
  have HSP := Lib.hid (CutMath.split_often h K' (by rw [hhL]; omega) (by rw [hhL]; omega) m)
  have OS : ∀ i, i < (CutMath.split (CutMath.often h) m).length - 1 → (rowOf (CutMath.split (CutMath.often h) m) i).length = L' := fun i hi => by
    rw [← hhL, rowOf_lt (by omega)]; exact CutMath.often_sizes h (by rw [hhL]; omega) (by rw [hhL]; omega) m i hi
  clear hh hhL gO gT
  go_region
  · go_wp2_with fail
    refine wp_region_plan [([0, 1, 3, 4], some 2), ([5], some 6), ([7], some 8)] (fun w' => ∃ x : Of (S6 w.heap.size (.int .i64 L') (.int .i64 K)), w' = x.to) (by kernel_rfl) (by kernel_rfl) (fun _ _ d _ _ h => by cases d <;> exact h) ?_ ?_
    · exact of_mk ⟨by go_simp, by go_simp⟩
    have ne : Nonempty (Of (S6 w.heap.size (.int .i64 L') (.int .i64 K))) := of_ne (w := w.alloc (.cells #[.int .i64 L', .int .i64 M, .int .i64 K, .int .i64 W', U32 s] 24)) ⟨by go_simp, by go_simp⟩
    refine plan_some (show wpQuiet _ _ _ _ (_ :: _ :: _ :: _ :: []) _ from ?_)
    repeat (go_big_quiet_step (fail))
    refine wpQuiet_nil (show wpList _ _ _ (_ :: []) _ _ from ?_)
    go_wp2_with fail
    refine (WI3 _).mono ?_
    rintro e w' ⟨rfl, rfl⟩
    go_wp2_with fail
    refine late_normal (fun _ h => h) (of_mk ⟨by go_simp, by go_simp⟩) ?_
    refine plan_some (show wpQuiet _ _ _ _ (_ :: []) _ from ?_)
    repeat (go_big_quiet_step (fail))
    refine wpQuiet_nil (show wpList _ _ _ (_ :: []) _ _ from ?_)
    go_wp2_with fail
    refine late_normal (fun _ h => h) (of_mk ⟨by go_simp, by go_simp⟩) ?_
    refine plan_some (show wpQuiet _ _ _ _ (_ :: []) _ from ?_)
    repeat (go_big_quiet_step (fail))
    refine wpQuiet_nil (show wpList _ _ _ (_ :: []) _ _ from ?_)
    go_wp2_with fail
    refine late_normal (fun _ h => h) (of_mk ⟨by go_simp, by go_simp⟩) ?_
    refine plan_nil ?_
    have hbW : Below w.heap.size w ((((w.alloc (.cells #[.int .i64 L', .int .i64 M, .int .i64 K, .int .i64 W', U32 s] 24)).alloc (.cells #[.int .i64 L', .int .i64 8192, .int .i64 0, .int .i64 W', U32 s] 24)).alloc (.cells #[.int .i64 L', .int .i64 L', .int .i64 K', .int .i64 W', U32 s] 24)).drew.drew) := ((((((Below.refl w.heap.size w).alloc (Nat.le_refl _) _).alloc (by simp) _).alloc (by simp; omega) _).drew).drew)
    have e0 : ((((w.alloc (.cells #[.int .i64 L', .int .i64 M, .int .i64 K, .int .i64 W', U32 s] 24)).alloc (.cells #[.int .i64 L', .int .i64 8192, .int .i64 0, .int .i64 W', U32 s] 24)).alloc (.cells #[.int .i64 L', .int .i64 L', .int .i64 K', .int .i64 W', U32 s] 24)).drew.drew).cell? ⟨w.heap.size, 0, none⟩ = some (.int .i64 L') := by go_simp
    have p0 : ((((w.alloc (.cells #[.int .i64 L', .int .i64 M, .int .i64 K, .int .i64 W', U32 s] 24)).alloc (.cells #[.int .i64 L', .int .i64 8192, .int .i64 0, .int .i64 W', U32 s] 24)).alloc (.cells #[.int .i64 L', .int .i64 L', .int .i64 K', .int .i64 W', U32 s] 24)).drew.drew).cell? ⟨w.heap.size + 1, 0, none⟩ = some (.int .i64 L') := by go_simp
    have p1 : ((((w.alloc (.cells #[.int .i64 L', .int .i64 M, .int .i64 K, .int .i64 W', U32 s] 24)).alloc (.cells #[.int .i64 L', .int .i64 8192, .int .i64 0, .int .i64 W', U32 s] 24)).alloc (.cells #[.int .i64 L', .int .i64 L', .int .i64 K', .int .i64 W', U32 s] 24)).drew.drew).cell? ⟨w.heap.size + 1, 1, none⟩ = some (.int .i64 8192) := by go_simp
    have p2 : ((((w.alloc (.cells #[.int .i64 L', .int .i64 M, .int .i64 K, .int .i64 W', U32 s] 24)).alloc (.cells #[.int .i64 L', .int .i64 8192, .int .i64 0, .int .i64 W', U32 s] 24)).alloc (.cells #[.int .i64 L', .int .i64 L', .int .i64 K', .int .i64 W', U32 s] 24)).drew.drew).cell? ⟨w.heap.size + 1, 2, none⟩ = some (.int .i64 0) := by go_simp
    have p3 : ((((w.alloc (.cells #[.int .i64 L', .int .i64 M, .int .i64 K, .int .i64 W', U32 s] 24)).alloc (.cells #[.int .i64 L', .int .i64 8192, .int .i64 0, .int .i64 W', U32 s] 24)).alloc (.cells #[.int .i64 L', .int .i64 L', .int .i64 K', .int .i64 W', U32 s] 24)).drew.drew).cell? ⟨w.heap.size + 1, 3, none⟩ = some (.int .i64 W') := by go_simp
    have p4 : ((((w.alloc (.cells #[.int .i64 L', .int .i64 M, .int .i64 K, .int .i64 W', U32 s] 24)).alloc (.cells #[.int .i64 L', .int .i64 8192, .int .i64 0, .int .i64 W', U32 s] 24)).alloc (.cells #[.int .i64 L', .int .i64 L', .int .i64 K', .int .i64 W', U32 s] 24)).drew.drew).cell? ⟨w.heap.size + 1, 4, none⟩ = some (U32 s) := by go_simp
    have q0 : ((((w.alloc (.cells #[.int .i64 L', .int .i64 M, .int .i64 K, .int .i64 W', U32 s] 24)).alloc (.cells #[.int .i64 L', .int .i64 8192, .int .i64 0, .int .i64 W', U32 s] 24)).alloc (.cells #[.int .i64 L', .int .i64 L', .int .i64 K', .int .i64 W', U32 s] 24)).drew.drew).cell? ⟨w.heap.size + 1 + 1, 0, none⟩ = some (.int .i64 L') := by go_simp
    have q1 : ((((w.alloc (.cells #[.int .i64 L', .int .i64 M, .int .i64 K, .int .i64 W', U32 s] 24)).alloc (.cells #[.int .i64 L', .int .i64 8192, .int .i64 0, .int .i64 W', U32 s] 24)).alloc (.cells #[.int .i64 L', .int .i64 L', .int .i64 K', .int .i64 W', U32 s] 24)).drew.drew).cell? ⟨w.heap.size + 1 + 1, 1, none⟩ = some (.int .i64 L') := by go_simp
    have q2 : ((((w.alloc (.cells #[.int .i64 L', .int .i64 M, .int .i64 K, .int .i64 W', U32 s] 24)).alloc (.cells #[.int .i64 L', .int .i64 8192, .int .i64 0, .int .i64 W', U32 s] 24)).alloc (.cells #[.int .i64 L', .int .i64 L', .int .i64 K', .int .i64 W', U32 s] 24)).drew.drew).cell? ⟨w.heap.size + 1 + 1, 2, none⟩ = some (.int .i64 K') := by go_simp
    have q3 : ((((w.alloc (.cells #[.int .i64 L', .int .i64 M, .int .i64 K, .int .i64 W', U32 s] 24)).alloc (.cells #[.int .i64 L', .int .i64 8192, .int .i64 0, .int .i64 W', U32 s] 24)).alloc (.cells #[.int .i64 L', .int .i64 L', .int .i64 K', .int .i64 W', U32 s] 24)).drew.drew).cell? ⟨w.heap.size + 1 + 1, 3, none⟩ = some (.int .i64 W') := by go_simp
    have q4 : ((((w.alloc (.cells #[.int .i64 L', .int .i64 M, .int .i64 K, .int .i64 W', U32 s] 24)).alloc (.cells #[.int .i64 L', .int .i64 8192, .int .i64 0, .int .i64 W', U32 s] 24)).alloc (.cells #[.int .i64 L', .int .i64 L', .int .i64 K', .int .i64 W', U32 s] 24)).drew.drew).cell? ⟨w.heap.size + 1 + 1, 4, none⟩ = some (U32 s) := by go_simp
    have hm2 := hm.keeps (Keeps.below hbW)
    clear hm s0 s2 ne
    generalize (((w.alloc (.cells #[.int .i64 L', .int .i64 M, .int .i64 K, .int .i64 W', U32 s] 24)).alloc (.cells #[.int .i64 L', .int .i64 8192, .int .i64 0, .int .i64 W', U32 s] 24)).alloc (.cells #[.int .i64 L', .int .i64 L', .int .i64 K', .int .i64 W', U32 s] 24)).drew.drew = w2 at *
    go_wp2_with fail
    refine (SZ1 _ hm2).mono ?_
    rintro e w3 ⟨xv, rfl, xrow, hb3⟩
    obtain ⟨xa, xc, rfl⟩ := row_form xrow
    have hm3 := hm2.keeps (Keeps.below hb3)
    have q0 := Keeps.below hb3 _ _ q0
    have q1 := Keeps.below hb3 _ _ q1
    have q2 := Keeps.below hb3 _ _ q2
    have q3 := Keeps.below hb3 _ _ q3
    have q4 := Keeps.below hb3 _ _ q4
    clear p0 p1 p2 p3 p4
    go_wp2_with fail
    refine (SZ2 _ hm3).mono ?_
    rintro e w4 ⟨yv, rfl, yrow, hb4⟩
    obtain ⟨ya, yc, rfl⟩ := row_form yrow
    clear q0 q1 q2 q3 q4 hm2 hm3
    have xrow4 := (Touch.of_below (F := fun _ => False) hb4).row xrow fun _ _ f => f
    have hb34 := hb3.trans (hb4.mono hb3.size)
    have e4 := Keeps.below hb34 _ _ e0
    have hbA := hbW.trans (hb34.mono hbW.size)
    rw [← HSP.out] at yrow ⊢
    have hz : (((CutMath.split (CutMath.often h) m).length : Int) != ((CutMath.split (CutMath.often h) m).length : Int)) = false := bne_self_eq_false _
    have hfew := split_few' (CutMath.often h) m
    clear e0 xrow hb3 hb4 hb34 hbW SZ1 SZ2
    generalize CutMath.split (CutMath.often h) m = X at *
    go_wp2
    go_loopw [11] (fun i wr => LoopRel X.length w4 i wr) (fun i _ => X.length - (intOf i).toNat)
    case atStart => exact ⟨0, 0, Nat.zero_le _, rfl, rfl⟩
    case round =>
      obtain ⟨k, j, hk, rfl, hw⟩ := hrel
      have hbr : Below w.heap.size w wr := hw ▸ below_drewN hbA j
      have kr : Keeps w4 wr := hw ▸ Keeps.drewN w4 j
      have HW := Lib.hid hw; clear hw
      by_cases hlt : k < X.length
      · obtain ⟨g1, gc, e1, d1⟩ := ints_at xrow4 hlt rfl
        injection e1 with e1 _ e3
        subst e1 e3
        obtain ⟨g2, gc2, e1, d2⟩ := ints_at yrow hlt rfl
        injection e1 with e1 _ e3
        subst e1 e3
        have d1 := kr _ _ d1
        have d2 := kr _ _ d2
        have d3 := kr _ _ e4
        have OS' := OS k
        clear xrow4 yrow kr hz OS e4
        generalize (rowOf X k).length = q at *
        have hz : ((q : Int) != (q : Int)) = false := bne_self_eq_false _
        by_cases hl : k < X.length - 1
        · have hq := OS' hl
          have hql : ((q : Int) != (L' : Int)) = false := by
            rw [hq]; exact bne_self_eq_false _
          have hl2 : decide ((k : Int) < (X.length : Int) - 1) = true := by rw [decide_eq_true_eq]; omega
          clear OS' hq
          go_wp2_with fail
          go_quiet (fail)
          go_wp2
          go_roundw
          case rel => exact ⟨k + 1, j + nq, by omega, by go_num, by rw [HW.out, World.drewN_drewN]⟩
          case measure => simp [intOf]; omega
        · have hl2 : decide ((k : Int) < (X.length : Int) - 1) = false := by rw [decide_eq_false_iff_not]; omega
          clear OS'
          go_wp2_with fail
          go_quiet (fail)
          go_wp2
          go_roundw
          case rel => exact ⟨k + 1, j + nq, by omega, by go_num, by rw [HW.out, World.drewN_drewN]⟩
          case measure => simp [intOf]; omega
      · clear xrow4 yrow kr hz OS e4
        go_wp2_with fail
        refine (lives_any _).mono ?_
        rintro e w10 ⟨rfl, hb10⟩
        go_wp2
        go_ret
        exact ⟨rfl, hbr.trans (hb10.mono hbr.size)⟩
  · go_wp2_with fail
    refine wp_region_plan [([0, 1, 3, 4], some 2), ([5], some 6), ([7], some 8)] (fun w' => ∃ x : Of (S6 w.heap.size (.int .i64 L') (.int .i64 K)), w' = x.to) (by kernel_rfl) (by kernel_rfl) (fun _ _ d _ _ h => by cases d <;> exact h) ?_ ?_
    · exact of_mk ⟨by go_simp, by go_simp⟩
    have ne : Nonempty (Of (S6 w.heap.size (.int .i64 L') (.int .i64 K))) := of_ne (w := w.alloc (.cells #[.int .i64 L', .int .i64 M, .int .i64 K, .int .i64 W', U32 s] 24)) ⟨by go_simp, by go_simp⟩
    refine plan_some (show wpQuiet _ _ _ _ (_ :: _ :: _ :: _ :: []) _ from ?_)
    repeat (go_big_quiet_step (fail))
    refine wpQuiet_nil (show wpList _ _ _ (_ :: []) _ _ from ?_)
    go_wp2_with fail
    refine (WI3 _).mono ?_
    rintro e w' ⟨rfl, rfl⟩
    go_wp2_with fail
    refine late_normal (fun _ h => h) (of_mk ⟨by go_simp, by go_simp⟩) ?_
    refine plan_some (show wpQuiet _ _ _ _ (_ :: []) _ from ?_)
    repeat (go_big_quiet_step (fail))
    refine wpQuiet_nil (show wpList _ _ _ (_ :: []) _ _ from ?_)
    go_wp2_with fail
    refine late_normal (fun _ h => h) (of_mk ⟨by go_simp, by go_simp⟩) ?_
    refine plan_some (show wpQuiet _ _ _ _ (_ :: []) _ from ?_)
    repeat (go_big_quiet_step (fail))
    refine wpQuiet_nil (show wpList _ _ _ (_ :: []) _ _ from ?_)
    go_wp2_with fail
    refine late_normal (fun _ h => h) (of_mk ⟨by go_simp, by go_simp⟩) ?_
    refine plan_nil ?_
    have hbW : Below w.heap.size w ((((w.alloc (.cells #[.int .i64 L', .int .i64 M, .int .i64 K, .int .i64 W', U32 s] 24)).alloc (.cells #[.int .i64 L', .int .i64 L', .int .i64 K', .int .i64 W', U32 s] 24)).alloc (.cells #[.int .i64 L', .int .i64 8192, .int .i64 0, .int .i64 W', U32 s] 24)).drew.drew) := ((((((Below.refl w.heap.size w).alloc (Nat.le_refl _) _).alloc (by simp) _).alloc (by simp; omega) _).drew).drew)
    have e0 : ((((w.alloc (.cells #[.int .i64 L', .int .i64 M, .int .i64 K, .int .i64 W', U32 s] 24)).alloc (.cells #[.int .i64 L', .int .i64 L', .int .i64 K', .int .i64 W', U32 s] 24)).alloc (.cells #[.int .i64 L', .int .i64 8192, .int .i64 0, .int .i64 W', U32 s] 24)).drew.drew).cell? ⟨w.heap.size, 0, none⟩ = some (.int .i64 L') := by go_simp
    have p0 : ((((w.alloc (.cells #[.int .i64 L', .int .i64 M, .int .i64 K, .int .i64 W', U32 s] 24)).alloc (.cells #[.int .i64 L', .int .i64 L', .int .i64 K', .int .i64 W', U32 s] 24)).alloc (.cells #[.int .i64 L', .int .i64 8192, .int .i64 0, .int .i64 W', U32 s] 24)).drew.drew).cell? ⟨w.heap.size + 1 + 1, 0, none⟩ = some (.int .i64 L') := by go_simp
    have p1 : ((((w.alloc (.cells #[.int .i64 L', .int .i64 M, .int .i64 K, .int .i64 W', U32 s] 24)).alloc (.cells #[.int .i64 L', .int .i64 L', .int .i64 K', .int .i64 W', U32 s] 24)).alloc (.cells #[.int .i64 L', .int .i64 8192, .int .i64 0, .int .i64 W', U32 s] 24)).drew.drew).cell? ⟨w.heap.size + 1 + 1, 1, none⟩ = some (.int .i64 8192) := by go_simp
    have p2 : ((((w.alloc (.cells #[.int .i64 L', .int .i64 M, .int .i64 K, .int .i64 W', U32 s] 24)).alloc (.cells #[.int .i64 L', .int .i64 L', .int .i64 K', .int .i64 W', U32 s] 24)).alloc (.cells #[.int .i64 L', .int .i64 8192, .int .i64 0, .int .i64 W', U32 s] 24)).drew.drew).cell? ⟨w.heap.size + 1 + 1, 2, none⟩ = some (.int .i64 0) := by go_simp
    have p3 : ((((w.alloc (.cells #[.int .i64 L', .int .i64 M, .int .i64 K, .int .i64 W', U32 s] 24)).alloc (.cells #[.int .i64 L', .int .i64 L', .int .i64 K', .int .i64 W', U32 s] 24)).alloc (.cells #[.int .i64 L', .int .i64 8192, .int .i64 0, .int .i64 W', U32 s] 24)).drew.drew).cell? ⟨w.heap.size + 1 + 1, 3, none⟩ = some (.int .i64 W') := by go_simp
    have p4 : ((((w.alloc (.cells #[.int .i64 L', .int .i64 M, .int .i64 K, .int .i64 W', U32 s] 24)).alloc (.cells #[.int .i64 L', .int .i64 L', .int .i64 K', .int .i64 W', U32 s] 24)).alloc (.cells #[.int .i64 L', .int .i64 8192, .int .i64 0, .int .i64 W', U32 s] 24)).drew.drew).cell? ⟨w.heap.size + 1 + 1, 4, none⟩ = some (U32 s) := by go_simp
    have q0 : ((((w.alloc (.cells #[.int .i64 L', .int .i64 M, .int .i64 K, .int .i64 W', U32 s] 24)).alloc (.cells #[.int .i64 L', .int .i64 L', .int .i64 K', .int .i64 W', U32 s] 24)).alloc (.cells #[.int .i64 L', .int .i64 8192, .int .i64 0, .int .i64 W', U32 s] 24)).drew.drew).cell? ⟨w.heap.size + 1, 0, none⟩ = some (.int .i64 L') := by go_simp
    have q1 : ((((w.alloc (.cells #[.int .i64 L', .int .i64 M, .int .i64 K, .int .i64 W', U32 s] 24)).alloc (.cells #[.int .i64 L', .int .i64 L', .int .i64 K', .int .i64 W', U32 s] 24)).alloc (.cells #[.int .i64 L', .int .i64 8192, .int .i64 0, .int .i64 W', U32 s] 24)).drew.drew).cell? ⟨w.heap.size + 1, 1, none⟩ = some (.int .i64 L') := by go_simp
    have q2 : ((((w.alloc (.cells #[.int .i64 L', .int .i64 M, .int .i64 K, .int .i64 W', U32 s] 24)).alloc (.cells #[.int .i64 L', .int .i64 L', .int .i64 K', .int .i64 W', U32 s] 24)).alloc (.cells #[.int .i64 L', .int .i64 8192, .int .i64 0, .int .i64 W', U32 s] 24)).drew.drew).cell? ⟨w.heap.size + 1, 2, none⟩ = some (.int .i64 K') := by go_simp
    have q3 : ((((w.alloc (.cells #[.int .i64 L', .int .i64 M, .int .i64 K, .int .i64 W', U32 s] 24)).alloc (.cells #[.int .i64 L', .int .i64 L', .int .i64 K', .int .i64 W', U32 s] 24)).alloc (.cells #[.int .i64 L', .int .i64 8192, .int .i64 0, .int .i64 W', U32 s] 24)).drew.drew).cell? ⟨w.heap.size + 1, 3, none⟩ = some (.int .i64 W') := by go_simp
    have q4 : ((((w.alloc (.cells #[.int .i64 L', .int .i64 M, .int .i64 K, .int .i64 W', U32 s] 24)).alloc (.cells #[.int .i64 L', .int .i64 L', .int .i64 K', .int .i64 W', U32 s] 24)).alloc (.cells #[.int .i64 L', .int .i64 8192, .int .i64 0, .int .i64 W', U32 s] 24)).drew.drew).cell? ⟨w.heap.size + 1, 4, none⟩ = some (U32 s) := by go_simp
    have hm2 := hm.keeps (Keeps.below hbW)
    clear hm s0 s2 ne
    generalize (((w.alloc (.cells #[.int .i64 L', .int .i64 M, .int .i64 K, .int .i64 W', U32 s] 24)).alloc (.cells #[.int .i64 L', .int .i64 L', .int .i64 K', .int .i64 W', U32 s] 24)).alloc (.cells #[.int .i64 L', .int .i64 8192, .int .i64 0, .int .i64 W', U32 s] 24)).drew.drew = w2 at *
    go_wp2_with fail
    refine (SZ1 _ hm2).mono ?_
    rintro e w3 ⟨xv, rfl, xrow, hb3⟩
    obtain ⟨xa, xc, rfl⟩ := row_form xrow
    have hm3 := hm2.keeps (Keeps.below hb3)
    have q0 := Keeps.below hb3 _ _ q0
    have q1 := Keeps.below hb3 _ _ q1
    have q2 := Keeps.below hb3 _ _ q2
    have q3 := Keeps.below hb3 _ _ q3
    have q4 := Keeps.below hb3 _ _ q4
    clear p0 p1 p2 p3 p4
    go_wp2_with fail
    refine (SZ2 _ hm3).mono ?_
    rintro e w4 ⟨yv, rfl, yrow, hb4⟩
    obtain ⟨ya, yc, rfl⟩ := row_form yrow
    clear q0 q1 q2 q3 q4 hm2 hm3
    have xrow4 := (Touch.of_below (F := fun _ => False) hb4).row xrow fun _ _ f => f
    have hb34 := hb3.trans (hb4.mono hb3.size)
    have e4 := Keeps.below hb34 _ _ e0
    have hbA := hbW.trans (hb34.mono hbW.size)
    rw [← HSP.out] at yrow ⊢
    have hz : (((CutMath.split (CutMath.often h) m).length : Int) != ((CutMath.split (CutMath.often h) m).length : Int)) = false := bne_self_eq_false _
    have hfew := split_few' (CutMath.often h) m
    clear e0 xrow hb3 hb4 hb34 hbW SZ1 SZ2
    generalize CutMath.split (CutMath.often h) m = X at *
    go_wp2
    go_loopw [11] (fun i wr => LoopRel X.length w4 i wr) (fun i _ => X.length - (intOf i).toNat)
    case atStart => exact ⟨0, 0, Nat.zero_le _, rfl, rfl⟩
    case round =>
      obtain ⟨k, j, hk, rfl, hw⟩ := hrel
      have hbr : Below w.heap.size w wr := hw ▸ below_drewN hbA j
      have kr : Keeps w4 wr := hw ▸ Keeps.drewN w4 j
      have HW := Lib.hid hw; clear hw
      by_cases hlt : k < X.length
      · obtain ⟨g1, gc, e1, d1⟩ := ints_at xrow4 hlt rfl
        injection e1 with e1 _ e3
        subst e1 e3
        obtain ⟨g2, gc2, e1, d2⟩ := ints_at yrow hlt rfl
        injection e1 with e1 _ e3
        subst e1 e3
        have d1 := kr _ _ d1
        have d2 := kr _ _ d2
        have d3 := kr _ _ e4
        have OS' := OS k
        clear xrow4 yrow kr hz OS e4
        generalize (rowOf X k).length = q at *
        have hz : ((q : Int) != (q : Int)) = false := bne_self_eq_false _
        by_cases hl : k < X.length - 1
        · have hq := OS' hl
          have hql : ((q : Int) != (L' : Int)) = false := by
            rw [hq]; exact bne_self_eq_false _
          have hl2 : decide ((k : Int) < (X.length : Int) - 1) = true := by rw [decide_eq_true_eq]; omega
          clear OS' hq
          go_wp2_with fail
          go_quiet (fail)
          go_wp2
          go_roundw
          case rel => exact ⟨k + 1, j + nq, by omega, by go_num, by rw [HW.out, World.drewN_drewN]⟩
          case measure => simp [intOf]; omega
        · have hl2 : decide ((k : Int) < (X.length : Int) - 1) = false := by rw [decide_eq_false_iff_not]; omega
          clear OS'
          go_wp2_with fail
          go_quiet (fail)
          go_wp2
          go_roundw
          case rel => exact ⟨k + 1, j + nq, by omega, by go_num, by rw [HW.out, World.drewN_drewN]⟩
          case measure => simp [intOf]; omega
      · clear xrow4 yrow kr hz OS e4
        go_wp2_with fail
        refine (lives_any _).mono ?_
        rintro e w10 ⟨rfl, hb10⟩
        go_wp2
        go_ret
        exact ⟨rfl, hbr.trans (hb10.mono hbr.size)⟩
end Go.Proofs.Ytbjaeofooaikkaa
