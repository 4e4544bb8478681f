/- The law's walk: CutMeets. -/
import Derived.Test.YtbjaeofooaikkaaCutPiecesW
import Derived.Test.YtbjaeofooaikkaaP
namespace Go.Proofs.Ytbjaeofooaikkaa
open Go Go.RowKit

theorem split_few (h : CutMath.Sh) (l : List (BitVec 8)) : (CutMath.split h l).length ≤ l.length + 1 := by
  have := CutMath.feed_few h l []
  rcases split_cases h l with ⟨_, e⟩ | ⟨_, e⟩ <;> rw [e] <;> simp <;> omega
theorem rows_from (w : World) (a : Option Addr) (len cap n : Nat) (h : n ≤ len) : (Instr.slice 28 (.slice a len cap) (some (.int .i64 (n : Int))) none none).run Try.prog w = .ok (.slice (dropAddr a cap n) (len - n) (cap - n)) w :=
  run_from_elem rowsElem w a len cap .i64 n (n : Int) rfl h
/-- Rows from a place on are those. -/
theorem same_from (xa za : Option Addr) (xc zc : Nat) (X Z : Rows) (p : Nat) (w : World) (hx : RR w xa xc X) (hz : RR w za zc Z) (hp : p ≤ X.length) (e : X.drop p = Z) :
    Calls Try.prog 18 #[.slice (dropAddr xa xc p) (X.length - p) (xc - p), .slice za Z.length zc] w (Tells w true) := by
  have := sameRows_any (dropAddr xa xc p) za (xc - p) zc (X.drop p) Z w (hx.drop p hp) hz
  rw [List.length_drop, e, beq_rows] at this
  exact this
theorem same_both (xa ya : Option Addr) (xc yc : Nat) (X Y : Rows) (p q : Nat) (w : World) (hx : RR w xa xc X) (hy : RR w ya yc Y) (hp : p ≤ X.length) (hq : q ≤ Y.length) (e : X.drop p = Y.drop q) :
    Calls Try.prog 18 #[.slice (dropAddr xa xc p) (X.length - p) (xc - p), .slice (dropAddr ya yc q) (Y.length - q) (yc - q)] w (Tells w true) := by
  have := same_from xa (dropAddr ya yc q) xc (yc - q) X (Y.drop q) p w hx (hy.drop q hq) hp e
  rw [List.length_drop] at this
  exact this
set_option maxRecDepth 40000 in
set_option maxHeartbeats 4000000 in
theorem cutMeets_good (h : CutMath.Sh) (g : h.Good) (a : Option Addr) (cap : Nat) (l : List (BitVec 8)) (a2 : Option Addr) (cap2 : Nat) (l2 : List (BitVec 8)) (a3 : Option Addr) (cap3 : Nat) (l3 : List (BitVec 8)) (w : World) (hr : Reads w a cap l) (hr2 : Reads w a2 cap2 l2) (hr3 : Reads w a3 cap3 l3) :
    Calls Try.prog 6 #[shV h, .slice a l.length cap, .slice a2 l2.length cap2, .slice a3 l3.length cap3] w fun e w' => e = .returned (.bool true) ∧ Below w.heap.size w w' := by
  have SP := fun (v : World) (a : Option Addr) (cap : Nat) (l : List (BitVec 8)) (hl : l.length ≤ 3000) (hr : Reads v a cap l) => cutSplit_good h g a cap l v (by omega) hr
  unfold shV shapeV at *
  have hb0 := (Below.refl w.heap.size w).alloc (Nat.le_refl _) (.cells #[.int .i64 h.L, .int .i64 h.M, .int .i64 h.K, .int .i64 h.W, U32 h.s] 24)
  have bx := box5 w (.int .i64 h.L) (.int .i64 h.M) (.int .i64 h.K) (.int .i64 h.W) (U32 h.s) 24
  have hr0 := hr.keeps (Keeps.below hb0)
  have hr20 := hr2.keeps (Keeps.below hb0)
  have hr30 := hr3.keeps (Keeps.below hb0)
  clear hr hr2 hr3
  go_enter Try.func6, Try.ntmps6
  go_wp2_with fail
  generalize w.alloc (.cells #[.int .i64 h.L, .int .i64 h.M, .int .i64 h.K, .int .i64 h.W, U32 h.s] 24) = w1 at *
  refine (cut_any a cap l 1000 _ _ rfl hr0 (by decide)).mono ?_
  rintro e w' ⟨rfl, rfl⟩
  have hm := hr0.take 1000
  have hlen : (l.take 1000).length ≤ 1000 := by rw [List.length_take]; omega
  generalize l.take 1000 = m at *
  go_wp2_with fail
  refine (cut_any a2 cap2 l2 1000 _ _ rfl hr20 (by decide)).mono ?_
  rintro e w' ⟨rfl, rfl⟩
  have hm2 := hr20.take 1000
  have hlen2 : (l2.take 1000).length ≤ 1000 := by rw [List.length_take]; omega
  generalize l2.take 1000 = m2 at *
  go_wp2_with fail
  refine (cut_any a3 cap3 l3 1500 _ _ rfl hr30 (by decide)).mono ?_
  rintro e w' ⟨rfl, rfl⟩
  have hm3 := hr30.take 1500
  have hlen3 : (l3.take 1500).length ≤ 1500 := by rw [List.length_take]; omega
  generalize l3.take 1500 = m3 at *
  clear hr0 hr20 hr30
  have c0 : ∀ x : Later w1, _ := fun x => (bx x.to x.below).1
  have c1 : ∀ x : Later w1, _ := fun x => (bx x.to x.below).2.1
  have c2 : ∀ x : Later w1, _ := fun x => (bx x.to x.below).2.2.1
  have c3 : ∀ x : Later w1, _ := fun x => (bx x.to x.below).2.2.2.1
  have c4 : ∀ x : Later w1, _ := fun x => (bx x.to x.below).2.2.2.2
  go_wp2_with fail
  refine wp_region_plan [([0, 1, 3], some 2), ([], some 4), ([], some 5), ([6, 7, 8, 9, 10], none)] (fun w' => ∃ x : Later w1, w' = x.to) (by kernel_rfl) (by kernel_rfl) (fun _ _ d _ _ h => by cases d <;> exact h) (later_drew w1) ?_
  refine plan_some (show wpQuiet _ _ _ _ (_ :: _ :: _ :: []) _ from ?_)
  repeat (go_big_quiet_step (fail))
  refine wpQuiet_nil (show wpList _ _ _ (_ :: []) _ _ from ?_)
  have hm1 := hm.keeps (Keeps.drewN w1 1)
  have hb1 := (Below.refl w1.heap.size w1).drew
  have CO := copy_any a cap m w1.drew hm1 (by omega)
  generalize hw : w1.drew = w2 at *
  clear hw hm1
  go_wp2_with fail
  refine CO.mono ?_
  rintro e w3 ⟨v, rfl, ho, hb3'⟩
  have hb3 := hb1.trans (hb3'.mono hb1.size)
  have hm33 := hm3.keeps (Keeps.below hb3)
  have hsz : w2.heap.size ≤ w3.heap.size := hb3'.size
  have hs12 := hb1.size
  go_wp2_with fail
  refine late_normal (fun _ h => h) (later_of hb3) ?_
  refine plan_some (show wpQuiet _ _ _ _ [] _ from ?_)
  refine wpQuiet_nil (show wpList _ _ _ (_ :: []) _ _ from ?_)
  go_wp2_with (at_builtin; refine wpList_append_bytes_at byteSlice rfl _ _ rfl w2.heap.size v m rfl ho a3 cap3 m3 rfl hm33 (by omega) hsz ?_; intro v' w5 ho5 hg5 _)
  have hb5 : Below w1.heap.size w1 w5 := hb3.trans ((Touch.of_grown (F := fun k => v.ownBlock = some k) hg5 fun k hk => hk).below (fun k hk => Nat.le_trans hs12 (row_lt ho hk).1) (Nat.le_trans hs12 hsz))
  have hlx : (m ++ m3).length ≤ 2500 := by rw [List.length_append]; omega
  obtain ⟨x, hx⟩ : ∃ x, m ++ m3 = x := ⟨_, rfl⟩
  rw [hx] at ho5 hlx
  have HX := Lib.hid hx
  clear hx
  obtain ⟨va, vc, rfl, hxr⟩ := ho5.reads
  have SP1 := SP w5 va vc x (by omega) hxr
  clear ho5 hg5 hxr ho hb3' hb3 hm33 hsz hs12 CO hb1
  refine late_normal (fun _ h => h) (later_of hb5) ?_
  refine plan_some (show wpQuiet _ _ _ _ [] _ from ?_)
  refine wpQuiet_nil (show wpList _ _ _ (_ :: []) _ _ from ?_)
  go_wp2_with fail
  refine SP1.mono ?_
  rintro e w6 ⟨xv, xvs, rfl, xrows, hb6'⟩
  have hb6 := hb5.trans (hb6'.mono hb5.size)
  go_wp2_with fail
  refine late_normal (fun _ h => h) (later_of hb6) ?_
  refine plan_none (show wpQuiet _ _ _ _ (_ :: _ :: _ :: _ :: _ :: []) _ from ?_)
  repeat (go_big_quiet_step (fail))
  refine wpQuiet_nil (plan_nil ?_)
  obtain ⟨xa, xc, rfl, xrr⟩ := xrows.rr
  clear xrows SP1 hb5 hb6' c0 c1 c2 c3 c4
  have hm2x := hm2.keeps (Keeps.below hb6)
  have hm3x := hm3.keeps (Keeps.below hb6)
  have b6 : ∀ x : Later w6, Below w1.heap.size w1 x.to := fun x => hb6.trans (x.below.mono hb6.size)
  have c0 : ∀ x : Later w6, _ := fun x => (bx x.to (b6 x)).1
  have c1 : ∀ x : Later w6, _ := fun x => (bx x.to (b6 x)).2.1
  have c2 : ∀ x : Later w6, _ := fun x => (bx x.to (b6 x)).2.2.1
  have c3 : ∀ x : Later w6, _ := fun x => (bx x.to (b6 x)).2.2.2.1
  have c4 : ∀ x : Later w6, _ := fun x => (bx x.to (b6 x)).2.2.2.2
  go_wp2_with fail
  refine wp_region_plan [([0, 1, 3], some 2), ([], some 4), ([], some 5), ([6, 7, 8, 9, 10], none)] (fun w' => ∃ x : Later w6, w' = x.to) (by kernel_rfl) (by kernel_rfl) (fun _ _ d _ _ h => by cases d <;> exact h) (later_drew w6) ?_
  refine plan_some (show wpQuiet _ _ _ _ (_ :: _ :: _ :: []) _ from ?_)
  repeat (go_big_quiet_step (fail))
  refine wpQuiet_nil (show wpList _ _ _ (_ :: []) _ _ from ?_)
  have hm1 := hm2x.keeps (Keeps.drewN w6 1)
  have hb1 := (Below.refl w6.heap.size w6).drew
  have CO := copy_any a2 cap2 m2 w6.drew hm1 (by omega)
  generalize hw : w6.drew = w7 at *
  clear hw hm1
  go_wp2_with fail
  refine CO.mono ?_
  rintro e w8 ⟨v, rfl, ho, hb3'⟩
  have hb3 := hb1.trans (hb3'.mono hb1.size)
  have hm33 := hm3x.keeps (Keeps.below hb3)
  have hsz : w7.heap.size ≤ w8.heap.size := hb3'.size
  have hs12 := hb1.size
  go_wp2_with fail
  refine late_normal (fun _ h => h) (later_of hb3) ?_
  refine plan_some (show wpQuiet _ _ _ _ [] _ from ?_)
  refine wpQuiet_nil (show wpList _ _ _ (_ :: []) _ _ from ?_)
  go_wp2_with (at_builtin; refine wpList_append_bytes_at byteSlice rfl _ _ rfl w7.heap.size v m2 rfl ho a3 cap3 m3 rfl hm33 (by omega) hsz ?_; intro v' w10 ho5 hg5 _)
  have hb5 : Below w6.heap.size w6 w10 := hb3.trans ((Touch.of_grown (F := fun k => v.ownBlock = some k) hg5 fun k hk => hk).below (fun k hk => Nat.le_trans hs12 (row_lt ho hk).1) (Nat.le_trans hs12 hsz))
  have hly : (m2 ++ m3).length ≤ 2500 := by rw [List.length_append]; omega
  obtain ⟨y, hy⟩ : ∃ y, m2 ++ m3 = y := ⟨_, rfl⟩
  rw [hy] at ho5 hly
  have HY := Lib.hid hy
  clear hy
  obtain ⟨va, vc, rfl, hxr⟩ := ho5.reads
  have SP1 := SP w10 va vc y (by omega) hxr
  clear ho5 hg5 hxr ho hb3' hb3 hm33 hsz hs12 CO hb1
  refine late_normal (fun _ h => h) (later_of hb5) ?_
  refine plan_some (show wpQuiet _ _ _ _ [] _ from ?_)
  refine wpQuiet_nil (show wpList _ _ _ (_ :: []) _ _ from ?_)
  go_wp2_with fail
  refine SP1.mono ?_
  rintro e w11 ⟨yv, yvs, rfl, yrows, hb11'⟩
  have hb11 := hb5.trans (hb11'.mono hb5.size)
  go_wp2_with fail
  refine late_normal (fun _ h => h) (later_of hb11) ?_
  refine plan_none (show wpQuiet _ _ _ _ (_ :: _ :: _ :: _ :: _ :: []) _ from ?_)
  repeat (go_big_quiet_step (fail))
  refine wpQuiet_nil (plan_nil ?_)
  obtain ⟨ya, yc, rfl, yrr⟩ := yrows.rr
  clear yrows SP1 hb5 hb11' c0 c1 c2 c3 c4
  have hbA := hb6.trans (hb11.mono hb6.size)
  have hm3y := hm3.keeps (Keeps.below hbA)
  have xrr := xrr.keeps (Keeps.below hb11)
  obtain ⟨c0, c1, c2, c3, c4⟩ := bx _ hbA
  go_wp2_with fail
  refine (SP _ _ _ _ (by omega) hm3y).mono ?_
  rintro e w12 ⟨zv, zvs, rfl, zrows, hb12⟩
  obtain ⟨za, zc, rfl, zrr⟩ := zrows.rr
  have xrr := xrr.keeps (Keeps.below hb12)
  have yrr := yrr.keeps (Keeps.below hb12)
  have hbA := hbA.trans (hb12.mono hbA.size)
  have MX : ∀ p, p ≤ (CutMath.split h x).length → CutMath.pre (CutMath.split h x) p = m.length → (CutMath.split h x).drop p = CutMath.split h m3 := by
    intro p p1 p2
    rw [← HX.out] at p1 p2 ⊢
    exact CutMath.split_meets h p m m3 p1 p2
  have MY : ∀ p, p ≤ (CutMath.split h y).length → CutMath.pre (CutMath.split h y) p = m2.length → (CutMath.split h y).drop p = CutMath.split h m3 := by
    intro p p1 p2
    rw [← HY.out] at p1 p2 ⊢
    exact CutMath.split_meets h p m2 m3 p1 p2
  have FX := fun v (k : Keeps w12 v) => from_any xa xc (CutMath.split h x) m.length v (xrr.keeps k) (by rw [CutMath.split_join]; omega) (by have := split_few h x; omega)
  have FY := fun v (k : Keeps w12 v) => from_any ya yc (CutMath.split h y) m2.length v (yrr.keeps k) (by rw [CutMath.split_join]; omega) (by have := split_few h y; omega)
  clear c0 c1 c2 c3 c4 zrows SP bx hm3y hm2x hm3x hm hm2 hm3 hb12 hb11 hb6 b6
  generalize CutMath.split h x = X at *
  generalize CutMath.split h y = Y at *
  generalize CutMath.split h m3 = Z at *
  go_wp2_with fail
  refine (FX _ (Keeps.refl _)).mono ?_
  rintro e w' ⟨rfl, hfx⟩
  obtain ⟨P, rfl, hfx2⟩ : ∃ P : Int, e = .returned (.int .i64 P) ∧ (P = -1 ∨ ∃ p : Nat, P = p ∧ p ≤ X.length ∧ CutMath.pre X p = m.length) := by
    rcases hfx with e1 | ⟨p, e1, e2, e3⟩
    · exact ⟨-1, e1, .inl rfl⟩
    · exact ⟨p, e1, .inr ⟨p, rfl, e2, e3⟩⟩
  clear hfx
  go_wp2_with fail
  refine (FY _ (Keeps.refl _)).mono ?_
  rintro e w' ⟨rfl, hfy⟩
  obtain ⟨Q, rfl, hfy2⟩ : ∃ P : Int, e = .returned (.int .i64 P) ∧ (P = -1 ∨ ∃ p : Nat, P = p ∧ p ≤ Y.length ∧ CutMath.pre Y p = m2.length) := by
    rcases hfy with e1 | ⟨p, e1, e2, e3⟩
    · exact ⟨-1, e1, .inl rfl⟩
    · exact ⟨p, e1, .inr ⟨p, rfl, e2, e3⟩⟩
  clear hfy FX FY
  rcases hfx2 with hfx2 | hfx2 <;> rcases hfy2 with hfy2 | hfy2
  · obtain rfl := hfx2
    obtain rfl := hfy2
    clear xrr yrr zrr MX MY
    have hb13 : Below w12.heap.size w12 w12 := Below.refl _ _
    go_wp2_with fail
    obtain ⟨w13, hw13⟩ : ∃ v, v = w12 := ⟨_, rfl⟩
    rw [← hw13] at hb13 hbA ⊢
    clear hw13
    refine wp_region_plan [([0, 1, 2, 3, 4, 5, 6, 7, 8, 9, 10, 11, 12], some 13), ([14, 15], some 16), ([17, 18], none)] (fun w' => ∃ x : Later w13, w' = x.to) (by kernel_rfl) (by kernel_rfl) (fun _ _ d _ _ h => by cases d <;> exact h) (later_drew w13) ?_
    refine plan_some (show wpQuiet _ _ _ _ (_ :: _ :: _ :: _ :: _ :: _ :: _ :: _ :: _ :: _ :: _ :: _ :: _ :: []) _ from ?_)
    repeat (go_big_quiet_step (fail))
    refine wpQuiet_nil (show wpList _ _ _ (_ :: []) _ _ from ?_)
    have hb14 := (Below.refl w13.heap.size w13).drew
    generalize w13.drew = w14 at *
    go_wp2_with fail
    refine late_normal (fun _ h => h) (later_of hb14) ?_
    refine plan_some (show wpQuiet _ _ _ _ (_ :: _ :: []) _ from ?_)
    repeat (go_big_quiet_step (fail))
    refine wpQuiet_nil (show wpList _ _ _ (_ :: []) _ _ from ?_)
    go_wp2_with fail
    refine (lives_any _).mono ?_
    rintro e w15 ⟨rfl, hb15'⟩
    have hb15 := hb14.trans (hb15'.mono hb14.size)
    go_wp2_with fail
    refine late_normal (fun _ h => h) (later_of hb15) ?_
    refine plan_none (show wpQuiet _ _ _ _ (_ :: _ :: []) _ from ?_)
    repeat (go_big_quiet_step (fail))
    refine wpQuiet_nil (plan_nil ?_)
    go_wp2
    go_ret
    have hbB := hbA.trans (hb13.mono hbA.size)
    exact ⟨rfl, hb0.trans ((hbB.trans (hb15.mono hbB.size)).mono hb0.size)⟩
  · obtain rfl := hfx2
    obtain ⟨q, rfl, hq, hq2⟩ := hfy2
    have S2 := fun v (k : Keeps w12 v) => same_from ya za yc zc Y Z q v (yrr.keeps k) (zrr.keeps k) hq (MY q hq hq2)
    have sl2 := fun w => rows_from w ya Y.length yc q hq
    have q0 : (0 : Int) ≤ (q : Int) := by omega
    have q1 : decide ((q : Int) < 0) = false := by rw [decide_eq_false_iff_not]; omega
    clear xrr yrr zrr MX MY
    have hb13 : Below w12.heap.size w12 w12 := Below.refl _ _
    go_wp2_with fail
    refine (S2 _ (Keeps.below hb13)).mono ?_
    rintro e w13b ⟨j2, rfl, hw13b⟩
    have hb13b : Below w12.heap.size w12 w13b := hw13b ▸ below_drewN hb13 j2
    clear hw13b hb13
    have hb13 := hb13b
    go_wp2_with fail
    obtain ⟨w13, hw13⟩ : ∃ v, v = w13b := ⟨_, rfl⟩
    rw [← hw13] at hb13 ⊢
    clear hw13
    refine wp_region_plan [([0, 1, 2, 3, 4, 5, 6, 7, 8, 9, 10, 11, 12], some 13), ([14, 15], some 16), ([17, 18], none)] (fun w' => ∃ x : Later w13, w' = x.to) (by kernel_rfl) (by kernel_rfl) (fun _ _ d _ _ h => by cases d <;> exact h) (later_drew w13) ?_
    refine plan_some (show wpQuiet _ _ _ _ (_ :: _ :: _ :: _ :: _ :: _ :: _ :: _ :: _ :: _ :: _ :: _ :: _ :: []) _ from ?_)
    repeat (go_big_quiet_step (fail))
    refine wpQuiet_nil (show wpList _ _ _ (_ :: []) _ _ from ?_)
    have hb14 := (Below.refl w13.heap.size w13).drew
    generalize w13.drew = w14 at *
    go_wp2_with fail
    refine late_normal (fun _ h => h) (later_of hb14) ?_
    refine plan_some (show wpQuiet _ _ _ _ (_ :: _ :: []) _ from ?_)
    repeat (go_big_quiet_step (fail))
    refine wpQuiet_nil (show wpList _ _ _ (_ :: []) _ _ from ?_)
    go_wp2_with fail
    refine (lives_any _).mono ?_
    rintro e w15 ⟨rfl, hb15'⟩
    have hb15 := hb14.trans (hb15'.mono hb14.size)
    go_wp2_with fail
    refine late_normal (fun _ h => h) (later_of hb15) ?_
    refine plan_none (show wpQuiet _ _ _ _ (_ :: _ :: []) _ from ?_)
    repeat (go_big_quiet_step (fail))
    refine wpQuiet_nil (plan_nil ?_)
    go_wp2
    go_ret
    have hbB := hbA.trans (hb13.mono hbA.size)
    exact ⟨rfl, hb0.trans ((hbB.trans (hb15.mono hbB.size)).mono hb0.size)⟩
  · obtain ⟨p, rfl, hp, hp2⟩ := hfx2
    obtain rfl := hfy2
    have S1 := fun v (k : Keeps w12 v) => same_from xa za xc zc X Z p v (xrr.keeps k) (zrr.keeps k) hp (MX p hp hp2)
    have sl1 := fun w => rows_from w xa X.length xc p hp
    have p0 : (0 : Int) ≤ (p : Int) := by omega
    have p1 : decide ((p : Int) < 0) = false := by rw [decide_eq_false_iff_not]; omega
    clear xrr yrr zrr MX MY
    have hb13 : Below w12.heap.size w12 w12 := Below.refl _ _
    go_wp2_with fail
    refine (S1 _ (Keeps.below hb13)).mono ?_
    rintro e w13a ⟨j1, rfl, hw13a⟩
    have hb13a : Below w12.heap.size w12 w13a := hw13a ▸ below_drewN hb13 j1
    clear hw13a hb13
    have hb13 := hb13a
    go_wp2_with fail
    obtain ⟨w13, hw13⟩ : ∃ v, v = w13a := ⟨_, rfl⟩
    rw [← hw13] at hb13 ⊢
    clear hw13
    refine wp_region_plan [([0, 1, 2, 3, 4, 5, 6, 7, 8, 9, 10, 11, 12], some 13), ([14, 15], some 16), ([17, 18], none)] (fun w' => ∃ x : Later w13, w' = x.to) (by kernel_rfl) (by kernel_rfl) (fun _ _ d _ _ h => by cases d <;> exact h) (later_drew w13) ?_
    refine plan_some (show wpQuiet _ _ _ _ (_ :: _ :: _ :: _ :: _ :: _ :: _ :: _ :: _ :: _ :: _ :: _ :: _ :: []) _ from ?_)
    repeat (go_big_quiet_step (fail))
    refine wpQuiet_nil (show wpList _ _ _ (_ :: []) _ _ from ?_)
    have hb14 := (Below.refl w13.heap.size w13).drew
    generalize w13.drew = w14 at *
    go_wp2_with fail
    refine late_normal (fun _ h => h) (later_of hb14) ?_
    refine plan_some (show wpQuiet _ _ _ _ (_ :: _ :: []) _ from ?_)
    repeat (go_big_quiet_step (fail))
    refine wpQuiet_nil (show wpList _ _ _ (_ :: []) _ _ from ?_)
    go_wp2_with fail
    refine (lives_any _).mono ?_
    rintro e w15 ⟨rfl, hb15'⟩
    have hb15 := hb14.trans (hb15'.mono hb14.size)
    go_wp2_with fail
    refine late_normal (fun _ h => h) (later_of hb15) ?_
    refine plan_none (show wpQuiet _ _ _ _ (_ :: _ :: []) _ from ?_)
    repeat (go_big_quiet_step (fail))
    refine wpQuiet_nil (plan_nil ?_)
    go_wp2
    go_ret
    have hbB := hbA.trans (hb13.mono hbA.size)
    exact ⟨rfl, hb0.trans ((hbB.trans (hb15.mono hbB.size)).mono hb0.size)⟩
  · obtain ⟨p, rfl, hp, hp2⟩ := hfx2
    obtain ⟨q, rfl, hq, hq2⟩ := hfy2
    have S1 := fun v (k : Keeps w12 v) => same_from xa za xc zc X Z p v (xrr.keeps k) (zrr.keeps k) hp (MX p hp hp2)
    have sl1 := fun w => rows_from w xa X.length xc p hp
    have S2 := fun v (k : Keeps w12 v) => same_from ya za yc zc Y Z q v (yrr.keeps k) (zrr.keeps k) hq (MY q hq hq2)
    have sl2 := fun w => rows_from w ya Y.length yc q hq
    have S3 := fun v (k : Keeps w12 v) => same_both xa ya xc yc X Y p q v (xrr.keeps k) (yrr.keeps k) hp hq ((MX p hp hp2).trans (MY q hq hq2).symm)
    have p0 : (0 : Int) ≤ (p : Int) := by omega
    have p1 : decide ((p : Int) < 0) = false := by rw [decide_eq_false_iff_not]; omega
    have q0 : (0 : Int) ≤ (q : Int) := by omega
    have q1 : decide ((q : Int) < 0) = false := by rw [decide_eq_false_iff_not]; omega
    clear xrr yrr zrr MX MY
    have hb13 : Below w12.heap.size w12 w12 := Below.refl _ _
    go_wp2_with fail
    refine (S1 _ (Keeps.below hb13)).mono ?_
    rintro e w13a ⟨j1, rfl, hw13a⟩
    have hb13a : Below w12.heap.size w12 w13a := hw13a ▸ below_drewN hb13 j1
    clear hw13a hb13
    have hb13 := hb13a
    go_wp2_with fail
    refine (S2 _ (Keeps.below hb13)).mono ?_
    rintro e w13b ⟨j2, rfl, hw13b⟩
    have hb13b : Below w12.heap.size w12 w13b := hw13b ▸ below_drewN hb13 j2
    clear hw13b hb13
    have hb13 := hb13b
    go_wp2_with fail
    obtain ⟨w13, hw13⟩ : ∃ v, v = w13b := ⟨_, rfl⟩
    rw [← hw13] at hb13 ⊢
    clear hw13
    refine wp_region_plan [([0, 1, 2, 3, 4, 5, 6, 7, 8, 9, 10, 11, 12], some 13), ([14, 15], some 16), ([17, 18], none)] (fun w' => ∃ x : Later w13, w' = x.to) (by kernel_rfl) (by kernel_rfl) (fun _ _ d _ _ h => by cases d <;> exact h) (later_drew w13) ?_
    refine plan_some (show wpQuiet _ _ _ _ (_ :: _ :: _ :: _ :: _ :: _ :: _ :: _ :: _ :: _ :: _ :: _ :: _ :: []) _ from ?_)
    repeat (go_big_quiet_step (fail))
    refine wpQuiet_nil (show wpList _ _ _ (_ :: []) _ _ from ?_)
    have hb13d := (Below.refl w13.heap.size w13).drew
    have S4 := S3 w13.drew (Keeps.below (hb13.drew))
    generalize w13.drew = w13e at *
    go_wp2_with fail
    refine S4.mono ?_
    rintro e w14 ⟨j3, rfl, hw14⟩
    have hb14 : Below w13.heap.size w13 w14 := hw14 ▸ below_drewN hb13d j3
    clear hw14
    go_wp2_with fail
    refine late_normal (fun _ h => h) (later_of hb14) ?_
    refine plan_some (show wpQuiet _ _ _ _ (_ :: _ :: []) _ from ?_)
    repeat (go_big_quiet_step (fail))
    refine wpQuiet_nil (show wpList _ _ _ (_ :: []) _ _ from ?_)
    go_wp2_with fail
    refine (lives_any _).mono ?_
    rintro e w15 ⟨rfl, hb15'⟩
    have hb15 := hb14.trans (hb15'.mono hb14.size)
    go_wp2_with fail
    refine late_normal (fun _ h => h) (later_of hb15) ?_
    refine plan_none (show wpQuiet _ _ _ _ (_ :: _ :: []) _ from ?_)
    repeat (go_big_quiet_step (fail))
    refine wpQuiet_nil (plan_nil ?_)
    go_wp2
    go_ret
    have hbB := hbA.trans (hb13.mono hbA.size)
    exact ⟨rfl, hb0.trans ((hbB.trans (hb15.mono hbB.size)).mono hb0.size)⟩
set_option maxHeartbeats 1000000 in
theorem cutMeets_bad (L M K W : Int) (s : BitVec 32) (a : Option Addr) (cap : Nat) (l : List (BitVec 8)) (a2 : Option Addr) (cap2 : Nat) (l2 : List (BitVec 8)) (a3 : Option Addr) (cap3 : Nat) (l3 : List (BitVec 8)) (w : World) (hr : Reads w a cap l) (hr2 : Reads w a2 cap2 l2) (hr3 : Reads w a3 cap3 l3) (h : W < 1 ∨ 63 < W ∨ L < W ∨ M < L ∨ 8192 < M ∨ K < 0 ∨ 20 < K) :
    Calls Try.prog 6 #[shapeV L M K W s, .slice a l.length cap, .slice a2 l2.length cap2, .slice a3 l3.length cap3] w fun e w' => e = .returned (.bool true) ∧ Below w.heap.size w w' := by
  have SP := fun v a n cap => cutSplit_bad L M K W s a n cap v h
  unfold shapeV at *
  clear h
  have hb0 := (Below.refl w.heap.size w).alloc (Nat.le_refl _) (.cells #[.int .i64 L, .int .i64 M, .int .i64 K, .int .i64 W, U32 s] 24)
  have bx := box5 w (.int .i64 L) (.int .i64 M) (.int .i64 K) (.int .i64 W) (U32 s) 24
  have hr0 := hr.keeps (Keeps.below hb0)
  have hr20 := hr2.keeps (Keeps.below hb0)
  have hr30 := hr3.keeps (Keeps.below hb0)
  clear hr hr2 hr3
  go_enter Try.func6, Try.ntmps6
  go_wp2_with fail
  generalize w.alloc (.cells #[.int .i64 L, .int .i64 M, .int .i64 K, .int .i64 W, U32 s] 24) = w1 at *
  refine (cut_any a cap l 1000 _ _ rfl hr0 (by decide)).mono ?_
  rintro e w' ⟨rfl, rfl⟩
  have hm := hr0.take 1000
  have hlen : (l.take 1000).length ≤ 1000 := by rw [List.length_take]; omega
  generalize l.take 1000 = m at *
  go_wp2_with fail
  refine (cut_any a2 cap2 l2 1000 _ _ rfl hr20 (by decide)).mono ?_
  rintro e w' ⟨rfl, rfl⟩
  have hm2 := hr20.take 1000
  have hlen2 : (l2.take 1000).length ≤ 1000 := by rw [List.length_take]; omega
  generalize l2.take 1000 = m2 at *
  go_wp2_with fail
  refine (cut_any a3 cap3 l3 1500 _ _ rfl hr30 (by decide)).mono ?_
  rintro e w' ⟨rfl, rfl⟩
  have hm3 := hr30.take 1500
  have hlen3 : (l3.take 1500).length ≤ 1500 := by rw [List.length_take]; omega
  generalize l3.take 1500 = m3 at *
  clear hr0 hr20 hr30
  have c0 : ∀ x : Later w1, _ := fun x => (bx x.to x.below).1
  have c1 : ∀ x : Later w1, _ := fun x => (bx x.to x.below).2.1
  have c2 : ∀ x : Later w1, _ := fun x => (bx x.to x.below).2.2.1
  have c3 : ∀ x : Later w1, _ := fun x => (bx x.to x.below).2.2.2.1
  have c4 : ∀ x : Later w1, _ := fun x => (bx x.to x.below).2.2.2.2
  go_wp2_with fail
  refine wp_region_plan [([0, 1, 3], some 2), ([], some 4), ([], some 5), ([6, 7, 8, 9, 10], none)] (fun w' => ∃ x : Later w1, w' = x.to) (by kernel_rfl) (by kernel_rfl) (fun _ _ d _ _ h => by cases d <;> exact h) (later_drew w1) ?_
  refine plan_some (show wpQuiet _ _ _ _ (_ :: _ :: _ :: []) _ from ?_)
  repeat (go_big_quiet_step (fail))
  refine wpQuiet_nil (show wpList _ _ _ (_ :: []) _ _ from ?_)
  have hm1 := hm.keeps (Keeps.drewN w1 1)
  have hb1 := (Below.refl w1.heap.size w1).drew
  have CO := copy_any a cap m w1.drew hm1 (by omega)
  generalize hw : w1.drew = w2 at *
  clear hw hm1
  go_wp2_with fail
  refine CO.mono ?_
  rintro e w3 ⟨v, rfl, ho, hb3'⟩
  have hb3 := hb1.trans (hb3'.mono hb1.size)
  have hm33 := hm3.keeps (Keeps.below hb3)
  have hsz : w2.heap.size ≤ w3.heap.size := hb3'.size
  have hs12 := hb1.size
  go_wp2_with fail
  refine late_normal (fun _ h => h) (later_of hb3) ?_
  refine plan_some (show wpQuiet _ _ _ _ [] _ from ?_)
  refine wpQuiet_nil (show wpList _ _ _ (_ :: []) _ _ from ?_)
  go_wp2_with (at_builtin; refine wpList_append_bytes_at byteSlice rfl _ _ rfl w2.heap.size v m rfl ho a3 cap3 m3 rfl hm33 (by omega) hsz ?_; intro v' w5 ho5 hg5 _)
  have hb5 : Below w1.heap.size w1 w5 := hb3.trans ((Touch.of_grown (F := fun k => v.ownBlock = some k) hg5 fun k hk => hk).below (fun k hk => Nat.le_trans hs12 (row_lt ho hk).1) (Nat.le_trans hs12 hsz))
  obtain ⟨va, vc, rfl, hxr⟩ := ho5.reads
  generalize (m ++ m3).length = n1 at *
  clear ho5 hg5 hxr ho hb3' hb3 hm33 hsz hs12 CO hb1
  refine late_normal (fun _ h => h) (later_of hb5) ?_
  refine plan_some (show wpQuiet _ _ _ _ [] _ from ?_)
  refine wpQuiet_nil (show wpList _ _ _ (_ :: []) _ _ from ?_)
  go_wp2_with fail
  refine (SP _ _ _ _).mono ?_
  rintro e w6 ⟨rfl, hb6'⟩
  have hb6 := hb5.trans (hb6'.mono hb5.size)
  go_wp2_with fail
  refine late_normal (fun _ h => h) (later_of hb6) ?_
  refine plan_none (show wpQuiet _ _ _ _ (_ :: _ :: _ :: _ :: _ :: []) _ from ?_)
  repeat (go_big_quiet_step (fail))
  refine wpQuiet_nil (plan_nil ?_)
  clear hb5 hb6' c0 c1 c2 c3 c4
  have hm2x := hm2.keeps (Keeps.below hb6)
  have hm3x := hm3.keeps (Keeps.below hb6)
  have b6 : ∀ x : Later w6, Below w1.heap.size w1 x.to := fun x => hb6.trans (x.below.mono hb6.size)
  have c0 : ∀ x : Later w6, _ := fun x => (bx x.to (b6 x)).1
  have c1 : ∀ x : Later w6, _ := fun x => (bx x.to (b6 x)).2.1
  have c2 : ∀ x : Later w6, _ := fun x => (bx x.to (b6 x)).2.2.1
  have c3 : ∀ x : Later w6, _ := fun x => (bx x.to (b6 x)).2.2.2.1
  have c4 : ∀ x : Later w6, _ := fun x => (bx x.to (b6 x)).2.2.2.2
  go_wp2_with fail
  refine wp_region_plan [([0, 1, 3], some 2), ([], some 4), ([], some 5), ([6, 7, 8, 9, 10], none)] (fun w' => ∃ x : Later w6, w' = x.to) (by kernel_rfl) (by kernel_rfl) (fun _ _ d _ _ h => by cases d <;> exact h) (later_drew w6) ?_
  refine plan_some (show wpQuiet _ _ _ _ (_ :: _ :: _ :: []) _ from ?_)
  repeat (go_big_quiet_step (fail))
  refine wpQuiet_nil (show wpList _ _ _ (_ :: []) _ _ from ?_)
  have hm1 := hm2x.keeps (Keeps.drewN w6 1)
  have hb1 := (Below.refl w6.heap.size w6).drew
  have CO := copy_any a2 cap2 m2 w6.drew hm1 (by omega)
  generalize hw : w6.drew = w7 at *
  clear hw hm1
  go_wp2_with fail
  refine CO.mono ?_
  rintro e w8 ⟨v, rfl, ho, hb3'⟩
  have hb3 := hb1.trans (hb3'.mono hb1.size)
  have hm33 := hm3x.keeps (Keeps.below hb3)
  have hsz : w7.heap.size ≤ w8.heap.size := hb3'.size
  have hs12 := hb1.size
  go_wp2_with fail
  refine late_normal (fun _ h => h) (later_of hb3) ?_
  refine plan_some (show wpQuiet _ _ _ _ [] _ from ?_)
  refine wpQuiet_nil (show wpList _ _ _ (_ :: []) _ _ from ?_)
  go_wp2_with (at_builtin; refine wpList_append_bytes_at byteSlice rfl _ _ rfl w7.heap.size v m2 rfl ho a3 cap3 m3 rfl hm33 (by omega) hsz ?_; intro v' w10 ho5 hg5 _)
  have hb5 : Below w6.heap.size w6 w10 := hb3.trans ((Touch.of_grown (F := fun k => v.ownBlock = some k) hg5 fun k hk => hk).below (fun k hk => Nat.le_trans hs12 (row_lt ho hk).1) (Nat.le_trans hs12 hsz))
  obtain ⟨va, vc, rfl, hxr⟩ := ho5.reads
  generalize (m2 ++ m3).length = n2 at *
  clear ho5 hg5 hxr ho hb3' hb3 hm33 hsz hs12 CO hb1
  refine late_normal (fun _ h => h) (later_of hb5) ?_
  refine plan_some (show wpQuiet _ _ _ _ [] _ from ?_)
  refine wpQuiet_nil (show wpList _ _ _ (_ :: []) _ _ from ?_)
  go_wp2_with fail
  refine (SP _ _ _ _).mono ?_
  rintro e w11 ⟨rfl, hb11'⟩
  have hb11 := hb5.trans (hb11'.mono hb5.size)
  go_wp2_with fail
  refine late_normal (fun _ h => h) (later_of hb11) ?_
  refine plan_none (show wpQuiet _ _ _ _ (_ :: _ :: _ :: _ :: _ :: []) _ from ?_)
  repeat (go_big_quiet_step (fail))
  refine wpQuiet_nil (plan_nil ?_)
  clear hb5 hb11' c0 c1 c2 c3 c4
  have hbA := hb6.trans (hb11.mono hb6.size)
  obtain ⟨c0, c1, c2, c3, c4⟩ := bx _ hbA
  go_wp2_with fail
  refine (SP _ _ _ _).mono ?_
  rintro e w12 ⟨rfl, hb12⟩
  have hbA := hbA.trans (hb12.mono hbA.size)
  go_wp2_with fail
  refine (lives_any _).mono ?_
  rintro e w13 ⟨rfl, hb13⟩
  go_wp2
  go_ret
  exact ⟨rfl, hb0.trans ((hbA.trans (hb13.mono hbA.size)).mono hb0.size)⟩
theorem cutMeets_walk (L M K W : Int) (s : BitVec 32) (a : Option Addr) (cap : Nat) (l : List (BitVec 8)) (a2 : Option Addr) (cap2 : Nat) (l2 : List (BitVec 8)) (a3 : Option Addr) (cap3 : Nat) (l3 : List (BitVec 8)) (w : World) (hr : Reads w a cap l) (hr2 : Reads w a2 cap2 l2) (hr3 : Reads w a3 cap3 l3) :
    Calls Try.prog 6 #[shapeV L M K W s, .slice a l.length cap, .slice a2 l2.length cap2, .slice a3 l3.length cap3] w fun e w' => e = .returned (.bool true) ∧ Below w.heap.size w w' := by
  cases hg : goodB L M K W
  · exact cutMeets_bad L M K W s a cap l a2 cap2 l2 a3 cap3 l3 w hr hr2 hr3 (bad_iff.1 hg)
  · obtain ⟨h, g, e, _⟩ := good_of (s := s) hg
    rw [e]
    exact cutMeets_good h g a cap l a2 cap2 l2 a3 cap3 l3 w hr hr2 hr3
end Go.Proofs.Ytbjaeofooaikkaa
