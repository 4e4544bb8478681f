/- 'Choose': which archives are kept. -/
import Derived.Test.YtogoiikgiohlhaaNoSort
import Derived.Deep.Cut
namespace Go.Proofs.Ytogoiikgiohlhaa
open Go Go.RowKit Ch Sm

theorem int_info : (Try.prog.info? 3).map (fun i => (i.zero, i.size, i.bytes)) = some (some (.int .i64 0), 1, 8) := by kernel_rfl
theorem ints_elem : Elem Try.prog 38 3 (.int .i64 0) 8 := ⟨Try.underlying38, int_info, rfl⟩
/-- 'make([]int, n)' -/
theorem wpList_make_ints (w : World) {ops : Array Oper} {rest : List Oper} {o : Oper} {a : Act} {Q : Exit → Act → World → Prop}
    (hg : o.guard = none) (l c : Operand) (hop : o.op = Op.makeSlice 38 l c) (n : Nat) (hl : a.eval l = .int .i64 n) (hc : a.eval c = .int .i64 n) (hm : n ≤ 1048576)
    (hK : ∀ w', Kp w' w.heap.size n [] → Below w.heap.size w w' → w'.heap.size = w.heap.size + 1 → wpList Try.prog ops Q rest (a.put o.dst (.slice (some ⟨w.heap.size, 0, none⟩) n n)) w') :
    wpList Try.prog ops Q (o :: rest) a w := by
  obtain ⟨i, hi, hz0, hz1, hz2⟩ := info_parts int_info
  refine wpList_plain hg fun K hK' => ?_
  have hr := run_make (P := Try.prog) w 38 3 i (.int .i64 0) Try.underlying38 hi hz0 .i64 .i64 n n (by omega) (by omega) (by rw [hz2]; omega) (by omega)
  rw [hz1, Int.toNat_natCast, Nat.mul_one, show (Value.int IntKind.i64 0).cells = #[.int .i64 0] from rfl] at hr
  unfold Oper.wp
  simp only [execOp, hop, hl, hc]
  simp [hr, Result.andThen]
  have hn := heap_alloc_new w (.cells (madeCells #[Value.int IntKind.i64 0] n) 3)
  refine hK' _ _ (hK _ ?_ ((Below.refl _ _).alloc (Nat.le_refl _) _) (by simp))
  have hl2 : ∀ j, j < n → (madeCells #[Value.int IntKind.i64 0] n)[j]? = some (.int .i64 0) := fun j hj => by
    rw [← Array.getElem?_toList, toList_madeCells_one, List.getElem?_replicate, if_pos hj]
  refine ⟨fun j hj => ?_, fun j hj => ?_⟩
  · simp only [World.cell?, hn]
    rw [hl2 j hj]; rfl
  · simp only [World.frozen?, hn]; simp
/-- The places, the last one first. -/
def downs (n : Nat) (i : Nat) : Int := (n : Int) - 1 - i
def downC (n k : Nat) : List Value := (List.range k).map fun i => .int .i64 (downs n i)
theorem downC_succ (n k : Nat) : downC n (k + 1) = downC n k ++ [.int .i64 (downs n k)] := by unfold downC; rw [List.range_succ, List.map_append]; rfl
/-- While the places are laid. -/
structure LayB (w1 : World) (h kb n : Nat) (la : Option Addr) (lcap : Nat) (v : Value) (wr : World) : Prop where
  c0 : wr.cell? ⟨h, 0, none⟩ = some (.slice la n lcap)
  c1 : wr.cell? ⟨h, 1, none⟩ = some v
  c2 : wr.cell? ⟨h, 2, none⟩ = some (.slice (some ⟨kb, 0, none⟩) n n)
  fz : wr.frozen? ⟨h, 1, none⟩ = false
  bel : Below h w1 wr
  hl : h < wr.heap.size
structure Lay (w1 : World) (h kb n : Nat) (la : Option Addr) (lcap : Nat) (i : Nat) (v : Value) (wr : World) : Prop extends LayB w1 h kb n la lcap v wr where
  own : wr.ownsRow (h + 1) 3 1 v i (downC n i)
section
variable {w1 : World} {h kb n : Nat} {la : Option Addr} {lcap i : Nat} {v : Value} {W W' : World}
theorem LayB.touch (L : LayB w1 h kb n la lcap v W) (t : Touch (fun k => h + 1 ≤ k) W W') : LayB w1 h kb n la lcap v W' where
  c0 := t.cell L.c0 (by show ¬ h + 1 ≤ h; omega)
  c1 := t.cell L.c1 (by show ¬ h + 1 ≤ h; omega)
  c2 := t.cell L.c2 (by show ¬ h + 1 ≤ h; omega)
  fz := (t.frozen L.hl (by show ¬ h + 1 ≤ h; omega)).trans L.fz
  bel := L.bel.trans (t.below (fun k hk => by have : h + 1 ≤ k := hk; omega) (Nat.le_of_lt L.hl))
  hl := Nat.lt_of_lt_of_le L.hl t.size
theorem LayB.set (L : LayB w1 h kb n la lcap v W) (u : Value) : LayB w1 h kb n la lcap u (W.setCell ⟨h, 1, none⟩ u) where
  c0 := by rw [World.cell?_setCell_other _ _ _ _ (by simp)]; exact L.c0
  c1 := World.cell?_setCell_same _ _ _ L.c1
  c2 := by rw [World.cell?_setCell_other _ _ _ _ (by simp)]; exact L.c2
  fz := by rw [World.frozen?_setCell]; exact L.fz
  bel := L.bel.trans ((Touch.set (F := fun b => b = h) W h 1 u rfl).below (fun k hk => by have : k = h := hk; omega) (Nat.le_of_lt L.hl))
  hl := by have := L.hl; simpa using this
theorem Lay.drew (L : Lay w1 h kb n la lcap i v W) : Lay w1 h kb n la lcap i v W.drew := ⟨L.toLayB.touch ((Touch.refl _ _).drewN 1), L.own⟩
theorem Lay.alloc (L : Lay w1 h kb n la lcap i v W) (o : Obj) : Lay w1 h kb n la lcap i v (W.alloc o) := ⟨L.toLayB.touch ((Touch.refl _ _).alloc o), L.own.alloc o⟩
theorem Lay.next (L : Lay w1 h kb n la lcap i v W) {v' : Value} (ho : W'.ownsRow (h + 1) 3 1 v' (i + 1) (downC n i ++ [.int .i64 (downs n i)])) (hg : W.grownBy W' v.ownBlock) :
    LayB w1 h kb n la lcap v W' ∧ Lay w1 h kb n la lcap (i + 1) v' (W'.setCell ⟨h, 1, none⟩ v') := by
  have B := L.toLayB.touch (Touch.of_grown (F := fun k => h + 1 ≤ k) hg fun k e => by
    rcases L.own.2 with ⟨h0, _⟩ | ⟨g', cap', cur, hv, hB, _⟩
    · rw [h0] at e; cases e
    · rw [hv] at e; simp only [Value.ownBlock, Option.some.injEq] at e; omega)
  refine ⟨B, B.set v', ?_⟩
  rw [downC_succ]
  exact (Touch.set (F := fun b => b = h) W' h 1 v' rfl).row ho fun k e => by
    have : h + 1 ≤ k := by
      rcases ho.2 with ⟨h0, _⟩ | ⟨g', cap', cur, hv, hB, _⟩
      · rw [h0] at e; cases e
      · rw [hv] at e; simp only [Value.ownBlock, Option.some.injEq] at e; omega
    omega
end
def LayRel (w1 : World) (h kb n : Nat) (la : Option Addr) (lcap : Nat) (x : Value) (wr : World) : Prop := ∃ (i : Nat) (v : Value), i ≤ n ∧ x = .int .i64 i ∧ Lay w1 h kb n la lcap i v wr
def boxC (b : Nat) (v : Value) (W : World) : Prop := W.cell? ⟨b, 0, none⟩ = some v
def CKof (k : Nat → Int) (b : Nat) (W : World) : Prop := ∀ (r m : Nat), r < 6 → k r = m → W.cell? ⟨b, r, none⟩ = some (.int .i64 m)
theorem CKof.touch {k : Nat → Int} {b : Nat} {W W' : World} {F : Nat → Prop} (h : CKof k b W) (t : Touch F W W') (hF : ¬ F b) : CKof k b W' := fun r m hr hm => t.cell (h r m hr hm) hF
theorem ckof_of_heap {k : Nat → Int} {b : Nat} {W : World} {E : TypeId} (h : W.heap[b]? = some (.cells (keepC k) E (0, 0))) : CKof k b W := fun r m hr hm => by
  simp only [World.cell?, h]
  rw [← hm]
  exact keepC_at k r hr
theorem badT_no {t : Int} (h : badT t = false) : -1099511627776 ≤ t ∧ t ≤ 1099511627776 := by
  unfold badT at h
  simp at h
  omega
def SortedPost (wr : World) (h kb n : Nat) (a : Option Addr) (cap : Nat) (T : Int → Int) (v : Value) (e : Ending) (W' : World) : Prop :=
  e = .returned (.tuple #[]) ∧ ∃ f oa ocap, v = .slice oa n ocap ∧ Sit W' h kb n a oa cap ocap T f [] ∧ (List.range n).map f = order T n ∧ Touch (fun k => h + 1 ≤ k) wr W'
theorem order_downs {T : Int → Int} {f : Nat → Int} {n : Nat} (hd : DoneOf T (downs n) f n) : (List.range n).map f = order T n := by
  refine order_of_sorted (d := downs n) hd.1 (fun i hi => by unfold downs; omega) (fun x h0 h1 => ⟨(n - 1 - x).toNat, by omega, by unfold downs; omega⟩) hd.2
theorem sort_step {W5 wr : World} {h kb n cap bx : Nat} {a : Option Addr} {v : Value} {R : Nat → List Value} {T : Int → Int} (L : Lay W5 h kb n a cap n v wr) (hkb : kb < h) (hbx : bx < h) (KP : Kp W5 kb n []) (hkl : h ≤ W5.heap.size) (AB : Abs W5 a cap n R T)
    (ha : ∀ ad, 0 < n → a = some ad → ad.block < kb) (hb : W5.cell? ⟨bx, 0, none⟩ = some (.slice a n cap)) (hn : n ≤ 40) :
    Calls Try.prog 28 #[v, cmpV bx] wr (SortedPost wr h kb n a cap T v) := by
  have tw : Touch (fun k => h ≤ k) W5 wr := ⟨L.bel.os, L.bel.tape, L.bel.output, L.bel.size, fun k hk hF => L.bel.block k (by omega)⟩
  have kp := KP.touch tw (by omega) (by show ¬ h ≤ kb; omega)
  have bxr := tw.cell hb (show ¬ h ≤ bx by omega)
  have abr := AB.touch tw (fun ad hp e => by have := ha ad hp e; show ¬ h ≤ ad.block; omega)
  have hl := L.hl
  rcases L.own.2 with ⟨hv0, hn0⟩ | ⟨g, cp, cur, hv, hBg, hg, hnc, hcm, hcs, ht⟩
  · have hn00 : n = 0 := by simpa using hn0
    subst hv0
    subst hn00
    refine (sortStable_none wr (cmpV bx)).mono ?_
    rintro e W' ⟨rfl, rfl⟩
    exact ⟨rfl, fun _ => 0, none, 0, rfl, ⟨L.c0, L.c1, L.c2, fun i hi => by omega, fun i hi => by omega, kp, fun i hi => by omega, by omega, hl, by omega, fun ad e => (nomatch e), fun ad hp e => absurd hp (by omega)⟩, rfl, Touch.refl _ _⟩
  · subst hv
    have hgl : g < wr.heap.size := heap_lt hg
    have SRg := sr_of_row (f := downs n) (n := n) hg (by rw [Nat.mul_one] at ht; exact ht) (fun i hi => by unfold downs; omega)
    have CM := cmpOf_times (blk := g) bxr abr.times (by omega) (by omega) (fun ad hp e => by have := ha ad hp e; omega)
    refine (sortStable_any (cap := cp) SRg CM (cmpI_neg T) hn (fun i j _ h2 _ => by unfold downs; omega)).mono ?_
    rintro e W' ⟨rfl, f, S', hd⟩
    have t := S'.touch
    refine ⟨rfl, f, some ⟨g, 0, none⟩, cp, rfl, ⟨t.cell L.c0 (by show h ≠ g; omega), t.cell L.c1 (by show h ≠ g; omega), t.cell L.c2 (by show h ≠ g; omega), fun i hi => ?_, fun i hi => ⟨g, 0, rfl, S'.cell i hi⟩, kp.touch t (by omega) (by show kb ≠ g; omega), S'.rng, Nat.lt_of_lt_of_le (by omega) t.size, Nat.lt_of_lt_of_le hl t.size, by omega, fun ad e => ?_, fun ad hp e => ?_⟩, order_downs hd, t.mono fun k e => by have e2 : k = g := e; omega⟩
    · obtain ⟨b, o, e, hc⟩ := abr.times i hi
      exact ⟨b, o, e, t.cell hc (by have := ha _ (by omega) e; show b ≠ g; simp only at this; omega)⟩
    · injection e with e; subst e
      exact ⟨by show g ≠ kb; omega, Nat.lt_of_lt_of_le hgl t.size⟩
    · have := ha ad hp e
      exact ⟨by omega, Nat.lt_of_lt_of_le (by omega) t.size⟩
abbrev perP (T : Int → Int) : Nat → Int → Int × Int := fun r x => DateMath.per r (T x)
abbrev cntK (k : Nat → Int) : Nat → Nat := fun r => (k r).toNat
theorem by_rule {W : World} {h kb n : Nat} {la oa : Option Addr} {lcap ocap : Nat} {T : Int → Int} {f : Nat → Int} (k : Nat → Int) (r : Nat) (hr : r ≤ 5) (s : Sit W h kb n la oa lcap ocap T f (rules (perP T) (cntK k) (order T n) r)) (hord : (List.range n).map f = order T n) (hn : n ≤ 1000)
    (hT : ∀ i : Nat, i < n → -1099511627776 ≤ T i ∧ T i ≤ 1099511627776) (m : Nat) (hm : k r = m) (hm2 : m ≤ 1000) :
    Calls Try.prog 31 #[.pointer (some ⟨h, 0, none⟩), .int .i64 r, .int .i64 m] W (ByPost W h kb n la oa lcap ocap T f (rules (perP T) (cntK k) (order T n) (r + 1))) := by
  have B := by_any s hn r hr hT m hm2
  rw [hord] at B
  rw [rules, show cntK k r = m by show (k r).toNat = m; rw [hm]; rfl]
  exact B
def ChoiceRel (W : World) (n : Nat) (S : List Int) (x v : Value) (wr : World) : Prop :=
  ∃ i : Nat, i ≤ n ∧ x = .int .i64 i ∧ wr.ownsRow W.heap.size 3 1 v (chosen i S).length ((chosen i S).map fun x => Value.int .i64 x) ∧ Below W.heap.size W wr
theorem chosen_succ (S : List Int) (i : Nat) : chosen (i + 1) S = chosen i S ++ (if S.contains (i : Int) then [(i : Int)] else []) := by
  unfold chosen
  rw [List.range_succ, List.map_append, List.filter_append]
  congr 1
  simp only [List.map_cons, List.map_nil, List.filter_cons, List.filter_nil]
theorem chosen_le (n : Nat) (S : List Int) : (chosen n S).length ≤ n := by
  have := List.length_filter_le (fun x => S.contains x) ((List.range n).map fun i : Nat => (i : Int))
  rw [List.length_map, List.length_range] at this
  exact this
def ChoosePost (w : World) (k : Nat → Int) (n : Nat) (T : Int → Int) (e : Ending) (w' : World) : Prop :=
  (¬ Rightly k n T ∧ e = .returned (.tuple #[.slice none 0 0, .int .i64 2]) ∧ Below w.heap.size w w') ∨
  (Rightly k n T ∧ ∃ v L, e = .returned (.tuple #[v, .int .i64 0]) ∧ L = chosen n (kept (fun r x => DateMath.per r (T x)) (fun r => (k r).toNat) n T) ∧ w'.ownsRow w.heap.size 3 1 v L.length (L.map fun x => .int .i64 x) ∧ Below w.heap.size w w')
set_option maxRecDepth 40000 in
set_option maxHeartbeats 2000000 in
theorem choose_any (a : Option Addr) (cap n : Nat) {R : Nat → List Value} {T : Int → Int} (k : Nat → Int) (w : World) (hr : Abs w a cap n R T) (hn : n ≤ 40) :
    Calls Try.prog 17 #[.slice a n cap, keepV k] w (ChoosePost w k n T) := by
  have hfit := hr.fits
  have hroom := hr.room
  have h1 := heap_alloc_new w (.cells #[.slice a n cap] 34)
  have b1 := (Below.refl w.heap.size w).alloc (Nat.le_refl _) (.cells #[.slice a n cap] 34)
  have h2 := heap_alloc_new (w.alloc (.cells #[.slice a n cap] 34)) (.cells (keepC k) 36)
  have b2 := b1.alloc b1.size (.cells (keepC k) 36)
  have hb1 := ((Below.refl (w.alloc (.cells #[.slice a n cap] 34)).heap.size (w.alloc (.cells #[.slice a n cap] 34))).alloc (Nat.le_refl _) (.cells (keepC k) 36))
  have bx : (w.alloc (.cells #[.slice a n cap] 34)).cell? ⟨w.heap.size, 0, none⟩ = some (.slice a n cap) := by simp only [World.cell?, h1]; rfl
  have bx2 := (Keeps.below hb1) _ _ bx
  rw [World.size_alloc] at h2
  unfold keepC at h2 b2 bx2 hb1
  have HR := Lib.hid hr
  clear hr h1 b1 bx
  obtain ⟨W2, hW2⟩ : ∃ W, (w.alloc (.cells #[.slice a n cap] 34)).alloc (.cells #[.int .i64 (k 0), .int .i64 (k 1), .int .i64 (k 2), .int .i64 (k 3), .int .i64 (k 4), .int .i64 (k 5)] 36) = W := ⟨_, rfl⟩
  have hs2 : W2.heap.size = w.heap.size + 2 := by rw [← hW2]; simp
  rw [hW2] at h2 b2 bx2
  have HB2 := Lib.hid b2
  have HS2 := Lib.hid hs2
  have RG := right_any a cap n k W2 (HR.out.below b2)
  clear hb1 b2 hs2
  go_enter Try.func17, Try.ntmps17
  have hiK : (Try.prog.info? 36).map (·.size) = some (#[.int .i64 (k 0), .int .i64 (k 1), .int .i64 (k 2), .int .i64 (k 3), .int .i64 (k 4), .int .i64 (k 5)] : Array Value).size := by kernel_rfl
  go_wp2_with (with_reducible refine at_load 36 ?_; go_must (refine wpList_load_row_g rfl 36 _ rfl (w.heap.size + 1) rfl _ _ _ _ h2 Try.underlying36 rfl hiK ?_))
  refine RG.mono ?_
  rintro e W3 ⟨b, rfl, hiff, hb3⟩
  have HI := Lib.hid hiff
  have HB3 := Lib.hid (HB2.out.trans (hb3.mono HB2.out.size))
  have bx3 := (Keeps.below hb3) _ _ bx2
  have hk3 := (hb3.block (w.heap.size + 1) (by have := HS2.out; omega)).trans h2
  have HS3 := Lib.hid (show w.heap.size + 2 ≤ W3.heap.size by have := HS2.out; have := hb3.size; omega)
  clear hiff hb3 bx2 h2 hW2 RG
  cases b
  · go_wp2
    go_ret2
    exact .inl ⟨fun h => absurd (HI.out.2 h) (by decide), rfl, HB3.out⟩
  · have hd3 : Keeps W3 W3.drew := Keeps.drewN W3 1
    have y0 : ∀ q : Of (Keeps W3), q.to.cell? ⟨w.heap.size, 0, none⟩ = some (.slice a n cap) := fun q => q.ok _ _ bx3
    have ne : Nonempty (Of (Keeps W3)) := of_ne (w := W3) (fun _ _ h => h)
    go_wp2_with fail
    refine wp_region_plan [([0, 1, 2], some 3), ([4], some 5), ([6], none)] (fun w' => ∃ y : Of (Keeps W3), w' = y.to) (by kernel_rfl) (by kernel_rfl) (fun _ _ d _ _ h => by cases d <;> exact h) (of_mk hd3) ?_
    refine plan_some (show wpQuiet _ _ _ _ (_ :: _ :: _ :: []) _ from ?_)
    repeat (first
      | go_big_quiet_step (fail)
      | quiet_step (fail))
    refine wpQuiet_nil (show wpList _ _ _ (_ :: []) _ _ from ?_)
    go_wp2_with (refine wpList_make_ints W3.drew rfl _ _ rfl n rfl rfl (by omega) ?_; intro W4 hk4 hb4 hs4)
    refine late_normal (fun _ h => h) (of_mk (fun p v h => (Keeps.below hb4) p v (hd3 p v h))) ?_
    refine plan_some (show wpQuiet _ _ _ _ (_ :: []) _ from ?_)
    repeat (first
      | go_big_quiet_step (fail)
      | quiet_step (fail))
    refine wpQuiet_nil (show wpList _ _ _ (_ :: []) _ _ from ?_)
    go_wp2_with fail
    have hs4 : W4.heap.size = W3.heap.size + 1 := hs4
    have hb4 : Below W3.heap.size W3.drew W4 := hb4
    have h5 := heap_alloc_new W4 (.cells #[.slice a n cap, .slice none 0 0, .slice (some ⟨W3.heap.size, 0, none⟩) n n] 56)
    have b5 := (Below.refl W4.heap.size W4).alloc (Nat.le_refl _) (.cells #[.slice a n cap, .slice none 0 0, .slice (some ⟨W3.heap.size, 0, none⟩) n n] 56)
    have k5 := Keeps.below b5
    have hsz5 : (W4.alloc (.cells #[.slice a n cap, .slice none 0 0, .slice (some ⟨W3.heap.size, 0, none⟩) n n] 56)).heap.size = W3.heap.size + 2 := by simp [hs4]
    rw [hs4] at h5 b5
    obtain ⟨W5, hW5⟩ : ∃ W, W4.alloc (.cells #[.slice a n cap, .slice none 0 0, .slice (some ⟨W3.heap.size, 0, none⟩) n n] 56) = W := ⟨_, rfl⟩
    rw [hW5] at h5 b5 k5 hsz5
    have kk : Keeps W3 W5 := fun p v h => k5 _ _ ((Keeps.below hb4) p v (hd3 p v h))
    refine late_normal (fun _ h => h) (of_mk (show Keeps W3 _ by rw [hW5]; exact kk)) ?_
    refine plan_none (show wpQuiet _ _ _ _ (_ :: []) _ from ?_)
    repeat (first
      | go_big_quiet_step (fail)
      | quiet_step (fail))
    refine wpQuiet_nil ?_
    refine plan_nil ?_
    have KP5 := Lib.hid (show Kp W5 W3.heap.size n [] from hk4.touch (F := fun _ => False) (Touch.of_below (by rw [hs4]; exact b5)) (by rw [hs4]; exact Nat.lt_succ_self _) id)
    have T35 : Touch (fun _ => False) W3 W5 := ((Touch.refl _ _).drewN 1).trans ((Touch.of_below hb4).trans (Touch.of_below (by rw [hs4]; exact b5)))
    have AB5 := Lib.hid (((HR.out.below HB3.out).touch T35 fun _ _ _ => id))
    have bx5 := kk _ _ bx3
    have hk5 := Lib.hid (show W5.heap[w.heap.size + 1]? = _ from (T35.block _ (by have := HS3.out; omega) id).trans hk3)
    have HB5 := Lib.hid (HB3.out.trans (T35.below (B := w.heap.size) (fun _ h => h.elim) (by have := HS3.out; omega)))
    rw [hW5]
    clear hd3 hs4 hb4 k5 T35
    generalize hkb : W3.heap.size = kb at *
    generalize hh : kb + 1 = h at *
    generalize hbx : w.heap.size = bx at *
    have L5 : Lay W5 h kb n a cap 0 (.slice none 0 0) W5 := {
      c0 := by simp only [World.cell?, h5]; rfl
      c1 := by simp only [World.cell?, h5]; rfl
      c2 := by simp only [World.cell?, h5]; rfl
      fz := by simp only [World.frozen?, h5]; rfl
      bel := Below.refl _ _
      hl := by omega
      own := ⟨by simp [downC], .inl ⟨rfl, rfl⟩⟩ }
    have HL5 := Lib.hid L5
    have HBX5 := Lib.hid (And.intro bx5 (show bx < h by have := HS3.out; omega))
    have HKH := Lib.hid (show kb < h ∧ bx + 1 < kb ∧ bx = w.heap.size ∧ h ≤ W5.heap.size by have := HS3.out; omega)
    have HW5 := Lib.hid (show h < W5.heap.size by omega)
    have HRT := Lib.hid (HI.out.1 (by trivial))
    have HA5 := Lib.hid (show ∀ ad, 0 < n → a = some ad → ad.block < kb from fun ad hp e => by
      obtain ⟨b, o, e2, hb2, _⟩ := HR.out.rows.resolve_left (by omega)
      rw [e2] at e; injection e with e; subst e
      show b < kb
      have := HS3.out; omega)
    clear L5 h5 b5 hsz5 kk hk4 hk3 bx3 y0 ne hW5 hkb hbx hh
    go_wp2_with fail
    go_loopw [23] (fun x wr => LayRel W5 h kb n a cap x wr) (fun x _ => n - (intOf x).toNat)
    case atStart => exact ⟨0, _, Nat.zero_le _, rfl, HL5.out⟩
    case round =>
      clear HL5
      obtain ⟨i, v, hi, rfl, L⟩ := hrel
      have bxr : wr.cell? ⟨bx, 0, none⟩ = some (.slice a n cap) := (L.bel.cell HBX5.out.2).trans HBX5.out.1
      by_cases hlt : i < n
      · have y0 : ∀ q : Of (boxC bx (.slice a n cap)), q.to.cell? ⟨bx, 0, none⟩ = some (.slice a n cap) := fun q => q.ok
        have ne : Nonempty (Of (boxC bx (.slice a n cap))) := of_ne (w := wr) bxr
        obtain ⟨dz, hdz⟩ : ∃ z : Int, downs n i = z := ⟨_, rfl⟩
        have e1 : (n : Int) - 1 - (i : Int) = dz := hdz
        have L0 := L.drew
        have HDZ := Lib.hid hdz
        clear hdz
        go_wp2_with fail
        refine wp_region_tree (.vals [0, 1, 2, 3, 5, 6, 7, 8, 9] (.fork 4 10 (.late 10 (.late 11 (.vals [12, 13] (.late 14 .done)))) (.late 4 (.late 11 (.vals [12, 13] (.late 14 .done)))))) (fun w' => ∃ q : Of (boxC bx (.slice a n cap)), w' = q.to) (by kernel_rfl) (by kernel_rfl) (fun _ _ d _ _ h => by cases d <;> exact h) (of_mk bxr) ?_
        refine tree_vals (show wpQuiet _ _ _ _ (_ :: _ :: _ :: _ :: _ :: _ :: _ :: _ :: _ :: []) _ from ?_)
        repeat (first
          | go_big_quiet_step (fail)
          | quiet_step (fail))
        refine wpQuiet_nil ?_
        have B0 : wr.drew.cell? ⟨bx, 0, none⟩ = some (.slice a n cap) := bxr
        generalize wr.drew = W0 at *
        clear L bxr
        have HBX := Lib.hid (And.intro (show W5.cell? ⟨bx, 0, none⟩ = some (.slice a n cap) from HBX5.out.1) HBX5.out.2)
        have c0 := L0.c1
        refine tree_fork (tree_late (show wpList _ _ _ (_ :: []) _ _ from ?_)) (tree_late (show wpList _ _ _ (_ :: []) _ _ from ?_))
        · go_wp2_with fail
          refine late_normal (fun _ h => h) (of_mk B0) ?_
          refine tree_late (show wpList _ _ _ (_ :: []) _ _ from ?_)
          go_wp2_with fail
          have L1 := L0.alloc (.cells #[.int .i64 dz] 3)
          have g1 : (W0.alloc (.cells #[.int .i64 dz] 3)).cell? ⟨W0.heap.size, 0, none⟩ = some (.int .i64 dz) := by simp only [World.cell?, heap_alloc_new]; rfl
          obtain ⟨W1, hW1⟩ : ∃ W, W0.alloc (.cells #[.int .i64 dz] 3) = W := ⟨_, rfl⟩
          rw [hW1] at L1 g1
          have b1 : W1.cell? ⟨bx, 0, none⟩ = some (.slice a n cap) := by rw [← hW1]; exact (Keeps.below ((Below.refl _ W0).alloc (Nat.le_refl _) _)) _ _ B0
          have HL1 := Lib.hid L1
          obtain ⟨G, hG⟩ : ∃ g, W0.heap.size = g := ⟨_, rfl⟩
          rw [hG] at g1
          refine late_normal (fun _ h => h) (of_mk (show boxC bx (.slice a n cap) _ by rw [hW1]; exact b1)) ?_
          rw [hW1, hG]
          clear hW1 hG L1
          refine tree_late (show wpList _ _ _ (_ :: []) _ _ from ?_)
          go_wp2_with (at_builtin; go_must (refine wpList_append_elem ints_elem rfl _ _ rfl (h + 1) v i (downC n i) rfl HL1.out.own ⟨G, 0, none⟩ 1 (.int .i64 dz) rfl g1 rfl (by omega) (by omega) (by have := HL1.out.hl; omega) ?_); intro v' W8 ho hg _)
          rw [← HDZ.out] at ho
          obtain ⟨LB, LN⟩ := HL1.out.next ho hg
          obtain ⟨ga, cp, rfl⟩ : ∃ ga cp, v' = .slice (some ⟨ga, 0, none⟩) (i + 1) cp := by
            rcases ho.2 with ⟨_, h0⟩ | ⟨g, cap', cur, hv, _⟩
            · simp at h0
            · exact ⟨g, cap', hv⟩
          have b8 : W8.cell? ⟨bx, 0, none⟩ = some (.slice a n cap) := (LB.bel.cell (by have := HBX.out; exact this.2)).trans HBX.out.1
          have c1 := LB.c1
          have f1 := LB.fz
          have HLN := Lib.hid LN
          have b9 : (W8.setCell ⟨h, 1, none⟩ (.slice (some ⟨ga, 0, none⟩) (i + 1) cp)).cell? ⟨bx, 0, none⟩ = some (.slice a n cap) := (LN.bel.cell HBX.out.2).trans HBX.out.1
          clear LN LB ho hg g1
          refine late_normal (fun _ h => h) (of_mk b8) ?_
          refine tree_vals (show wpQuiet _ _ _ _ (_ :: _ :: []) _ from ?_)
          repeat (first
            | go_big_quiet_step (fail)
            | quiet_step (fail))
          refine wpQuiet_nil ?_
          clear y0 ne
          refine tree_late (show wpList _ _ _ (_ :: []) _ _ from ?_)
          go_wp2_with fail
          refine late_normal (fun _ h => h) (of_mk b9) ?_
          refine tree_done ?_
          generalize W8.setCell ⟨h, 1, none⟩ (.slice (some ⟨ga, 0, none⟩) (i + 1) cp) = W9 at *
          clear c1 f1 b8 b9
          go_wp2
          go_roundw
          case rel => exact ⟨i + 1, _, by omega, by go_num, HLN.out⟩
          case measure => simp [intOf]; omega
        · go_wp2_with fail
          have L1 := L0.alloc (.cells #[.int .i64 dz] 3)
          have g1 : (W0.alloc (.cells #[.int .i64 dz] 3)).cell? ⟨W0.heap.size, 0, none⟩ = some (.int .i64 dz) := by simp only [World.cell?, heap_alloc_new]; rfl
          obtain ⟨W1, hW1⟩ : ∃ W, W0.alloc (.cells #[.int .i64 dz] 3) = W := ⟨_, rfl⟩
          rw [hW1] at L1 g1
          have b1 : W1.cell? ⟨bx, 0, none⟩ = some (.slice a n cap) := by rw [← hW1]; exact (Keeps.below ((Below.refl _ W0).alloc (Nat.le_refl _) _)) _ _ B0
          have HL1 := Lib.hid L1
          obtain ⟨G, hG⟩ : ∃ g, W0.heap.size = g := ⟨_, rfl⟩
          rw [hG] at g1
          refine late_normal (fun _ h => h) (of_mk (show boxC bx (.slice a n cap) _ by rw [hW1]; exact b1)) ?_
          rw [hW1, hG]
          clear hW1 hG L1
          have c1 := HL1.out.c1
          refine tree_late (show wpList _ _ _ (_ :: []) _ _ from ?_)
          go_wp2_with fail
          refine late_normal (fun _ h => h) (of_mk b1) ?_
          refine tree_late (show wpList _ _ _ (_ :: []) _ _ from ?_)
          go_wp2_with (at_builtin; go_must (refine wpList_append_elem ints_elem rfl _ _ rfl (h + 1) v i (downC n i) rfl HL1.out.own ⟨G, 0, none⟩ 1 (.int .i64 dz) rfl g1 rfl (by omega) (by omega) (by have := HL1.out.hl; omega) ?_); intro v' W8 ho hg _)
          rw [← HDZ.out] at ho
          obtain ⟨LB, LN⟩ := HL1.out.next ho hg
          obtain ⟨ga, cp, rfl⟩ : ∃ ga cp, v' = .slice (some ⟨ga, 0, none⟩) (i + 1) cp := by
            rcases ho.2 with ⟨_, h0⟩ | ⟨g, cap', cur, hv, _⟩
            · simp at h0
            · exact ⟨g, cap', hv⟩
          have b8 : W8.cell? ⟨bx, 0, none⟩ = some (.slice a n cap) := (LB.bel.cell (by have := HBX.out; exact this.2)).trans HBX.out.1
          have c1 := LB.c1
          have f1 := LB.fz
          have HLN := Lib.hid LN
          have b9 : (W8.setCell ⟨h, 1, none⟩ (.slice (some ⟨ga, 0, none⟩) (i + 1) cp)).cell? ⟨bx, 0, none⟩ = some (.slice a n cap) := (LN.bel.cell HBX.out.2).trans HBX.out.1
          clear LN LB ho hg g1
          refine late_normal (fun _ h => h) (of_mk b8) ?_
          refine tree_vals (show wpQuiet _ _ _ _ (_ :: _ :: []) _ from ?_)
          repeat (first
            | go_big_quiet_step (fail)
            | quiet_step (fail))
          refine wpQuiet_nil ?_
          clear y0 ne
          refine tree_late (show wpList _ _ _ (_ :: []) _ _ from ?_)
          go_wp2_with fail
          refine late_normal (fun _ h => h) (of_mk b9) ?_
          refine tree_done ?_
          generalize W8.setCell ⟨h, 1, none⟩ (.slice (some ⟨ga, 0, none⟩) (i + 1) cp) = W9 at *
          clear c1 f1 b8 b9
          go_wp2
          go_roundw
          case rel => exact ⟨i + 1, _, by omega, by go_num, HLN.out⟩
          case measure => simp [intOf]; omega
      · have hin : i = n := by omega
        rw [hin] at L
        have HT := Lib.hid (fun (j : Nat) (hj : j < n) => badT_no (HRT.out.2 j hj))
        have HRK := Lib.hid HRT.out.1
        have SS := sort_step L (by have := HKH.out; omega) HBX5.out.2 KP5.out (by have := HKH.out; omega) AB5.out HA5.out HBX5.out.1 hn
        have c1 := L.c1
        obtain ⟨m0, hm0⟩ : ∃ m : Nat, k 0 = m := ⟨(k 0).toNat, by have := HRK.out 0 (by omega); omega⟩
        obtain ⟨m1, hm1⟩ : ∃ m : Nat, k 1 = m := ⟨(k 1).toNat, by have := HRK.out 1 (by omega); omega⟩
        obtain ⟨m2, hm2⟩ : ∃ m : Nat, k 2 = m := ⟨(k 2).toNat, by have := HRK.out 2 (by omega); omega⟩
        obtain ⟨m3, hm3⟩ : ∃ m : Nat, k 3 = m := ⟨(k 3).toNat, by have := HRK.out 3 (by omega); omega⟩
        obtain ⟨m4, hm4⟩ : ∃ m : Nat, k 4 = m := ⟨(k 4).toNat, by have := HRK.out 4 (by omega); omega⟩
        obtain ⟨m5, hm5⟩ : ∃ m : Nat, k 5 = m := ⟨(k 5).toNat, by have := HRK.out 5 (by omega); omega⟩
        have HM0 := Lib.hid hm0
        have HM1 := Lib.hid hm1
        have HM2 := Lib.hid hm2
        have HM3 := Lib.hid hm3
        have HM4 := Lib.hid hm4
        have HM5 := Lib.hid hm5
        have CKr : CKof k (bx + 1) wr := (ckof_of_heap hk5.out).touch (F := fun j => h ≤ j) ⟨L.bel.os, L.bel.tape, L.bel.output, Nat.le_trans (Nat.le_refl _) (by have := L.bel.size; have := L.hl; have := HW5.out; omega), fun j _ hF => L.bel.block j (by omega)⟩ (by have := HKH.out; have := HBX5.out.2; omega)
        have HVr := Lib.hid (HB5.out.trans (L.bel.mono (by have := HKH.out; omega)))
        have HIN := Lib.hid hin
        clear L hm0 hm1 hm2 hm3 hm4 hm5 bxr hin hi
        go_wp2_with fail
        refine SS.mono ?_
        rintro e V0 ⟨rfl, f, oa, ocap, rfl, S0, hord, T0⟩
        have HORD := Lib.hid hord
        have CK0 := CKr.touch T0 (by have := HKH.out; omega)
        have HV0 := Lib.hid (HVr.out.trans (T0.below (fun k e => by have e2 : h + 1 ≤ k := e; have := HKH.out; omega) (by have := HVr.out.size; have := HKH.out; omega)))
        clear SS CKr hord T0 c1
        have B0 := by_rule k 0 (by omega) S0 HORD.out (by omega) HT.out m0 HM0.out (by have := HRK.out 0 (by omega); have := HM0.out; omega)
        have B0 : Calls Try.prog 31 #[.pointer (some ⟨h, 0, none⟩), .int .i64 0, .int .i64 m0] V0 (ByPost V0 h kb n a oa cap ocap T f (rules (perP T) (cntK k) (order T n) 1)) := B0
        have c0 := CK0 0 m0 (by omega) HM0.out
        go_wp2_with fail
        refine B0.mono ?_
        rintro e V1 ⟨rfl, S1, T1⟩
        have CK1 := CK0.touch T1 (by have := HKH.out; omega)
        have HV1 := Lib.hid (HV0.out.trans (T1.below (fun k e => by have e2 : k = kb := e; have := HKH.out; omega) (by have := HV0.out.size; have := HKH.out; omega)))
        clear B0 c0 S0 CK0 T1
        have B1 := by_rule k 1 (by omega) S1 HORD.out (by omega) HT.out m1 HM1.out (by have := HRK.out 1 (by omega); have := HM1.out; omega)
        have B1 : Calls Try.prog 31 #[.pointer (some ⟨h, 0, none⟩), .int .i64 1, .int .i64 m1] V1 (ByPost V1 h kb n a oa cap ocap T f (rules (perP T) (cntK k) (order T n) 2)) := B1
        have c1 := CK1 1 m1 (by omega) HM1.out
        go_wp2_with fail
        refine B1.mono ?_
        rintro e V2 ⟨rfl, S2, T2⟩
        have CK2 := CK1.touch T2 (by have := HKH.out; omega)
        have HV2 := Lib.hid (HV1.out.trans (T2.below (fun k e => by have e2 : k = kb := e; have := HKH.out; omega) (by have := HV1.out.size; have := HKH.out; omega)))
        clear B1 c1 S1 CK1 T2
        have B2 := by_rule k 2 (by omega) S2 HORD.out (by omega) HT.out m2 HM2.out (by have := HRK.out 2 (by omega); have := HM2.out; omega)
        have B2 : Calls Try.prog 31 #[.pointer (some ⟨h, 0, none⟩), .int .i64 2, .int .i64 m2] V2 (ByPost V2 h kb n a oa cap ocap T f (rules (perP T) (cntK k) (order T n) 3)) := B2
        have c2 := CK2 2 m2 (by omega) HM2.out
        go_wp2_with fail
        refine B2.mono ?_
        rintro e V3 ⟨rfl, S3, T3⟩
        have CK3 := CK2.touch T3 (by have := HKH.out; omega)
        have HV3 := Lib.hid (HV2.out.trans (T3.below (fun k e => by have e2 : k = kb := e; have := HKH.out; omega) (by have := HV2.out.size; have := HKH.out; omega)))
        clear B2 c2 S2 CK2 T3
        have B3 := by_rule k 3 (by omega) S3 HORD.out (by omega) HT.out m3 HM3.out (by have := HRK.out 3 (by omega); have := HM3.out; omega)
        have B3 : Calls Try.prog 31 #[.pointer (some ⟨h, 0, none⟩), .int .i64 3, .int .i64 m3] V3 (ByPost V3 h kb n a oa cap ocap T f (rules (perP T) (cntK k) (order T n) 4)) := B3
        have c3 := CK3 3 m3 (by omega) HM3.out
        go_wp2_with fail
        refine B3.mono ?_
        rintro e V4 ⟨rfl, S4, T4⟩
        have CK4 := CK3.touch T4 (by have := HKH.out; omega)
        have HV4 := Lib.hid (HV3.out.trans (T4.below (fun k e => by have e2 : k = kb := e; have := HKH.out; omega) (by have := HV3.out.size; have := HKH.out; omega)))
        clear B3 c3 S3 CK3 T4
        have B4 := by_rule k 4 (by omega) S4 HORD.out (by omega) HT.out m4 HM4.out (by have := HRK.out 4 (by omega); have := HM4.out; omega)
        have B4 : Calls Try.prog 31 #[.pointer (some ⟨h, 0, none⟩), .int .i64 4, .int .i64 m4] V4 (ByPost V4 h kb n a oa cap ocap T f (rules (perP T) (cntK k) (order T n) 5)) := B4
        have c4 := CK4 4 m4 (by omega) HM4.out
        go_wp2_with fail
        refine B4.mono ?_
        rintro e V5 ⟨rfl, S5, T5⟩
        have CK5 := CK4.touch T5 (by have := HKH.out; omega)
        have HV5 := Lib.hid (HV4.out.trans (T5.below (fun k e => by have e2 : k = kb := e; have := HKH.out; omega) (by have := HV4.out.size; have := HKH.out; omega)))
        clear B4 c4 S4 CK4 T5
        have B5 := by_rule k 5 (by omega) S5 HORD.out (by omega) HT.out m5 HM5.out (by have := HRK.out 5 (by omega); have := HM5.out; omega)
        have B5 : Calls Try.prog 31 #[.pointer (some ⟨h, 0, none⟩), .int .i64 5, .int .i64 m5] V5 (ByPost V5 h kb n a oa cap ocap T f (rules (perP T) (cntK k) (order T n) 6)) := B5
        have c5 := CK5 5 m5 (by omega) HM5.out
        go_wp2_with fail
        refine B5.mono ?_
        rintro e V6 ⟨rfl, S6, T6⟩
        have CK6 := CK5.touch T6 (by have := HKH.out; omega)
        have HV6 := Lib.hid (HV5.out.trans (T6.below (fun k e => by have e2 : k = kb := e; have := HKH.out; omega) (by have := HV5.out.size; have := HKH.out; omega)))
        clear B5 c5 S5 CK5 T6
        obtain ⟨Fin, hFin⟩ : ∃ F, rules (perP T) (cntK k) (order T n) 6 = F := ⟨_, rfl⟩
        rw [hFin] at S6
        have HFIN := Lib.hid hFin
        have c2 := S6.c2
        have HK6 := Lib.hid S6.kp
        have HL6 := Lib.hid S6.lt
        clear S6 CK6 hFin
        go_wp2_with fail
        go_loopw [8, 76] (fun v x wr => ChoiceRel V6 n Fin x v wr) (fun _ x _ => n - (intOf x).toNat)
        case atStart => exact ⟨0, Nat.zero_le _, rfl, ⟨by simp [chosen], .inl ⟨rfl, by simp [chosen]⟩⟩, Below.refl _ _⟩
        case round =>
          obtain ⟨v, rfl⟩ : ∃ v, v = u8 := ⟨_, rfl⟩
          obtain ⟨i, hi, rfl, own, hb⟩ := hrel
          have HB := Lib.hid hb
          clear hb
          by_cases hlt : i < n
          · have ci := (HB.out.cell (p := ⟨kb, i, none⟩) HL6.out).trans (HK6.out.cell i hlt)
            have pi : (0 : Int) ≤ (i : Int) := by omega
            have bi : (i : Int) < (n : Int) := by omega
            cases hc : Fin.contains (i : Int)
            · have HC := Lib.hid hc
              rw [hc] at ci
              have ci : wr.cell? ⟨kb, i, none⟩ = some (.int .i64 0) := ci
              have HO := Lib.hid own
              clear own hc
              go_wp2
              go_roundw
              case rel => exact ⟨i + 1, by omega, by go_num, by rw [chosen_succ, HC.out]; simpa using HO.out, HB.out⟩
              case measure => simp [intOf]; omega
            · have HC := Lib.hid hc
              rw [hc] at ci
              have ci : wr.cell? ⟨kb, i, none⟩ = some (.int .i64 1) := ci
              have hle := chosen_le i Fin
              have hsz := HB.out.size
              obtain ⟨av, cv, rfl⟩ : ∃ av cv, v = .slice av (chosen i Fin).length cv := by
                rcases own.2 with ⟨h0, h1⟩ | ⟨g, cap', cur, hv, _⟩
                · have h2 : (chosen i Fin).length = 0 := by simpa using h1
                  exact ⟨none, 0, by rw [h0, h2]⟩
                · exact ⟨_, _, hv⟩
              have HO := Lib.hid (own.alloc (.cells #[.int .i64 i] 3))
              have g1 : (wr.alloc (.cells #[.int .i64 i] 3)).cell? ⟨wr.heap.size, 0, none⟩ = some (.int .i64 i) := by simp only [World.cell?, heap_alloc_new]; rfl
              obtain ⟨LC, hLC⟩ : ∃ L, chosen i Fin = L := ⟨_, rfl⟩
              rw [hLC] at HO hle ⊢
              have HLC := Lib.hid hLC
              clear own hc hLC
              go_wp2_with (at_builtin; go_must (refine wpList_append_elem ints_elem rfl _ _ rfl V6.heap.size (.slice av LC.length cv) LC.length (LC.map fun x => Value.int .i64 x) rfl HO.out ⟨wr.heap.size, 0, none⟩ 1 (.int .i64 i) rfl g1 rfl (by omega) (by omega) (by simp; omega) ?_); intro v' W8 ho hg _)
              have HHO := Lib.hid ho
              have HBG := Lib.hid (HB.out.trans (((Below.refl V6.heap.size wr).alloc hsz (.cells #[.int .i64 i] 3)).grown hg (by simp; omega) (fun kk e => by
                rcases HO.out.2 with ⟨h0, _⟩ | ⟨g, cap', cur, hv, hBB, _⟩
                · rw [h0] at e; cases e
                · rw [hv] at e; simp only [Value.ownBlock, Option.some.injEq] at e; omega)))
              clear ho hg g1 ci
              go_wp2
              go_roundw
              case rel =>
                refine ⟨i + 1, by omega, by go_num, ?_, HBG.out⟩
                rw [chosen_succ, HC.out, HLC.out]
                simpa using HHO.out
              case measure => simp [intOf]; omega
          · have hin2 : i = n := by omega
            have HO := Lib.hid (show wr.ownsRow V6.heap.size 3 1 v (chosen n Fin).length ((chosen n Fin).map fun x => Value.int .i64 x) by rw [← hin2]; exact own)
            clear own hin2
            go_wp2
            go_ret2
            have hvw := HV6.out
            rw [HKH.out.2.2.1] at hvw
            have hvs := hvw.size
            refine .inr ⟨HRT.out, v, chosen n Fin, rfl, by rw [← HFIN.out], row_mono HO.out fun kk e => ?_, hvw.trans (HB.out.mono hvs)⟩
            rcases HO.out.2 with ⟨h0, _⟩ | ⟨g, cap', cur, hv, hBB, _⟩
            · rw [h0] at e; cases e
            · rw [hv] at e; simp only [Value.ownBlock, Option.some.injEq] at e; omega
end Go.Proofs.Ytogoiikgiohlhaa
