/- The law's walk: CutWrites. -/
import Derived.Test.YtbjaeofooaikkaaCutMeetsW
namespace Go.Proofs.Ytbjaeofooaikkaa
open Go Go.RowKit

/-- A cutter that was given these bytes, and the bytes. -/
structure GivenInv (w1 : World) (b r : Nat) (h : CutMath.Sh) (A : List (BitVec 8)) (v allv : Value) (wr : World) : Prop where
  cut : Cutter wr w1.heap.size b r v h (CutMath.feed h [] A).2
  all : Owns wr w1.heap.size 5 allv A
  apart : ∀ k, allv.ownBlock = some k → ¬ Foot b r v k
  below : Below w1.heap.size w1 wr
theorem GivenInv.later {w1 wr w2 : World} {b r : Nat} {h : CutMath.Sh} {A : List (BitVec 8)} {v allv : Value} (i : GivenInv w1 b r h A v allv wr) (hb : Below wr.heap.size wr w2) : GivenInv w1 b r h A v allv w2 :=
  ⟨i.cut.touch (F := fun _ => False) (.of_below hb) fun _ _ f => f, (Touch.of_below (F := fun _ => False) hb).owns i.all fun _ _ f => f, i.apart, i.below.trans (hb.mono i.below.size)⟩
section
variable {w1 wr w2 w3 w4 w5 : World} {b r : Nat} {h : CutMath.Sh} {A q : List (BitVec 8)} {v v' allv allv' bv : Value}
/-- A copy was made, and appended. -/
theorem GivenInv.more (i : GivenInv w1 b r h A v allv wr) (hb2 : Below wr.heap.size wr w2) (ho2 : Owns w2 wr.heap.size 5 bv q)
    (hg : w2.grownBy w3 allv.ownBlock) (hb : allv'.ownBlock = allv.ownBlock ∨ allv'.ownBlock = some w2.heap.size) :
    Cutter w3 w1.heap.size b r v h (CutMath.feed h [] A).2 ∧ Owns w3 wr.heap.size 5 bv q ∧ (∀ k, bv.ownBlock = some k → ¬ Foot b r v k ∧ allv'.ownBlock ≠ some k) ∧ (∀ k, allv'.ownBlock = some k → ¬ Foot b r v k) ∧ Below w1.heap.size w1 w3 := by
  have t3 : Touch (fun k => allv.ownBlock = some k) w2 w3 := .of_grown hg fun k hk => hk
  have hall : ∀ k, allv.ownBlock = some k → w1.heap.size ≤ k ∧ k < wr.heap.size := fun k hk => row_lt i.all hk
  have hfoot : ∀ k, Foot b r v k → k < wr.heap.size := fun k hk => (i.cut.foot_lt hk).2
  have hbv : ∀ k, bv.ownBlock = some k → wr.heap.size ≤ k ∧ k < w2.heap.size := fun k hk => row_lt ho2 hk
  have hs := hb2.size
  have hs1 := i.below.size
  refine ⟨(i.cut.touch (F := fun _ => False) (.of_below hb2) fun _ _ f => f).touch t3 fun k hk e => i.apart k e hk, t3.owns ho2 fun k hk e => ?_, fun k hk => ⟨fun f => ?_, fun e => ?_⟩, fun k hk f => ?_, ?_⟩
  · have := hbv k hk; have := hall k e; omega
  · have := hbv k hk; have := hfoot k f; omega
  · have h1 := hbv k hk
    rcases hb with e2 | e2
    · rw [e2] at e; have := hall k e; omega
    · rw [e2] at e; injection e with e; omega
  · rcases hb with e2 | e2
    · rw [e2] at hk; exact i.apart k hk f
    · rw [e2] at hk; injection hk with e; have := hfoot k f; omega
  · exact i.below.trans ((hb2.mono hs1).trans (t3.below (fun k hk => (hall k hk).1) (Nat.le_trans hs1 hs)))
/-- The cutter was given the copy, and the copy was spoilt. -/
theorem GivenInv.spoilt (c4 : Cutter w4 w1.heap.size b r v' h (CutMath.feed h (CutMath.feed h [] A).2 q).2) (ho3 : Owns w3 w1.heap.size 5 allv' (A ++ q))
    (hbv : ∀ k, bv.ownBlock = some k → ¬ Foot b r v k ∧ allv'.ownBlock ≠ some k) (hbl : ∀ k, bv.ownBlock = some k → w1.heap.size ≤ k ∧ k < w3.heap.size) (hal : ∀ k, allv'.ownBlock = some k → ¬ Foot b r v k) (hlow : Below w1.heap.size w1 w3) (hcl : ∀ k, Foot b r v k → w1.heap.size ≤ k)
    (t4 : Touch (Foot b r v) w3 w4) (f4 : ∀ k, Foot b r v' k → Foot b r v k ∨ w3.heap.size ≤ k) (t5 : Touch (fun k => bv.ownBlock = some k) w4 w5) : GivenInv w1 b r h (A ++ q) v' allv' w5 := by
  have hs := hlow.size
  have h34 := t4.size
  have hal2 : ∀ k, allv'.ownBlock = some k → ¬ Foot b r v' k := fun k hk f => by
    rcases f4 k f with e | e
    · exact hal k hk e
    · have := (row_lt ho3 hk).2; omega
  refine ⟨?_, ?_, hal2, ?_⟩
  · rw [CutMath.feed_append]
    refine c4.touch t5 fun k f e => ?_
    rcases f4 k f with e2 | e2
    · exact (hbv k e).1 e2
    · have := (hbl k e).2; omega
  · exact t5.owns (t4.owns ho3 hal) fun k hk e => (hbv k e).2 hk
  · exact hlow.trans ((t4.below hcl hs).trans (t5.below (fun k e => (hbl k e).1) (Nat.le_trans hs h34)))
end
set_option maxRecDepth 100000 in
set_option maxHeartbeats 2000000 in
theorem cutWrites_bad (L M K W : Int) (s : BitVec 32) (x y : Value) (w : World) (h : W < 1 ∨ 63 < W ∨ L < W ∨ M < L ∨ 8192 < M ∨ K < 0 ∨ 20 < K) :
    Calls Try.prog 8 #[shapeV L M K W s, x, y] w fun e w' => e = .returned (.bool true) ∧ Below w.heap.size w w' := by
  have SP := fun v => cutNew_bad L M K W s v h
  have RC := fun v => refCheck_no L M K W s v h
  unfold shapeV at *
  clear h
  have hb0 := (Below.refl w.heap.size w).alloc (Nat.le_refl _) (.cells #[.int .i64 L, .int .i64 M, .int .i64 K, .int .i64 W, U32 s] 24)
  have bx := box5 w (.int .i64 L) (.int .i64 M) (.int .i64 K) (.int .i64 W) (U32 s) 24
  go_enter Try.func8, Try.ntmps8
  go_wp2_with fail
  generalize w.alloc (.cells #[.int .i64 L, .int .i64 M, .int .i64 K, .int .i64 W, U32 s] 24) = w1 at *
  refine (SP _).mono ?_
  rintro e w3 ⟨rfl, hb3⟩
  obtain ⟨c0, c1, c2, c3, c4⟩ := bx _ hb3
  go_wp2_with fail
  refine (RC _).mono ?_
  rintro e w4 ⟨rfl, hb4⟩
  have hb4 := hb3.trans (hb4.mono hb3.size)
  clear c0 c1 c2 c3 c4
  go_wp2_with fail
  refine (lives_any _).mono ?_
  rintro e w7 ⟨rfl, hb7⟩
  have hb7 := hb4.trans (hb7.mono hb4.size)
  go_wp2
  go_ret
  exact ⟨rfl, hb0.trans (hb7.mono hb0.size)⟩
def WritesRel (w1 : World) (b r : Nat) (h : CutMath.Sh) (n : Nat) (allv told i : Value) (wr : World) : Prop :=
  ∃ (k : Nat) (A : List (BitVec 8)) (v : Value), k ≤ n ∧ k ≤ 8 ∧ i = .int .i64 k ∧ A.length ≤ 80 * k ∧ told = .int .i64 (CutMath.feed h [] A).1.length ∧ GivenInv w1 b r h A v allv wr
def SpoilRel (w4 : World) (B : Nat) (bv : Value) (n : Nat) (i : Value) (wr : World) : Prop :=
  ∃ (j : Nat) (m : List (BitVec 8)), j ≤ n ∧ i = .int .i64 j ∧ m.length = n ∧ Owns wr B 5 bv m ∧ Touch (fun k => bv.ownBlock = some k) w4 wr
def HeldRel (w7 : World) (F : Rows) (n : Nat) (held i : Value) (wr : World) : Prop :=
  ∃ k : Nat, k ≤ F.length ∧ i = .int .i64 k ∧ held = .int .i64 ((n : Int) - (CutMath.pre F k : Nat)) ∧ wr = w7
theorem pre_all (F : Rows) : CutMath.pre F F.length = F.flatten.length := by
  unfold CutMath.pre; rw [List.take_length, List.length_flatten]
theorem pre_row (F : Rows) (k : Nat) (h : k < F.length) : CutMath.pre F (k + 1) = CutMath.pre F k + (rowOf F k).length := by
  rw [CutMath.pre_succ F k h, rowOf_lt h]
theorem rows_to (w : World) (a : Option Addr) (len cap n : Nat) (h : n ≤ cap) : (Instr.slice 28 (.slice a len cap) none (some (.int .i64 (n : Int))) none).run Try.prog w = .ok (.slice a n cap) w :=
  run_to_elem rowsElem w a len cap .i64 n (n : Int) rfl h
/-- These rows are those from a place on. -/
theorem same_from' (xa za : Option Addr) (xc zc : Nat) (X Z : Rows) (p : Nat) (w : World) (hx : RR w xa xc X) (hz : RR w za zc Z) (hp : p ≤ Z.length) (e : Z.drop p = X) :
    Calls Try.prog 18 #[.slice xa X.length xc, .slice (dropAddr za zc p) (Z.length - p) (zc - p)] w (Tells w true) := by
  have := sameRows_any xa (dropAddr za zc p) xc (zc - p) X (Z.drop p) w hx (hz.drop p hp)
  rw [List.length_drop, e, beq_rows] at this
  exact this
set_option maxRecDepth 100000 in
set_option maxHeartbeats 4000000 in
theorem cutWrites_good (h : CutMath.Sh) (g : h.Good) (a : Option Addr) (cap : Nat) (l : Rows) (a2 : Option Addr) (cap2 : Nat) (l2 : List (BitVec 8)) (w : World) (hr : RR w a cap l) (hr2 : Reads w a2 cap2 l2) :
    Calls Try.prog 8 #[shV h, .slice a l.length cap, .slice a2 l2.length cap2] w fun e w' => e = .returned (.bool true) ∧ Below w.heap.size w w' := by
  have RS := fun (v : World) (a : Option Addr) (cap : Nat) (l : List (BitVec 8)) (hl : l.length ≤ 1000) (hr : Reads v a cap l) => refSplit_any h g a cap l v hr (by omega)
  have NW := fun v => cutNew_good h g v
  have RC := fun v => refCheck_yes h.L h.M h.K h.W h.s v (by have := g.w1; omega) (by have := g.w63; omega) (by have := g.wl; omega) (by have := g.lm; omega) (by have := g.m; omega) (by omega) (by have := g.k; omega)
  unfold shapeV at RC
  unfold shV shapeV at *
  have hb0 := (Below.refl w.heap.size w).alloc (Nat.le_refl _) (.cells #[.int .i64 h.L, .int .i64 h.M, .int .i64 h.K, .int .i64 h.W, U32 h.s] 24)
  have bx := box5 w (.int .i64 h.L) (.int .i64 h.M) (.int .i64 h.K) (.int .i64 h.W) (U32 h.s) 24
  have hr0 := hr.keeps (Keeps.below hb0)
  have hr20 := hr2.keeps (Keeps.below hb0)
  clear hr hr2
  go_enter Try.func8, Try.ntmps8
  go_wp2_with fail
  generalize w.alloc (.cells #[.int .i64 h.L, .int .i64 h.M, .int .i64 h.K, .int .i64 h.W, U32 h.s] 24) = w1 at *
  refine (NW _).mono ?_
  rintro e w2 ⟨b, r, rfl, c, hb2⟩
  have given0 : GivenInv w1 b r h [] (.slice none 0 0) (.slice none 0 0) w2 := ⟨c, owns_nil _ _ _, fun k hk => by simp [Value.ownBlock] at hk, hb2⟩
  obtain ⟨c0, c1, c2, c3, c4⟩ := bx _ hb2
  clear c
  go_wp2_with fail
  refine (RC _).mono ?_
  rintro e w2' ⟨rfl, hb2'⟩
  have given1 : GivenInv w1 b r h [] (.slice none 0 0) (.slice none 0 0) w2' := ⟨given0.cut.touch (F := fun _ => False) (.of_below hb2') fun _ _ f => f, owns_nil _ _ _, fun k hk => by simp [Value.ownBlock] at hk, hb2.trans (hb2'.mono hb2.size)⟩
  clear c0 c1 c2 c3 c4 NW RC given0 hb2 hb2'
  have hmf := hr0.fits
  have hmr := hr0.room
  go_wp2
  go_loopw [9, 10, 11] (fun allv told i wr => WritesRel w1 b r h l.length allv told i wr) (fun _ _ i _ => l.length - (intOf i).toNat)
  case atStart => exact ⟨0, [], _, Nat.zero_le _, Nat.zero_le _, rfl, Nat.zero_le _, rfl, given1⟩
  case round =>
    clear given1
    obtain ⟨k, A, v, hk, hk8, rfl, hA, rfl, gi⟩ := hrel
    by_cases hin : k < l.length ∧ k < 8
    · obtain ⟨hin1, hin2⟩ := hin
      have hrk := hr0.keeps (Keeps.below gi.below)
      rcases hrk.rows with e | ⟨bl, off, rfl, hrows⟩
      · rw [e] at hin1; simp at hin1
      obtain ⟨qa, qc, d1, qr⟩ := hrows k hin1
      have CU := cut_any qa qc (rowOf l k) 80 _ wr rfl qr (by decide)
      have hq := qr.take 80
      have hql : ((rowOf l k).take 80).length ≤ 80 := by rw [List.length_take]; omega
      generalize (rowOf l k).take 80 = q at *
      have CO := copy_any qa qc q wr hq (by omega)
      clear qr hrk hrows
      go_wp2_with fail
      refine CU.mono ?_
      rintro e w' ⟨rfl, rfl⟩
      go_wp2_with fail
      refine CO.mono ?_
      rintro e w3 ⟨bv, rfl, ho2, hb3⟩
      clear CO CU hq
      obtain ⟨ba, bc, rfl, hbr⟩ := ho2.reads
      have all3 := (Touch.of_below (F := fun _ => False) hb3).owns gi.all fun _ _ f => f
      have hB3 : w1.heap.size ≤ w3.heap.size := Nat.le_trans gi.below.size hb3.size
      go_wp2_with (at_builtin; refine wpList_append_bytes_at byteSlice rfl _ _ rfl w1.heap.size u9 A rfl all3 ba bc q rfl hbr (by omega) hB3 ?_; intro allv' w4 ho4 hg4 hbk4)
      obtain ⟨c4, bv4, hbv4, hal4, lo4⟩ := gi.more hb3 ho2 hg4 hbk4
      have hfew := CutMath.feed_few h A []
      have hfo := CutMath.feed_open h A [] (CutMath.open_nil h)
      have hbr4 : Reads w4 (ba) bc q := (Touch.of_grown (F := fun k => u9.ownBlock = some k) hg4 fun k hk => hk).reads hbr fun ad e f => by
        subst e
        exact absurd f (fun f => by
          have h1 := row_lt gi.all f
          have h2 := row_lt ho2 (own_block ho2)
          omega)
      have hoff : q ≠ [] → ∀ ad, ba = some ad → ¬ Foot b r v ad.block := fun _ ad e f => by
        subst e
        exact (hbv4 _ (own_block ho2)).1 f
      have WR := cutWrite_any g c4 lo4.size hfo ba bc q (by omega) hbr4 hoff
      have hbl4 : ∀ k, (Value.slice ba q.length bc).ownBlock = some k → w1.heap.size ≤ k ∧ k < w4.heap.size := fun k hk => ⟨Nat.le_trans gi.below.size (row_lt bv4 hk).1, (row_lt bv4 hk).2⟩
      have HG := Lib.hid gi
      have HB := Lib.hid hbv4
      have HL := Lib.hid hbl4
      have HA := Lib.hid hal4
      have HO := Lib.hid ho4
      have HC := Lib.hid c4
      have HW := Lib.hid lo4
      have HV := Lib.hid bv4
      clear gi hbv4 hbl4 hal4 ho4 c4 lo4 hg4 hbk4 ho2 hb3 hbr hbr4 all3 hoff hfo bv4
      generalize hn : q.length = n at *
      go_wp2_with fail
      refine WR.mono ?_
      rintro e w5 ⟨v', ov, vs, rfl, c5, o5, t5, f5⟩
      have bv5 : Owns w5 wr.heap.size 5 (.slice ba n bc) q := t5.owns HV.out fun k hk f => (HB.out k hk).1 f
      have H5 := Lib.hid c5
      have HO5 := Lib.hid o5
      have HT5 := Lib.hid t5
      have HF5 := Lib.hid f5
      clear c5 o5 t5 f5 WR
      have hn80 : n ≤ 80 := hql
      clear hql
      go_wp2
      go_loopw [14] (fun i wv => SpoilRel w5 wr.heap.size (.slice ba n bc) n i wv) (fun i _ => n - (intOf i).toNat)
      case atStart => exact ⟨0, q, Nat.zero_le _, rfl, hn, bv5, Touch.refl _ _⟩
      case round =>
        obtain ⟨j, m, hj, rfl, hm, hbo, hto⟩ := hrel
        by_cases hjn : j < n
        · obtain ⟨gb, gc, e1, hrow, _⟩ := hbo.row (by omega)
          rw [hm] at e1 hrow
          injection e1 with e1 _ e3
          subst e1 e3
          have hc := hrow.cell j hjn
          have hf := hrow.thawed j
          have HR := Lib.hid hrow
          have HTO := Lib.hid hto
          clear hrow hto hbo
          go_wp2
          go_roundw
          case rel => exact ⟨j + 1, m.set j (byteAt m j + 1#8), by omega, by go_num, by simp [hm], (HR.out.set j _).owns, HTO.out.trans (Touch.set _ _ _ _ rfl)⟩
          case measure => simp [intOf]; omega
        · have gi2 := GivenInv.spoilt H5.out HO.out HB.out HL.out HA.out HW.out (fun k f => (HC.out.foot_lt f).1) HT5.out HF5.out hto
          have o6 := HO5.out.touch (hto.mono fun k e => .inr ⟨(HL.out k e).2, (HB.out k e).1⟩)
          obtain ⟨oa, oc, rfl, orr⟩ := o6.rr
          have hNl : (A ++ q).length ≤ 80 * (k + 1) := by rw [List.length_append]; omega
          have hfa := CutMath.feed_append h A q []
          obtain ⟨N, hN⟩ : ∃ N, A ++ q = N := ⟨_, rfl⟩
          rw [hN] at gi2 hNl hfa
          have hF : (CutMath.feed h [] N).1 = (CutMath.feed h [] A).1 ++ (CutMath.feed h (CutMath.feed h [] A).2 q).1 := by rw [hfa]
          have hpF : (CutMath.feed h [] A).1.length ≤ (CutMath.feed h [] N).1.length := by rw [hF, List.length_append]; omega
          have hdr : (CutMath.feed h [] N).1.drop (CutMath.feed h [] A).1.length = (CutMath.feed h (CutMath.feed h [] A).2 q).1 := by rw [hF, List.drop_left]
          have hfewN := CutMath.feed_few h N []
          have hjoin := congrArg List.length (CutMath.feed_join h N [])
          rw [List.length_append, List.nil_append] at hjoin
          have hsc := split_cases h N
          have hpall := pre_all (CutMath.feed h [] N).1
          have hple := pre_le (CutMath.feed h [] N).1
          have RS1 := fun aa ac (hx : Reads wr aa ac N) => RS wr aa ac N (by omega) hx
          obtain ⟨cc0, cc1, cc2, cc3, cc4⟩ := bx _ gi2.below
          obtain ⟨aa, ac, ea, aread⟩ := gi2.all.reads
          have RS2 := RS1 aa ac aread
          subst ea
          have hEd : CutMath.endedB h N = decide ((CutMath.feed h [] N).2 = []) := rfl
          have HGI := Lib.hid gi2
          clear gi2 o6 hto hbo H5 HO HB HL HA HW HC HT5 HF5 HO5 HV HG hfa hF aread RS1 hN
          generalize (CutMath.feed h (CutMath.feed h [] A).2 q).1 = X at *
          generalize (CutMath.feed h [] A).1.length = p at *
          generalize hFF : (CutMath.feed h [] N).1 = F at *
          have HFF := Lib.hid hFF
          have HJ := Lib.hid hjoin
          have HPA := Lib.hid hpall
          have HPL := Lib.hid hple
          clear hFF hjoin hpall hple bv5
          unfold Splits at RS2
          rcases hsc with ⟨e1, e2⟩ | ⟨e1, e2⟩
          · rw [hEd, e2, decide_eq_true e1] at RS2
            clear e1 e2 hEd
            go_wp2_with fail
            refine RS2.mono ?_
            rintro e w7 ⟨wv, wvs, rfl, wrows, hb7⟩
            obtain ⟨wa, wc, rfl, wrr⟩ := wrows.rr
            clear wrows RS2 cc0 cc1 cc2 cc3 cc4
            have sl := fun w => rows_from w wa F.length wc p hpF
            have S1 := same_from' oa wa oc wc X F p w7 (orr.keeps (Keeps.below hb7)) wrr hpF hdr
            clear orr
            go_wp2_with fail
            refine S1.mono ?_
            rintro e w8 ⟨j8, rfl, hw8⟩
            have hb8 := hw8 ▸ below_drewN hb7 j8
            have wrr8 := hw8 ▸ wrr.keeps (Keeps.drewN w7 j8)
            have gi8 := HGI.out.later hb8
            have HH := cutHeld_any gi8.cut
            have HGI8 := Lib.hid gi8
            clear hw8 hb7 hb8 S1 sl wrr gi8 HGI
            have hN7 : N.length ≤ 720 := by omega
            go_wp2
            go_loopw [17, 18] (fun held i wv => HeldRel w8 F N.length held i wv) (fun _ i _ => F.length - (intOf i).toNat)
            case atStart => exact ⟨0, Nat.zero_le _, rfl, by rw [CutMath.pre_zero]; simp, rfl⟩
            case round =>
              obtain ⟨k2, hk2, rfl, hheld, hwv⟩ := hrel
              by_cases hkf : k2 < F.length
              · subst hheld
                have wrr9 : RR wr wa wc F := hwv ▸ wrr8
                rcases wrr9.rows with e | ⟨b3, off3, rfl, hrows⟩
                · rw [e] at hkf; simp at hkf
                obtain ⟨xa, xc, d1, _⟩ := hrows k2 hkf
                have hp2 := Lib.hid (pre_row F k2 hkf)
                have hp3 : CutMath.pre F k2 + (rowOf F k2).length ≤ N.length := by
                  have h1 := HPL.out (k2 + 1)
                  have h2 := HJ.out
                  have h3 := hp2.out
                  omega
                have HWV := Lib.hid hwv
                clear wrr8 wrr9 hrows hwv HH
                generalize (rowOf F k2).length = rl at *
                generalize CutMath.pre F k2 = pk at *
                go_wp2
                go_roundw
                case rel => exact ⟨k2 + 1, by omega, by go_num, by rw [hp2.out]; go_num, HWV.out⟩
                case measure => simp [intOf]; omega
              · obtain rfl : k2 = F.length := by omega
                have hh : (N.length : Int) - (CutMath.pre F F.length : Nat) = ((CutMath.feed h [] N).2.length : Nat) := by
                  have h1 := HPA.out
                  have h2 := HJ.out
                  omega
                rw [hh] at hheld
                subst hheld
                have HH9 := hwv ▸ HH
                have gi9 : GivenInv w1 b r h N v' (.slice aa N.length ac) wr := hwv ▸ HGI8.out
                have HGI9 := Lib.hid gi9
                clear wrr8 hwv HH hh gi9 HGI8
                generalize (CutMath.feed h [] N).2.length = hl at *
                have hz : ((hl : Int) != (hl : Int)) = false := bne_self_eq_false _
                go_wp2_with fail
                refine HH9.mono ?_
                rintro e w9 ⟨rfl, rfl⟩
                go_wp2
                go_roundw
                case rel => exact ⟨k + 1, N, v', by omega, by omega, by go_num, hNl, by rw [HFF.out], HGI9.out⟩
                case measure => simp [intOf]; omega
          · rw [hEd, e2, decide_eq_false e1] at RS2
            clear e1 e2 hEd
            go_wp2_with fail
            refine RS2.mono ?_
            rintro e w7 ⟨wv, wvs, rfl, wrows, hb7⟩
            obtain ⟨wa, wc, rfl, wrr⟩ := wrows.rr
            have hwf := wrr.fits
            rw [List.length_append, List.length_singleton] at hwf ⊢
            have wrr := wrr.take F.length
            rw [List.take_left] at wrr
            clear wrows RS2 cc0 cc1 cc2 cc3 cc4
            have sl0 := fun w => rows_to w wa (F.length + 1) wc F.length (by omega)
            have sl := fun w => rows_from w wa F.length wc p hpF
            have S1 := same_from' oa wa oc wc X F p w7 (orr.keeps (Keeps.below hb7)) wrr hpF hdr
            clear orr
            go_wp2_with fail
            refine S1.mono ?_
            rintro e w8 ⟨j8, rfl, hw8⟩
            have hb8 := hw8 ▸ below_drewN hb7 j8
            have wrr8 := hw8 ▸ wrr.keeps (Keeps.drewN w7 j8)
            have gi8 := HGI.out.later hb8
            have HH := cutHeld_any gi8.cut
            have HGI8 := Lib.hid gi8
            clear hw8 hb7 hb8 S1 sl sl0 wrr gi8 HGI
            have hN7 : N.length ≤ 720 := by omega
            go_wp2
            go_loopw [17, 18] (fun held i wv => HeldRel w8 F N.length held i wv) (fun _ i _ => F.length - (intOf i).toNat)
            case atStart => exact ⟨0, Nat.zero_le _, rfl, by rw [CutMath.pre_zero]; simp, rfl⟩
            case round =>
              obtain ⟨k2, hk2, rfl, hheld, hwv⟩ := hrel
              by_cases hkf : k2 < F.length
              · subst hheld
                have wrr9 : RR wr wa wc F := hwv ▸ wrr8
                rcases wrr9.rows with e | ⟨b3, off3, rfl, hrows⟩
                · rw [e] at hkf; simp at hkf
                obtain ⟨xa, xc, d1, _⟩ := hrows k2 hkf
                have hp2 := Lib.hid (pre_row F k2 hkf)
                have hp3 : CutMath.pre F k2 + (rowOf F k2).length ≤ N.length := by
                  have h1 := HPL.out (k2 + 1)
                  have h2 := HJ.out
                  have h3 := hp2.out
                  omega
                have HWV := Lib.hid hwv
                clear wrr8 wrr9 hrows hwv HH
                generalize (rowOf F k2).length = rl at *
                generalize CutMath.pre F k2 = pk at *
                go_wp2
                go_roundw
                case rel => exact ⟨k2 + 1, by omega, by go_num, by rw [hp2.out]; go_num, HWV.out⟩
                case measure => simp [intOf]; omega
              · obtain rfl : k2 = F.length := by omega
                have hh : (N.length : Int) - (CutMath.pre F F.length : Nat) = ((CutMath.feed h [] N).2.length : Nat) := by
                  have h1 := HPA.out
                  have h2 := HJ.out
                  omega
                rw [hh] at hheld
                subst hheld
                have HH9 := hwv ▸ HH
                have gi9 : GivenInv w1 b r h N v' (.slice aa N.length ac) wr := hwv ▸ HGI8.out
                have HGI9 := Lib.hid gi9
                clear wrr8 hwv HH hh gi9 HGI8
                generalize (CutMath.feed h [] N).2.length = hl at *
                have hz : ((hl : Int) != (hl : Int)) = false := bne_self_eq_false _
                go_wp2_with fail
                refine HH9.mono ?_
                rintro e w9 ⟨rfl, rfl⟩
                go_wp2
                go_roundw
                case rel => exact ⟨k + 1, N, v', by omega, by omega, by go_num, hNl, by rw [HFF.out], HGI9.out⟩
                case measure => simp [intOf]; omega
    · have hex : ¬ k < l.length ∨ (k < l.length ∧ ¬ k < 8) := by omega
      have hA7 : A.length ≤ 640 := by omega
      have hfewA := CutMath.feed_few h A []
      have hjoin := congrArg List.length (CutMath.feed_join h A [])
      rw [List.length_append, List.nil_append] at hjoin
      obtain ⟨cc0, cc1, cc2, cc3, cc4⟩ := bx _ gi.below
      obtain ⟨aa, ac, ea, aread⟩ := gi.all.reads
      have RS2 := RS wr aa ac A (by omega) aread
      subst ea
      have hEd : CutMath.endedB h A = decide ((CutMath.feed h [] A).2 = []) := rfl
      have hsc := split_cases h A
      have hm1 := hr20.take 100
      have hml : (l2.take 100).length ≤ 100 := by rw [List.length_take]; omega
      have CU := fun v (hb : Below w1.heap.size w1 v) => cut_any a2 cap2 l2 100 _ v rfl (hr20.keeps (Keeps.below hb)) (by decide)
      have HB0 := Lib.hid hb0
      clear aread hr20 hr0 hin hb0
      generalize l2.take 100 = m at *
      unfold Splits at RS2
      rcases hex with hx | ⟨hx, hx2⟩
      · rcases hsc with ⟨e1, e2⟩ | ⟨e1, e2⟩
        · rw [hEd, e2, decide_eq_true e1] at RS2
          clear e2 hEd
          go_wp2_with fail
          refine RS2.mono ?_
          rintro e w7 ⟨wv, wvs, rfl, wrows, hb7⟩
          obtain ⟨wa, wc, rfl, wrr⟩ := wrows.rr
          have gi7 := gi.later hb7
          have c7 := gi7.cut
          rw [e1] at c7
          have EN := cutEnd_any c7
          have HG7 := Lib.hid gi7
          clear wrr wrows e1 gi7 gi c7 RS2 cc0 cc1 cc2 cc3 cc4 hjoin
          go_wp2_with fail
          refine EN.mono ?_
          rintro e w8 ⟨rfl, c8, ho8, t8⟩
          obtain ⟨ea, ec, rfl, er⟩ := ho8.reads
          have SM : Calls Try.prog 19 #[.slice ea 0 ec, .slice none 0 0] w8 (Tells w8 true) := same_any ea none ec 0 [] [] w8 er (reads_nil _)
          have hb8 : Below w1.heap.size w1 w8 := HG7.out.below.trans (t8.below (fun k f => (c8.foot_lt f).1) HG7.out.below.size)
          clear EN er ho8 t8 HG7
          go_wp2_with fail
          refine SM.mono ?_
          rintro e w9 ⟨j9, rfl, hw9⟩
          have c9 : Cutter w9 w1.heap.size b r (.slice none 0 0) h [] := hw9 ▸ c8.drewN j9
          have hb9 : Below w1.heap.size w1 w9 := hw9 ▸ below_drewN hb8 j9
          have HH := cutHeld_any c9
          have EN2 := cutEnd_any c9
          clear hw9 hb8 c8 SM
          go_wp2_with fail
          refine HH.mono ?_
          rintro e w' ⟨rfl, rfl⟩
          go_wp2_with fail
          refine EN2.mono ?_
          rintro e w10 ⟨rfl, c10, _, t10⟩
          have hb10 := hb9.trans (t10.below (fun k f => (c10.foot_lt f).1) hb9.size)
          clear EN2 HH t10 c9 hb9
          have CU1 := CU _ hb10
          have hm10 := hm1.keeps (Keeps.below hb10)
          obtain ⟨c0, c1, c2, c3, c4⟩ := bx _ hb10
          have RS3 := RS w10 a2 cap2 m (by omega) hm10
          unfold Splits at RS3
          clear CU hm10
          go_wp2_with fail
          refine CU1.mono ?_
          rintro e w' ⟨rfl, rfl⟩
          go_wp2_with fail
          refine RS3.mono ?_
          rintro e w11 ⟨nv, nvs, rfl, nrows, hb11'⟩
          have hb11 := hb10.trans (hb11'.mono hb10.size)
          have c11 := c10.touch (F := fun _ => False) (.of_below hb11') fun _ _ f => f
          have hoff : m ≠ [] → ∀ ad, a2 = some ad → ¬ Foot b r (.slice none 0 0) ad.block := fun hne ad e f => by
            have := reads_addr hm1 hne ad e
            have := (c10.foot_lt f).1
            omega
          have nr11 : OwnsRows (fun k => m ≠ [] ∧ (Foot b r (.slice none 0 0) k ∨ w11.heap.size ≤ k)) w11 w10.heap.size 25 nv nvs (CutMath.split h m) := nrows.less fun k e => e.2.elim (fun f => .inl ⟨(c10.foot_lt f).2, fun ad e2 hk => hoff e.1 ad e2 (hk ▸ f)⟩) .inr
          have WR := cutWrite_any g c11 hb11.size (CutMath.open_nil h) a2 cap2 m (by omega) (hm1.keeps (Keeps.below hb11)) hoff
          obtain ⟨na, nc, rfl, nrr⟩ := nr11.rr
          have NR : ∀ w', Touch (fun k => Foot b r (.slice none 0 0) k ∨ w11.heap.size ≤ k) w11 w' → RR w' na nc (CutMath.split h m) := by
            intro w' t
            by_cases hne : m = []
            · have e0 : CutMath.split h m = [] := by subst hne; simp [CutMath.split, CutMath.feed_nil]
              exact ⟨nrr.fits, nrr.room, nrr.null, .inl e0⟩
            · obtain ⟨na', nc', e, r'⟩ := (nr11.touch (t.mono fun k e => ⟨hne, e⟩)).rr
              injection e with e1 _ e3
              subst e1 e3
              exact r'
          clear nrows RS3 CU1 c10 hb10 hb11' c0 c1 c2 c3 c4 nrr nr11
          have hfewm := CutMath.feed_few h m []
          have hjm := congrArg List.length (CutMath.feed_join h m [])
          rw [List.length_append, List.nil_append] at hjm
          have hsm := split_cases h m
          go_wp2_with fail
          refine WR.mono ?_
          rintro e w12 ⟨v'', ov, vs, rfl, c12, o12, t12, f12⟩
          have EN3 := cutEnd_any c12
          have hb12 := hb11.trans (t12.below (fun k f => (c11.foot_lt f).1) hb11.size)
          clear WR hoff c11 hb11
          go_wp2_with fail
          refine EN3.mono ?_
          rintro e w13 ⟨rfl, c13, ho13, t13⟩
          have o13 := o12.touch (t13.mono fun k f => .inl (foot_nil f))
          have t11 := (t12.mono fun k f => Or.inl (b := w11.heap.size ≤ k) f).trans (t13.mono fun k f => Or.inl (b := w11.heap.size ≤ k) f)
          have hb13 := hb12.trans (t13.below (fun k f => (c13.foot_lt f).1) hb12.size)
          obtain ⟨ya, yc, rfl⟩ := row_form ho13
          clear EN3 c12 o12 t12 f12 t13 hb12
          rcases hsm with ⟨g1, g2⟩ | ⟨g1, g2⟩
          · have nrr := NR _ t11
            rw [g2] at nrr ⊢
            rw [g1]
            obtain ⟨ga, gc, rfl, grr⟩ := o13.rr
            have SA := sameRows_any ga na gc nc _ _ w13 grr nrr
            rw [beq_rows] at SA
            clear NR t11 nrr grr o13 ho13 c13 g1 g2 hfewm hjm
            go_wp2_with fail
            refine SA.mono ?_
            rintro e w14 ⟨j14, rfl, hw14⟩
            have hb14 := hw14 ▸ below_drewN hb13 j14
            clear hw14 SA
            go_wp2_with fail
            refine (lives_any _).mono ?_
            rintro e w15 ⟨rfl, hb15⟩
            go_wp2
            go_ret
            exact ⟨rfl, HB0.out.trans ((hb14.trans (hb15.mono hb14.size)).mono HB0.out.size)⟩
          · have hpos : (0 : Int) < (((CutMath.feed h [] m).2.length : Nat) : Int) := by
              have := List.length_pos_iff.2 g1; omega
            have hch : Chunk (fun _ => False) w13 (.slice ya (CutMath.feed h [] m).2.length yc) (CutMath.feed h [] m).2 := ho13.chunk fun _ _ f => f
            have hvv : ∀ ad, ya = some ad → ov.ownBlock ≠ some ad.block := fun ad e hv => by
              subst e
              exact o13.out _ hv (.inl (.inr (.inr (own_block ho13))))
            have hov : ∀ k, ov.ownBlock = some k → Foot b r (.slice none 0 0) k ∨ w11.heap.size ≤ k := fun k hk => by
              by_cases hf : Foot b r (.slice none 0 0) k
              · exact .inl hf
              · rcases Nat.lt_or_ge k w11.heap.size with hlt | hge
                · exact (o13.out k hk (.inr ⟨hlt, hf⟩)).elim
                · exact .inr hge
            generalize (CutMath.feed h [] m).2.length = n' at *
            have t8 : Touch (fun _ => False) w13 (w13.alloc (.cells #[.slice ya n' yc] 25)) := (Touch.refl _ _).alloc _
            have rows8 := (o13.less (G := fun _ => False) fun k e => e.elim).touch t8
            have hch8 := hch.touch t8
            have hrow := rows8.row
            have hcell : (w13.alloc (.cells #[.slice ya n' yc] 25)).cell? ⟨w13.heap.size, 0, none⟩ = some (.slice ya n' yc) := alloc_cell w13 _ _ 0
            have hb8 := hb13.alloc hb13.size (.cells #[.slice ya n' yc] 25)
            have t8b := t11.alloc (.cells #[.slice ya n' yc] 25)
            have hsz := hb8.size
            have H5 := Lib.hid rows8
            have HC := Lib.hid hch8
            have HV := Lib.hid hvv
            have HL := Lib.hid hb8
            have HO := Lib.hid hov
            have HT := Lib.hid t8b
            have G2 := Lib.hid g2
            have HN := Lib.hid NR
            clear ho13 o13 hch hvv t8 rows8 hch8 hb8 hov t8b g1 g2 NR c13 t11 hb13
            go_wp2_with (at_builtin; refine wpList_append_elem rowsElem rfl _ _ rfl w1.heap.size ov (CutMath.feed h [] m).1.length _ rfl hrow ⟨w13.heap.size, 0, none⟩ 1 (.slice ya n' yc) rfl hcell rfl (by omega) (by omega) hsz ?_; intro gv w14 h1 hg hb5)
            have hb14 := HL.out.trans ((Touch.of_grown (F := fun k => ov.ownBlock = some k) hg fun k hk => hk).below (fun k hk => (row_lt hrow hk).1) hsz)
            have rows9 := H5.out.snoc HC.out (fun k hk => hk.elim) h1 hg hb5 (fun ad m c e => by injection e with e _ _; exact HV.out ad e)
            have nrr := HN.out _ (HT.out.trans (Touch.of_grown hg HO.out))
            rw [← G2.out] at rows9
            obtain ⟨ga, gc, rfl, grr⟩ := rows9.rr
            have SA := sameRows_any ga na gc nc _ _ w14 grr nrr
            rw [beq_rows] at SA
            clear HN nrr grr rows9 h1 hg hb5 H5 HC HV HL HO HT G2 hrow hcell hsz
            refine SA.mono ?_
            rintro e w15 ⟨j14, rfl, hw14⟩
            have hb15 := hw14 ▸ below_drewN hb14 j14
            clear hw14 SA
            go_wp2_with fail
            refine (lives_any _).mono ?_
            rintro e w16 ⟨rfl, hb16⟩
            go_wp2
            go_ret
            exact ⟨rfl, HB0.out.trans ((hb15.trans (hb16.mono hb15.size)).mono HB0.out.size)⟩
        · rw [hEd, e2, decide_eq_false e1] at RS2
          clear e2 hEd
          go_wp2_with fail
          refine RS2.mono ?_
          rintro e w7 ⟨wv, wvs, rfl, wrows, hb7⟩
          obtain ⟨wg, wc, xa, xc, rfl, d1, xr, xn⟩ := wrows.at_ (i := (CutMath.feed h [] A).1.length) (by simp)
          have eg : ((CutMath.feed h [] A).1 ++ [(CutMath.feed h [] A).2]).getD (CutMath.feed h [] A).1.length [] = (CutMath.feed h [] A).2 := by simp [List.getD_eq_getElem?_getD]
          rw [eg] at d1 xr
          rw [List.length_append, List.length_singleton]
          have gi7 := gi.later hb7
          have EN := cutEnd_any gi7.cut
          have xn8 : ∀ k, Foot b r (.slice none 0 0) k → OldBut aa wr k := fun k f => ⟨(gi.cut.foot_lt (foot_nil f)).2, fun ad e hk => by subst e; exact gi.apart _ (own_block gi.all) (hk ▸ foot_nil f)⟩
          have HG7 := Lib.hid gi7
          have HXR := Lib.hid xr
          have HXN := Lib.hid xn
          clear wrows e1 gi7 gi RS2 cc0 cc1 cc2 cc3 cc4 eg xr xn
          generalize (CutMath.feed h [] A).2 = hd at *
          generalize (CutMath.feed h [] A).1 = F at *
          go_wp2_with fail
          refine EN.mono ?_
          rintro e w8 ⟨rfl, c8, ho8, t8⟩
          have xr8 := t8.reads HXR.out fun ad e f => (HXN.out ad e).1 (xn8 _ f)
          obtain ⟨ea, ec, rfl, er⟩ := ho8.reads
          have SM := same_any ea xa ec xc hd hd w8 er xr8
          rw [beq_self_eq_true] at SM
          have hb8 : Below w1.heap.size w1 w8 := HG7.out.below.trans (t8.below (fun k f => (c8.foot_lt f).1) HG7.out.below.size)
          clear EN er ho8 t8 HG7
          go_wp2_with fail
          refine SM.mono ?_
          rintro e w9 ⟨j9, rfl, hw9⟩
          have c9 : Cutter w9 w1.heap.size b r (.slice none 0 0) h [] := hw9 ▸ c8.drewN j9
          have hb9 : Below w1.heap.size w1 w9 := hw9 ▸ below_drewN hb8 j9
          have HH := cutHeld_any c9
          have EN2 := cutEnd_any c9
          clear hw9 hb8 c8 SM
          go_wp2_with fail
          refine HH.mono ?_
          rintro e w' ⟨rfl, rfl⟩
          go_wp2_with fail
          refine EN2.mono ?_
          rintro e w10 ⟨rfl, c10, _, t10⟩
          have hb10 := hb9.trans (t10.below (fun k f => (c10.foot_lt f).1) hb9.size)
          clear EN2 HH t10 c9 hb9
          have CU1 := CU _ hb10
          have hm10 := hm1.keeps (Keeps.below hb10)
          obtain ⟨c0, c1, c2, c3, c4⟩ := bx _ hb10
          have RS3 := RS w10 a2 cap2 m (by omega) hm10
          unfold Splits at RS3
          clear CU hm10
          go_wp2_with fail
          refine CU1.mono ?_
          rintro e w' ⟨rfl, rfl⟩
          go_wp2_with fail
          refine RS3.mono ?_
          rintro e w11 ⟨nv, nvs, rfl, nrows, hb11'⟩
          have hb11 := hb10.trans (hb11'.mono hb10.size)
          have c11 := c10.touch (F := fun _ => False) (.of_below hb11') fun _ _ f => f
          have hoff : m ≠ [] → ∀ ad, a2 = some ad → ¬ Foot b r (.slice none 0 0) ad.block := fun hne ad e f => by
            have := reads_addr hm1 hne ad e
            have := (c10.foot_lt f).1
            omega
          have nr11 : OwnsRows (fun k => m ≠ [] ∧ (Foot b r (.slice none 0 0) k ∨ w11.heap.size ≤ k)) w11 w10.heap.size 25 nv nvs (CutMath.split h m) := nrows.less fun k e => e.2.elim (fun f => .inl ⟨(c10.foot_lt f).2, fun ad e2 hk => hoff e.1 ad e2 (hk ▸ f)⟩) .inr
          have WR := cutWrite_any g c11 hb11.size (CutMath.open_nil h) a2 cap2 m (by omega) (hm1.keeps (Keeps.below hb11)) hoff
          obtain ⟨na, nc, rfl, nrr⟩ := nr11.rr
          have NR : ∀ w', Touch (fun k => Foot b r (.slice none 0 0) k ∨ w11.heap.size ≤ k) w11 w' → RR w' na nc (CutMath.split h m) := by
            intro w' t
            by_cases hne : m = []
            · have e0 : CutMath.split h m = [] := by subst hne; simp [CutMath.split, CutMath.feed_nil]
              exact ⟨nrr.fits, nrr.room, nrr.null, .inl e0⟩
            · obtain ⟨na', nc', e, r'⟩ := (nr11.touch (t.mono fun k e => ⟨hne, e⟩)).rr
              injection e with e1 _ e3
              subst e1 e3
              exact r'
          clear nrows RS3 CU1 c10 hb10 hb11' c0 c1 c2 c3 c4 nrr nr11
          have hfewm := CutMath.feed_few h m []
          have hjm := congrArg List.length (CutMath.feed_join h m [])
          rw [List.length_append, List.nil_append] at hjm
          have hsm := split_cases h m
          go_wp2_with fail
          refine WR.mono ?_
          rintro e w12 ⟨v'', ov, vs, rfl, c12, o12, t12, f12⟩
          have EN3 := cutEnd_any c12
          have hb12 := hb11.trans (t12.below (fun k f => (c11.foot_lt f).1) hb11.size)
          clear WR hoff c11 hb11
          go_wp2_with fail
          refine EN3.mono ?_
          rintro e w13 ⟨rfl, c13, ho13, t13⟩
          have o13 := o12.touch (t13.mono fun k f => .inl (foot_nil f))
          have t11 := (t12.mono fun k f => Or.inl (b := w11.heap.size ≤ k) f).trans (t13.mono fun k f => Or.inl (b := w11.heap.size ≤ k) f)
          have hb13 := hb12.trans (t13.below (fun k f => (c13.foot_lt f).1) hb12.size)
          obtain ⟨ya, yc, rfl⟩ := row_form ho13
          clear EN3 c12 o12 t12 f12 t13 hb12
          rcases hsm with ⟨g1, g2⟩ | ⟨g1, g2⟩
          · have nrr := NR _ t11
            rw [g2] at nrr ⊢
            rw [g1]
            obtain ⟨ga, gc, rfl, grr⟩ := o13.rr
            have SA := sameRows_any ga na gc nc _ _ w13 grr nrr
            rw [beq_rows] at SA
            clear NR t11 nrr grr o13 ho13 c13 g1 g2 hfewm hjm
            go_wp2_with fail
            refine SA.mono ?_
            rintro e w14 ⟨j14, rfl, hw14⟩
            have hb14 := hw14 ▸ below_drewN hb13 j14
            clear hw14 SA
            go_wp2_with fail
            refine (lives_any _).mono ?_
            rintro e w15 ⟨rfl, hb15⟩
            go_wp2
            go_ret
            exact ⟨rfl, HB0.out.trans ((hb14.trans (hb15.mono hb14.size)).mono HB0.out.size)⟩
          · have hpos : (0 : Int) < (((CutMath.feed h [] m).2.length : Nat) : Int) := by
              have := List.length_pos_iff.2 g1; omega
            have hch : Chunk (fun _ => False) w13 (.slice ya (CutMath.feed h [] m).2.length yc) (CutMath.feed h [] m).2 := ho13.chunk fun _ _ f => f
            have hvv : ∀ ad, ya = some ad → ov.ownBlock ≠ some ad.block := fun ad e hv => by
              subst e
              exact o13.out _ hv (.inl (.inr (.inr (own_block ho13))))
            have hov : ∀ k, ov.ownBlock = some k → Foot b r (.slice none 0 0) k ∨ w11.heap.size ≤ k := fun k hk => by
              by_cases hf : Foot b r (.slice none 0 0) k
              · exact .inl hf
              · rcases Nat.lt_or_ge k w11.heap.size with hlt | hge
                · exact (o13.out k hk (.inr ⟨hlt, hf⟩)).elim
                · exact .inr hge
            generalize (CutMath.feed h [] m).2.length = n' at *
            have t8 : Touch (fun _ => False) w13 (w13.alloc (.cells #[.slice ya n' yc] 25)) := (Touch.refl _ _).alloc _
            have rows8 := (o13.less (G := fun _ => False) fun k e => e.elim).touch t8
            have hch8 := hch.touch t8
            have hrow := rows8.row
            have hcell : (w13.alloc (.cells #[.slice ya n' yc] 25)).cell? ⟨w13.heap.size, 0, none⟩ = some (.slice ya n' yc) := alloc_cell w13 _ _ 0
            have hb8 := hb13.alloc hb13.size (.cells #[.slice ya n' yc] 25)
            have t8b := t11.alloc (.cells #[.slice ya n' yc] 25)
            have hsz := hb8.size
            have H5 := Lib.hid rows8
            have HC := Lib.hid hch8
            have HV := Lib.hid hvv
            have HL := Lib.hid hb8
            have HO := Lib.hid hov
            have HT := Lib.hid t8b
            have G2 := Lib.hid g2
            have HN := Lib.hid NR
            clear ho13 o13 hch hvv t8 rows8 hch8 hb8 hov t8b g1 g2 NR c13 t11 hb13
            go_wp2_with (at_builtin; refine wpList_append_elem rowsElem rfl _ _ rfl w1.heap.size ov (CutMath.feed h [] m).1.length _ rfl hrow ⟨w13.heap.size, 0, none⟩ 1 (.slice ya n' yc) rfl hcell rfl (by omega) (by omega) hsz ?_; intro gv w14 h1 hg hb5)
            have hb14 := HL.out.trans ((Touch.of_grown (F := fun k => ov.ownBlock = some k) hg fun k hk => hk).below (fun k hk => (row_lt hrow hk).1) hsz)
            have rows9 := H5.out.snoc HC.out (fun k hk => hk.elim) h1 hg hb5 (fun ad m c e => by injection e with e _ _; exact HV.out ad e)
            have nrr := HN.out _ (HT.out.trans (Touch.of_grown hg HO.out))
            rw [← G2.out] at rows9
            obtain ⟨ga, gc, rfl, grr⟩ := rows9.rr
            have SA := sameRows_any ga na gc nc _ _ w14 grr nrr
            rw [beq_rows] at SA
            clear HN nrr grr rows9 h1 hg hb5 H5 HC HV HL HO HT G2 hrow hcell hsz
            refine SA.mono ?_
            rintro e w15 ⟨j14, rfl, hw14⟩
            have hb15 := hw14 ▸ below_drewN hb14 j14
            clear hw14 SA
            go_wp2_with fail
            refine (lives_any _).mono ?_
            rintro e w16 ⟨rfl, hb16⟩
            go_wp2
            go_ret
            exact ⟨rfl, HB0.out.trans ((hb15.trans (hb16.mono hb15.size)).mono HB0.out.size)⟩
      · rcases hsc with ⟨e1, e2⟩ | ⟨e1, e2⟩
        · rw [hEd, e2, decide_eq_true e1] at RS2
          clear e2 hEd
          go_wp2_with fail
          refine RS2.mono ?_
          rintro e w7 ⟨wv, wvs, rfl, wrows, hb7⟩
          obtain ⟨wa, wc, rfl, wrr⟩ := wrows.rr
          have gi7 := gi.later hb7
          have c7 := gi7.cut
          rw [e1] at c7
          have EN := cutEnd_any c7
          have HG7 := Lib.hid gi7
          clear wrr wrows e1 gi7 gi c7 RS2 cc0 cc1 cc2 cc3 cc4 hjoin
          go_wp2_with fail
          refine EN.mono ?_
          rintro e w8 ⟨rfl, c8, ho8, t8⟩
          obtain ⟨ea, ec, rfl, er⟩ := ho8.reads
          have SM : Calls Try.prog 19 #[.slice ea 0 ec, .slice none 0 0] w8 (Tells w8 true) := same_any ea none ec 0 [] [] w8 er (reads_nil _)
          have hb8 : Below w1.heap.size w1 w8 := HG7.out.below.trans (t8.below (fun k f => (c8.foot_lt f).1) HG7.out.below.size)
          clear EN er ho8 t8 HG7
          go_wp2_with fail
          refine SM.mono ?_
          rintro e w9 ⟨j9, rfl, hw9⟩
          have c9 : Cutter w9 w1.heap.size b r (.slice none 0 0) h [] := hw9 ▸ c8.drewN j9
          have hb9 : Below w1.heap.size w1 w9 := hw9 ▸ below_drewN hb8 j9
          have HH := cutHeld_any c9
          have EN2 := cutEnd_any c9
          clear hw9 hb8 c8 SM
          go_wp2_with fail
          refine HH.mono ?_
          rintro e w' ⟨rfl, rfl⟩
          go_wp2_with fail
          refine EN2.mono ?_
          rintro e w10 ⟨rfl, c10, _, t10⟩
          have hb10 := hb9.trans (t10.below (fun k f => (c10.foot_lt f).1) hb9.size)
          clear EN2 HH t10 c9 hb9
          have CU1 := CU _ hb10
          have hm10 := hm1.keeps (Keeps.below hb10)
          obtain ⟨c0, c1, c2, c3, c4⟩ := bx _ hb10
          have RS3 := RS w10 a2 cap2 m (by omega) hm10
          unfold Splits at RS3
          clear CU hm10
          go_wp2_with fail
          refine CU1.mono ?_
          rintro e w' ⟨rfl, rfl⟩
          go_wp2_with fail
          refine RS3.mono ?_
          rintro e w11 ⟨nv, nvs, rfl, nrows, hb11'⟩
          have hb11 := hb10.trans (hb11'.mono hb10.size)
          have c11 := c10.touch (F := fun _ => False) (.of_below hb11') fun _ _ f => f
          have hoff : m ≠ [] → ∀ ad, a2 = some ad → ¬ Foot b r (.slice none 0 0) ad.block := fun hne ad e f => by
            have := reads_addr hm1 hne ad e
            have := (c10.foot_lt f).1
            omega
          have nr11 : OwnsRows (fun k => m ≠ [] ∧ (Foot b r (.slice none 0 0) k ∨ w11.heap.size ≤ k)) w11 w10.heap.size 25 nv nvs (CutMath.split h m) := nrows.less fun k e => e.2.elim (fun f => .inl ⟨(c10.foot_lt f).2, fun ad e2 hk => hoff e.1 ad e2 (hk ▸ f)⟩) .inr
          have WR := cutWrite_any g c11 hb11.size (CutMath.open_nil h) a2 cap2 m (by omega) (hm1.keeps (Keeps.below hb11)) hoff
          obtain ⟨na, nc, rfl, nrr⟩ := nr11.rr
          have NR : ∀ w', Touch (fun k => Foot b r (.slice none 0 0) k ∨ w11.heap.size ≤ k) w11 w' → RR w' na nc (CutMath.split h m) := by
            intro w' t
            by_cases hne : m = []
            · have e0 : CutMath.split h m = [] := by subst hne; simp [CutMath.split, CutMath.feed_nil]
              exact ⟨nrr.fits, nrr.room, nrr.null, .inl e0⟩
            · obtain ⟨na', nc', e, r'⟩ := (nr11.touch (t.mono fun k e => ⟨hne, e⟩)).rr
              injection e with e1 _ e3
              subst e1 e3
              exact r'
          clear nrows RS3 CU1 c10 hb10 hb11' c0 c1 c2 c3 c4 nrr nr11
          have hfewm := CutMath.feed_few h m []
          have hjm := congrArg List.length (CutMath.feed_join h m [])
          rw [List.length_append, List.nil_append] at hjm
          have hsm := split_cases h m
          go_wp2_with fail
          refine WR.mono ?_
          rintro e w12 ⟨v'', ov, vs, rfl, c12, o12, t12, f12⟩
          have EN3 := cutEnd_any c12
          have hb12 := hb11.trans (t12.below (fun k f => (c11.foot_lt f).1) hb11.size)
          clear WR hoff c11 hb11
          go_wp2_with fail
          refine EN3.mono ?_
          rintro e w13 ⟨rfl, c13, ho13, t13⟩
          have o13 := o12.touch (t13.mono fun k f => .inl (foot_nil f))
          have t11 := (t12.mono fun k f => Or.inl (b := w11.heap.size ≤ k) f).trans (t13.mono fun k f => Or.inl (b := w11.heap.size ≤ k) f)
          have hb13 := hb12.trans (t13.below (fun k f => (c13.foot_lt f).1) hb12.size)
          obtain ⟨ya, yc, rfl⟩ := row_form ho13
          clear EN3 c12 o12 t12 f12 t13 hb12
          rcases hsm with ⟨g1, g2⟩ | ⟨g1, g2⟩
          · have nrr := NR _ t11
            rw [g2] at nrr ⊢
            rw [g1]
            obtain ⟨ga, gc, rfl, grr⟩ := o13.rr
            have SA := sameRows_any ga na gc nc _ _ w13 grr nrr
            rw [beq_rows] at SA
            clear NR t11 nrr grr o13 ho13 c13 g1 g2 hfewm hjm
            go_wp2_with fail
            refine SA.mono ?_
            rintro e w14 ⟨j14, rfl, hw14⟩
            have hb14 := hw14 ▸ below_drewN hb13 j14
            clear hw14 SA
            go_wp2_with fail
            refine (lives_any _).mono ?_
            rintro e w15 ⟨rfl, hb15⟩
            go_wp2
            go_ret
            exact ⟨rfl, HB0.out.trans ((hb14.trans (hb15.mono hb14.size)).mono HB0.out.size)⟩
          · have hpos : (0 : Int) < (((CutMath.feed h [] m).2.length : Nat) : Int) := by
              have := List.length_pos_iff.2 g1; omega
            have hch : Chunk (fun _ => False) w13 (.slice ya (CutMath.feed h [] m).2.length yc) (CutMath.feed h [] m).2 := ho13.chunk fun _ _ f => f
            have hvv : ∀ ad, ya = some ad → ov.ownBlock ≠ some ad.block := fun ad e hv => by
              subst e
              exact o13.out _ hv (.inl (.inr (.inr (own_block ho13))))
            have hov : ∀ k, ov.ownBlock = some k → Foot b r (.slice none 0 0) k ∨ w11.heap.size ≤ k := fun k hk => by
              by_cases hf : Foot b r (.slice none 0 0) k
              · exact .inl hf
              · rcases Nat.lt_or_ge k w11.heap.size with hlt | hge
                · exact (o13.out k hk (.inr ⟨hlt, hf⟩)).elim
                · exact .inr hge
            generalize (CutMath.feed h [] m).2.length = n' at *
            have t8 : Touch (fun _ => False) w13 (w13.alloc (.cells #[.slice ya n' yc] 25)) := (Touch.refl _ _).alloc _
            have rows8 := (o13.less (G := fun _ => False) fun k e => e.elim).touch t8
            have hch8 := hch.touch t8
            have hrow := rows8.row
            have hcell : (w13.alloc (.cells #[.slice ya n' yc] 25)).cell? ⟨w13.heap.size, 0, none⟩ = some (.slice ya n' yc) := alloc_cell w13 _ _ 0
            have hb8 := hb13.alloc hb13.size (.cells #[.slice ya n' yc] 25)
            have t8b := t11.alloc (.cells #[.slice ya n' yc] 25)
            have hsz := hb8.size
            have H5 := Lib.hid rows8
            have HC := Lib.hid hch8
            have HV := Lib.hid hvv
            have HL := Lib.hid hb8
            have HO := Lib.hid hov
            have HT := Lib.hid t8b
            have G2 := Lib.hid g2
            have HN := Lib.hid NR
            clear ho13 o13 hch hvv t8 rows8 hch8 hb8 hov t8b g1 g2 NR c13 t11 hb13
            go_wp2_with (at_builtin; refine wpList_append_elem rowsElem rfl _ _ rfl w1.heap.size ov (CutMath.feed h [] m).1.length _ rfl hrow ⟨w13.heap.size, 0, none⟩ 1 (.slice ya n' yc) rfl hcell rfl (by omega) (by omega) hsz ?_; intro gv w14 h1 hg hb5)
            have hb14 := HL.out.trans ((Touch.of_grown (F := fun k => ov.ownBlock = some k) hg fun k hk => hk).below (fun k hk => (row_lt hrow hk).1) hsz)
            have rows9 := H5.out.snoc HC.out (fun k hk => hk.elim) h1 hg hb5 (fun ad m c e => by injection e with e _ _; exact HV.out ad e)
            have nrr := HN.out _ (HT.out.trans (Touch.of_grown hg HO.out))
            rw [← G2.out] at rows9
            obtain ⟨ga, gc, rfl, grr⟩ := rows9.rr
            have SA := sameRows_any ga na gc nc _ _ w14 grr nrr
            rw [beq_rows] at SA
            clear HN nrr grr rows9 h1 hg hb5 H5 HC HV HL HO HT G2 hrow hcell hsz
            refine SA.mono ?_
            rintro e w15 ⟨j14, rfl, hw14⟩
            have hb15 := hw14 ▸ below_drewN hb14 j14
            clear hw14 SA
            go_wp2_with fail
            refine (lives_any _).mono ?_
            rintro e w16 ⟨rfl, hb16⟩
            go_wp2
            go_ret
            exact ⟨rfl, HB0.out.trans ((hb15.trans (hb16.mono hb15.size)).mono HB0.out.size)⟩
        · rw [hEd, e2, decide_eq_false e1] at RS2
          clear e2 hEd
          go_wp2_with fail
          refine RS2.mono ?_
          rintro e w7 ⟨wv, wvs, rfl, wrows, hb7⟩
          obtain ⟨wg, wc, xa, xc, rfl, d1, xr, xn⟩ := wrows.at_ (i := (CutMath.feed h [] A).1.length) (by simp)
          have eg : ((CutMath.feed h [] A).1 ++ [(CutMath.feed h [] A).2]).getD (CutMath.feed h [] A).1.length [] = (CutMath.feed h [] A).2 := by simp [List.getD_eq_getElem?_getD]
          rw [eg] at d1 xr
          rw [List.length_append, List.length_singleton]
          have gi7 := gi.later hb7
          have EN := cutEnd_any gi7.cut
          have xn8 : ∀ k, Foot b r (.slice none 0 0) k → OldBut aa wr k := fun k f => ⟨(gi.cut.foot_lt (foot_nil f)).2, fun ad e hk => by subst e; exact gi.apart _ (own_block gi.all) (hk ▸ foot_nil f)⟩
          have HG7 := Lib.hid gi7
          have HXR := Lib.hid xr
          have HXN := Lib.hid xn
          clear wrows e1 gi7 gi RS2 cc0 cc1 cc2 cc3 cc4 eg xr xn
          generalize (CutMath.feed h [] A).2 = hd at *
          generalize (CutMath.feed h [] A).1 = F at *
          go_wp2_with fail
          refine EN.mono ?_
          rintro e w8 ⟨rfl, c8, ho8, t8⟩
          have xr8 := t8.reads HXR.out fun ad e f => (HXN.out ad e).1 (xn8 _ f)
          obtain ⟨ea, ec, rfl, er⟩ := ho8.reads
          have SM := same_any ea xa ec xc hd hd w8 er xr8
          rw [beq_self_eq_true] at SM
          have hb8 : Below w1.heap.size w1 w8 := HG7.out.below.trans (t8.below (fun k f => (c8.foot_lt f).1) HG7.out.below.size)
          clear EN er ho8 t8 HG7
          go_wp2_with fail
          refine SM.mono ?_
          rintro e w9 ⟨j9, rfl, hw9⟩
          have c9 : Cutter w9 w1.heap.size b r (.slice none 0 0) h [] := hw9 ▸ c8.drewN j9
          have hb9 : Below w1.heap.size w1 w9 := hw9 ▸ below_drewN hb8 j9
          have HH := cutHeld_any c9
          have EN2 := cutEnd_any c9
          clear hw9 hb8 c8 SM
          go_wp2_with fail
          refine HH.mono ?_
          rintro e w' ⟨rfl, rfl⟩
          go_wp2_with fail
          refine EN2.mono ?_
          rintro e w10 ⟨rfl, c10, _, t10⟩
          have hb10 := hb9.trans (t10.below (fun k f => (c10.foot_lt f).1) hb9.size)
          clear EN2 HH t10 c9 hb9
          have CU1 := CU _ hb10
          have hm10 := hm1.keeps (Keeps.below hb10)
          obtain ⟨c0, c1, c2, c3, c4⟩ := bx _ hb10
          have RS3 := RS w10 a2 cap2 m (by omega) hm10
          unfold Splits at RS3
          clear CU hm10
          go_wp2_with fail
          refine CU1.mono ?_
          rintro e w' ⟨rfl, rfl⟩
          go_wp2_with fail
          refine RS3.mono ?_
          rintro e w11 ⟨nv, nvs, rfl, nrows, hb11'⟩
          have hb11 := hb10.trans (hb11'.mono hb10.size)
          have c11 := c10.touch (F := fun _ => False) (.of_below hb11') fun _ _ f => f
          have hoff : m ≠ [] → ∀ ad, a2 = some ad → ¬ Foot b r (.slice none 0 0) ad.block := fun hne ad e f => by
            have := reads_addr hm1 hne ad e
            have := (c10.foot_lt f).1
            omega
          have nr11 : OwnsRows (fun k => m ≠ [] ∧ (Foot b r (.slice none 0 0) k ∨ w11.heap.size ≤ k)) w11 w10.heap.size 25 nv nvs (CutMath.split h m) := nrows.less fun k e => e.2.elim (fun f => .inl ⟨(c10.foot_lt f).2, fun ad e2 hk => hoff e.1 ad e2 (hk ▸ f)⟩) .inr
          have WR := cutWrite_any g c11 hb11.size (CutMath.open_nil h) a2 cap2 m (by omega) (hm1.keeps (Keeps.below hb11)) hoff
          obtain ⟨na, nc, rfl, nrr⟩ := nr11.rr
          have NR : ∀ w', Touch (fun k => Foot b r (.slice none 0 0) k ∨ w11.heap.size ≤ k) w11 w' → RR w' na nc (CutMath.split h m) := by
            intro w' t
            by_cases hne : m = []
            · have e0 : CutMath.split h m = [] := by subst hne; simp [CutMath.split, CutMath.feed_nil]
              exact ⟨nrr.fits, nrr.room, nrr.null, .inl e0⟩
            · obtain ⟨na', nc', e, r'⟩ := (nr11.touch (t.mono fun k e => ⟨hne, e⟩)).rr
              injection e with e1 _ e3
              subst e1 e3
              exact r'
          clear nrows RS3 CU1 c10 hb10 hb11' c0 c1 c2 c3 c4 nrr nr11
          have hfewm := CutMath.feed_few h m []
          have hjm := congrArg List.length (CutMath.feed_join h m [])
          rw [List.length_append, List.nil_append] at hjm
          have hsm := split_cases h m
          go_wp2_with fail
          refine WR.mono ?_
          rintro e w12 ⟨v'', ov, vs, rfl, c12, o12, t12, f12⟩
          have EN3 := cutEnd_any c12
          have hb12 := hb11.trans (t12.below (fun k f => (c11.foot_lt f).1) hb11.size)
          clear WR hoff c11 hb11
          go_wp2_with fail
          refine EN3.mono ?_
          rintro e w13 ⟨rfl, c13, ho13, t13⟩
          have o13 := o12.touch (t13.mono fun k f => .inl (foot_nil f))
          have t11 := (t12.mono fun k f => Or.inl (b := w11.heap.size ≤ k) f).trans (t13.mono fun k f => Or.inl (b := w11.heap.size ≤ k) f)
          have hb13 := hb12.trans (t13.below (fun k f => (c13.foot_lt f).1) hb12.size)
          obtain ⟨ya, yc, rfl⟩ := row_form ho13
          clear EN3 c12 o12 t12 f12 t13 hb12
          rcases hsm with ⟨g1, g2⟩ | ⟨g1, g2⟩
          · have nrr := NR _ t11
            rw [g2] at nrr ⊢
            rw [g1]
            obtain ⟨ga, gc, rfl, grr⟩ := o13.rr
            have SA := sameRows_any ga na gc nc _ _ w13 grr nrr
            rw [beq_rows] at SA
            clear NR t11 nrr grr o13 ho13 c13 g1 g2 hfewm hjm
            go_wp2_with fail
            refine SA.mono ?_
            rintro e w14 ⟨j14, rfl, hw14⟩
            have hb14 := hw14 ▸ below_drewN hb13 j14
            clear hw14 SA
            go_wp2_with fail
            refine (lives_any _).mono ?_
            rintro e w15 ⟨rfl, hb15⟩
            go_wp2
            go_ret
            exact ⟨rfl, HB0.out.trans ((hb14.trans (hb15.mono hb14.size)).mono HB0.out.size)⟩
          · have hpos : (0 : Int) < (((CutMath.feed h [] m).2.length : Nat) : Int) := by
              have := List.length_pos_iff.2 g1; omega
            have hch : Chunk (fun _ => False) w13 (.slice ya (CutMath.feed h [] m).2.length yc) (CutMath.feed h [] m).2 := ho13.chunk fun _ _ f => f
            have hvv : ∀ ad, ya = some ad → ov.ownBlock ≠ some ad.block := fun ad e hv => by
              subst e
              exact o13.out _ hv (.inl (.inr (.inr (own_block ho13))))
            have hov : ∀ k, ov.ownBlock = some k → Foot b r (.slice none 0 0) k ∨ w11.heap.size ≤ k := fun k hk => by
              by_cases hf : Foot b r (.slice none 0 0) k
              · exact .inl hf
              · rcases Nat.lt_or_ge k w11.heap.size with hlt | hge
                · exact (o13.out k hk (.inr ⟨hlt, hf⟩)).elim
                · exact .inr hge
            generalize (CutMath.feed h [] m).2.length = n' at *
            have t8 : Touch (fun _ => False) w13 (w13.alloc (.cells #[.slice ya n' yc] 25)) := (Touch.refl _ _).alloc _
            have rows8 := (o13.less (G := fun _ => False) fun k e => e.elim).touch t8
            have hch8 := hch.touch t8
            have hrow := rows8.row
            have hcell : (w13.alloc (.cells #[.slice ya n' yc] 25)).cell? ⟨w13.heap.size, 0, none⟩ = some (.slice ya n' yc) := alloc_cell w13 _ _ 0
            have hb8 := hb13.alloc hb13.size (.cells #[.slice ya n' yc] 25)
            have t8b := t11.alloc (.cells #[.slice ya n' yc] 25)
            have hsz := hb8.size
            have H5 := Lib.hid rows8
            have HC := Lib.hid hch8
            have HV := Lib.hid hvv
            have HL := Lib.hid hb8
            have HO := Lib.hid hov
            have HT := Lib.hid t8b
            have G2 := Lib.hid g2
            have HN := Lib.hid NR
            clear ho13 o13 hch hvv t8 rows8 hch8 hb8 hov t8b g1 g2 NR c13 t11 hb13
            go_wp2_with (at_builtin; refine wpList_append_elem rowsElem rfl _ _ rfl w1.heap.size ov (CutMath.feed h [] m).1.length _ rfl hrow ⟨w13.heap.size, 0, none⟩ 1 (.slice ya n' yc) rfl hcell rfl (by omega) (by omega) hsz ?_; intro gv w14 h1 hg hb5)
            have hb14 := HL.out.trans ((Touch.of_grown (F := fun k => ov.ownBlock = some k) hg fun k hk => hk).below (fun k hk => (row_lt hrow hk).1) hsz)
            have rows9 := H5.out.snoc HC.out (fun k hk => hk.elim) h1 hg hb5 (fun ad m c e => by injection e with e _ _; exact HV.out ad e)
            have nrr := HN.out _ (HT.out.trans (Touch.of_grown hg HO.out))
            rw [← G2.out] at rows9
            obtain ⟨ga, gc, rfl, grr⟩ := rows9.rr
            have SA := sameRows_any ga na gc nc _ _ w14 grr nrr
            rw [beq_rows] at SA
            clear HN nrr grr rows9 h1 hg hb5 H5 HC HV HL HO HT G2 hrow hcell hsz
            refine SA.mono ?_
            rintro e w15 ⟨j14, rfl, hw14⟩
            have hb15 := hw14 ▸ below_drewN hb14 j14
            clear hw14 SA
            go_wp2_with fail
            refine (lives_any _).mono ?_
            rintro e w16 ⟨rfl, hb16⟩
            go_wp2
            go_ret
            exact ⟨rfl, HB0.out.trans ((hb15.trans (hb16.mono hb15.size)).mono HB0.out.size)⟩
theorem cutWrites_walk (L M K W : Int) (s : BitVec 32) (a : Option Addr) (cap : Nat) (l : Rows) (a2 : Option Addr) (cap2 : Nat) (l2 : List (BitVec 8)) (w : World) (hr : RR w a cap l) (hr2 : Reads w a2 cap2 l2) :
    Calls Try.prog 8 #[shapeV L M K W s, .slice a l.length cap, .slice a2 l2.length cap2] w fun e w' => e = .returned (.bool true) ∧ Below w.heap.size w w' := by
  cases hg : goodB L M K W
  · exact cutWrites_bad L M K W s _ _ w (bad_iff.1 hg)
  · obtain ⟨h, g, e, _⟩ := good_of (s := s) hg
    rw [e]
    exact cutWrites_good h g a cap l a2 cap2 l2 w hr hr2
end Go.Proofs.Ytbjaeofooaikkaa
