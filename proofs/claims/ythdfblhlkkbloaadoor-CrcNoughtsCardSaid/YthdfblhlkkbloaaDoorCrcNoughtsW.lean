/- The law's walk: CrcNoughts. -/
import Derived.Test.YthdfblhlkkbloaaDoorCrcPiecesW
import Derived.Test.YthdfblhlkkbloaaDoorTwo
import Derived.Test.YthdfblhlkkbloaaDoorT
namespace Go.Proofs.YthdfblhlkkbloaaDoor
open Go Go.RowKit

def twoC (p q : Addr) (x y : BitVec 8) (W : World) : Prop := W.cell? p = some (U8 x) ∧ W.cell? q = some (U8 y)
def NoughtRel (w : World) (A B : List (BitVec 8)) (v u i : Value) (wr : World) : Prop :=
  ∃ k : Nat, k ≤ A.length ∧ i = .int .i64 k ∧ Pair w 5 v (List.zipWith (· ^^^ ·) (A.take k) (B.take k)) u (List.replicate k 0#8) wr
theorem zip_snoc (A B : List (BitVec 8)) (k : Nat) (ha : k < A.length) (hb : k < B.length) : List.zipWith (· ^^^ ·) (A.take (k + 1)) (B.take (k + 1)) = List.zipWith (· ^^^ ·) (A.take k) (B.take k) ++ [byteAt A k ^^^ byteAt B k] := by
  rw [take_snoc A k ha, take_snoc B k hb, List.zipWith_append (by simp; omega)]
  rfl
theorem rep_snoc (k : Nat) : List.replicate (k + 1) 0#8 = List.replicate k 0#8 ++ [0#8] := List.replicate_succ'
theorem two_of {w W : World} {E : TypeId} {v u : Value} {l m : List (BitVec 8)} {p q : Addr} {x y : BitVec 8} (h : Pair w E v l u m W) (h1 : Hid (w.cell? p = some (U8 x))) (h2 : Hid (w.cell? q = some (U8 y))) : ∃ r : Of (twoC p q x y), W = r.to :=
  of_mk ⟨Keeps.below h.below _ _ h1.out, Keeps.below h.below _ _ h2.out⟩
set_option maxHeartbeats 2000000 in
set_option maxRecDepth 40000 in
theorem crcNoughts_walk (a : Option Addr) (cap : Nat) (l : List (BitVec 8)) (a1 : Option Addr) (cap1 : Nat) (l1 : List (BitVec 8)) (a2 : Option Addr) (cap2 : Nat) (l2 : List (BitVec 8)) (w : World) (hh : Half w) (hr : Reads w a cap l) (hr1 : Reads w a1 cap1 l1) (hr2 : Reads w a2 cap2 l2) :
    Calls Tryd.prog 5 #[.slice a l.length cap, .slice a1 l1.length cap1, .slice a2 l2.length cap2] w fun e w' => e = .returned (.bool true) ∧ Below w.heap.size w w' := by
  have len1 := hr1.fits
  have len2 := hr2.fits
  have room1 := hr1.room
  have room2 := hr2.room
  have CU := cut_any a cap l 100 100 w rfl hr (by decide)
  have hm := hr.take 100
  have hml : (l.take 100).length ≤ 100 := by rw [List.length_take]; omega
  generalize l.take 100 = m at *
  obtain ⟨n1, e1⟩ : ∃ n1 : Nat, within (l1.length : Int) 0 100 = n1 := ⟨min l1.length 100, by unfold within; split <;> (try split) <;> omega⟩
  have b1 : n1 ≤ l1.length ∧ n1 ≤ 100 := by unfold within at e1; split at e1 <;> (try split at e1) <;> omega
  obtain ⟨n, e2⟩ : ∃ n : Nat, within (l2.length : Int) 0 n1 = n := ⟨min l2.length n1, by unfold within; split <;> (try split) <;> omega⟩
  have b2 : n ≤ l2.length ∧ n ≤ n1 := by unfold within at e2; split at e2 <;> (try split at e2) <;> omega
  have W1 := within_any (l1.length : Int) 0 100
  have W2 := within_any (l2.length : Int) 0 (n1 : Int)
  rw [e1] at W1
  rw [e2] at W2
  clear e1 e2 hr
  have hA := hr1.take n
  have hB := hr2.take n
  have lA : (l1.take n).length = n := by rw [List.length_take]; omega
  have lB : (l2.take n).length = n := by rw [List.length_take]; omega
  have sl1 := fun w => run_slice_to byteSlice w a1 l1.length cap1 .i64 n n rfl (by omega)
  have sl2 := fun w => run_slice_to byteSlice w a2 l2.length cap2 .i64 n n rfl (by omega)
  have hn : n ≤ 100 := by omega
  have hn1 : n ≤ cap1 ∧ n ≤ cap2 := by omega
  generalize l1.length = L1 at *
  generalize l2.length = L2 at *
  clear hr1 hr2 b1 b2
  generalize l1.take n = A at *
  generalize l2.take n = B at *
  have LA := Lib.hid lA
  have LB := Lib.hid lB
  clear lA lB
  go_enter Tryd.func5, Tryd.ntmps5
  go_wp2_with fail
  refine CU.mono ?_
  rintro e w' ⟨rfl, rfl⟩
  go_wp2_with fail
  refine (W1 _).mono ?_
  rintro e w' ⟨rfl, rfl⟩
  go_wp2_with fail
  refine (W2 _).mono ?_
  rintro e w' ⟨rfl, rfl⟩
  go_wp2_with fail
  go_quiet (fail)
  have hw1 : Below w.heap.size w (w.drewN nq) := (Touch.refl (fun _ => False) w).drewN nq |>.below (fun _ e => e.elim) (Nat.le_refl _)
  have hm1 := hm.keeps (Keeps.below hw1)
  have hh1 := hh.keeps (Keeps.below hw1)
  have START := Lib.hid (show NoughtRel w A B (.slice none 0 0) (.slice none 0 0) (.int .i64 ((0 : Nat) : Int)) (w.drewN nq) from ⟨0, Nat.zero_le _, rfl, by rw [List.take_zero, List.take_zero]; exact ⟨owns_nil _ _ _, owns_nil _ _ _, fun k e => by simp [Value.ownBlock] at e, hw1⟩⟩)
  have HM := Lib.hid hm
  have HH := Lib.hid hh
  have HA := Lib.hid hA
  have HB := Lib.hid hB
  clear hm hh hA hB hm1 hh1 W1 W2 CU sl1 sl2 room1 room2
  generalize w.drewN nq = w1 at *
  go_wp2_with fail
  go_loopw [8, 9, 10] (fun v u i wr => NoughtRel w A B v u i wr) (fun _ _ i _ => n - (intOf i).toNat)
  case atStart => exact START.out
  case round =>
    clear START hw1
    obtain ⟨k, hk, rfl, hp⟩ := hrel
    have hkn : k ≤ n := by have := LA.out; omega
    clear hk
    by_cases hlt : k < n
    · have hka : k < A.length := by rw [LA.out]; exact hlt
      have hkb : k < B.length := by rw [LB.out]; exact hlt
      obtain ⟨g1, o1, rfl, c1⟩ := HA.out.bytes.resolve_left (fun e => by rw [e] at hka; simp at hka)
      obtain ⟨g2, o2, rfl, c2⟩ := HB.out.bytes.resolve_left (fun e => by rw [e] at hkb; simp at hkb)
      have C1 := Lib.hid (c1 k hka)
      have C2 := Lib.hid (c2 k hkb)
      have c1 := Keeps.below hp.below _ _ (c1 k hka)
      have c2 := Keeps.below hp.below _ _ (c2 k hkb)
      have hz := zip_snoc A B k hka hkb
      have HZ := Lib.hid hz
      have hlx : (List.zipWith (· ^^^ ·) (A.take k) (B.take k)).length ≤ 100 := by rw [List.length_zipWith, List.length_take, List.length_take]; omega
      clear hz hka hkb
      generalize byteAt A k = x at *
      generalize byteAt B k = y at *
      generalize List.zipWith (· ^^^ ·) (A.take k) (B.take k) = L at *
      have HP := Lib.hid hp
      clear hp
      go_wp2_with fail
      have s1 : ∀ q : Of (twoC ⟨g1, o1 + k, none⟩ ⟨g2, o2 + k, none⟩ x y), _ := fun q => q.ok.1
      have s2 : ∀ q : Of (twoC ⟨g1, o1 + k, none⟩ ⟨g2, o2 + k, none⟩ x y), _ := fun q => q.ok.2
      have ne : Nonempty (Of (twoC ⟨g1, o1 + k, none⟩ ⟨g2, o2 + k, none⟩ x y)) := of_ne (w := wr) ⟨c1, c2⟩
      refine wp_region_tree (.vals [0, 1, 2, 3, 4, 5, 6, 7, 8, 9, 12] (.fork 10 13 (.fork 11 13 (.late 13 (.late 14 (.vals [15, 16] .done))) (.late 11 (.late 14 (.vals [15, 16] .done)))) (.late 10 (.late 11 (.late 14 (.vals [15, 16] .done))))))
        (fun w' => ∃ q : Of (twoC ⟨g1, o1 + k, none⟩ ⟨g2, o2 + k, none⟩ x y), w' = q.to) (by kernel_rfl) (by kernel_rfl) (fun _ _ d _ _ h => by cases d <;> exact h) (of_mk ⟨c1, c2⟩) ?_
      refine tree_vals (show wpQuiet _ _ _ _ (_ :: _ :: _ :: _ :: _ :: _ :: _ :: _ :: _ :: _ :: _ :: []) _ from ?_)
      repeat (go_big_quiet_step (fail))
      refine wpQuiet_nil ?_
      have P0 := HP.out.drew
      generalize wr.drew = W0 at *
      refine tree_fork (tree_late (show wpList _ _ _ (_ :: []) _ _ from ?_)) (tree_late (show wpList _ _ _ (_ :: []) _ _ from ?_))
      · go_wp2_with fail
        have P1 := P0.alloc (.cells #[U8 (x ^^^ y)] 5)
        have Lx1 : Lit u8 u9 W0.heap.size (x ^^^ y) (W0.alloc (.cells #[U8 (x ^^^ y)] 5)) := P0.lit (x ^^^ y) 5
        refine late_normal (fun _ h => h) (two_of P1 C1 C2) ?_
        obtain ⟨Gx, hGx⟩ : ∃ g, W0.heap.size = g := ⟨_, rfl⟩
        rw [hGx] at Lx1 ⊢
        generalize W0.alloc (.cells #[U8 (x ^^^ y)] 5) = W1 at *
        clear hGx
        refine tree_fork (tree_late (show wpList _ _ _ (_ :: []) _ _ from ?_)) (tree_late (show wpList _ _ _ (_ :: []) _ _ from ?_))
        · go_wp2_with (at_builtin; refine wpList_append_bytes_at byteSlice rfl _ _ rfl w.heap.size u8 L rfl P1.one (some ⟨Gx, 0, none⟩) 1 [x ^^^ y] rfl (reads_one Lx1.1) (by simp; omega) P1.below.size ?_; intro v1 W2 h1 h2 h3)
          have P2 := P1.first h1 h2 h3
          refine late_normal (fun _ h => h) (two_of P2 C1 C2) ?_
          clear h1 h2 h3
          refine tree_late (show wpList _ _ _ (_ :: []) _ _ from ?_)
          go_wp2_with fail
          have P3 := P2.alloc (.cells #[.int .u8 0] 5)
          have Lz3 : Lit v1 u9 W2.heap.size (0#8) (W2.alloc (.cells #[.int .u8 0] 5)) := P2.lit (0#8) 5
          refine late_normal (fun _ h => h) (two_of P3 C1 C2) ?_
          obtain ⟨Gz, hGz⟩ : ∃ g, W2.heap.size = g := ⟨_, rfl⟩
          rw [hGz] at Lz3 ⊢
          generalize W2.alloc (.cells #[.int .u8 0] 5) = W3 at *
          clear hGz
          refine tree_late (show wpList _ _ _ (_ :: []) _ _ from ?_)
          go_wp2_with (at_builtin; refine wpList_append_bytes_at byteSlice rfl _ _ rfl w.heap.size u9 (List.replicate k 0#8) rfl P3.two (some ⟨Gz, 0, none⟩) 1 [0#8] rfl (reads_one Lz3.1) (by simp; omega) P3.below.size ?_; intro v2 W4 h1 h2 h3)
          have P4 := P3.second h1 h2 h3
          refine late_normal (fun _ h => h) (two_of P4 C1 C2) ?_
          clear h1 h2 h3
          refine tree_vals (show wpQuiet _ _ _ _ (_ :: _ :: []) _ from ?_)
          repeat (go_big_quiet_step (fail))
          refine wpQuiet_nil ?_
          refine tree_done ?_
          go_wp2_with fail
          go_roundw
          case rel => exact ⟨k + 1, by have := LA.out; omega, by go_num, by rw [HZ.out, rep_snoc]; exact P4⟩
          case measure => simp [intOf]; omega
        · go_wp2_with fail
          have P2 := P1.alloc (.cells #[.int .u8 0] 5)
          have LX := (Lx1.alloc (.cells #[.int .u8 0] 5)).1
          have Lz2 : Lit u8 u9 W1.heap.size (0#8) (W1.alloc (.cells #[.int .u8 0] 5)) := P1.lit (0#8) 5
          refine late_normal (fun _ h => h) (two_of P2 C1 C2) ?_
          obtain ⟨Gz, hGz⟩ : ∃ g, W1.heap.size = g := ⟨_, rfl⟩
          rw [hGz] at Lz2 ⊢
          generalize W1.alloc (.cells #[.int .u8 0] 5) = W2 at *
          clear hGz
          refine tree_late (show wpList _ _ _ (_ :: []) _ _ from ?_)
          go_wp2_with (at_builtin; refine wpList_append_bytes_at byteSlice rfl _ _ rfl w.heap.size u8 L rfl P2.one (some ⟨Gx, 0, none⟩) 1 [x ^^^ y] rfl (reads_one LX) (by simp; omega) P2.below.size ?_; intro v1 W3 h1 h2 h3)
          have P3 := P2.first h1 h2 h3
          have LZ := Lz2.grown h2 (.inl rfl)
          refine late_normal (fun _ h => h) (two_of P3 C1 C2) ?_
          clear h1 h2 h3
          refine tree_late (show wpList _ _ _ (_ :: []) _ _ from ?_)
          go_wp2_with (at_builtin; refine wpList_append_bytes_at byteSlice rfl _ _ rfl w.heap.size u9 (List.replicate k 0#8) rfl P3.two (some ⟨Gz, 0, none⟩) 1 [0#8] rfl (reads_one LZ) (by simp; omega) P3.below.size ?_; intro v2 W4 h1 h2 h3)
          have P4 := P3.second h1 h2 h3
          refine late_normal (fun _ h => h) (two_of P4 C1 C2) ?_
          clear h1 h2 h3
          refine tree_vals (show wpQuiet _ _ _ _ (_ :: _ :: []) _ from ?_)
          repeat (go_big_quiet_step (fail))
          refine wpQuiet_nil ?_
          refine tree_done ?_
          go_wp2_with fail
          go_roundw
          case rel => exact ⟨k + 1, by have := LA.out; omega, by go_num, by rw [HZ.out, rep_snoc]; exact P4⟩
          case measure => simp [intOf]; omega
      · go_wp2_with fail
        have P1 := P0.alloc (.cells #[.int .u8 0] 5)
        have Lz1 : Lit u8 u9 W0.heap.size (0#8) (W0.alloc (.cells #[.int .u8 0] 5)) := P0.lit (0#8) 5
        refine late_normal (fun _ h => h) (two_of P1 C1 C2) ?_
        obtain ⟨Gz, hGz⟩ : ∃ g, W0.heap.size = g := ⟨_, rfl⟩
        rw [hGz] at Lz1 ⊢
        generalize W0.alloc (.cells #[.int .u8 0] 5) = W1 at *
        clear hGz
        refine tree_late (show wpList _ _ _ (_ :: []) _ _ from ?_)
        go_wp2_with fail
        have LZ2 := Lz1.alloc (.cells #[U8 (x ^^^ y)] 5)
        have P2 := P1.alloc (.cells #[U8 (x ^^^ y)] 5)
        have Lx2 : Lit u8 u9 W1.heap.size (x ^^^ y) (W1.alloc (.cells #[U8 (x ^^^ y)] 5)) := P1.lit (x ^^^ y) 5
        refine late_normal (fun _ h => h) (two_of P2 C1 C2) ?_
        obtain ⟨Gx, hGx⟩ : ∃ g, W1.heap.size = g := ⟨_, rfl⟩
        rw [hGx] at Lx2 ⊢
        generalize W1.alloc (.cells #[U8 (x ^^^ y)] 5) = W2 at *
        clear hGx
        refine tree_late (show wpList _ _ _ (_ :: []) _ _ from ?_)
        go_wp2_with (at_builtin; refine wpList_append_bytes_at byteSlice rfl _ _ rfl w.heap.size u8 L rfl P2.one (some ⟨Gx, 0, none⟩) 1 [x ^^^ y] rfl (reads_one Lx2.1) (by simp; omega) P2.below.size ?_; intro v1 W3 h1 h2 h3)
        have P3 := P2.first h1 h2 h3
        have LZ := LZ2.grown h2 (.inl rfl)
        refine late_normal (fun _ h => h) (two_of P3 C1 C2) ?_
        clear h1 h2 h3
        refine tree_late (show wpList _ _ _ (_ :: []) _ _ from ?_)
        go_wp2_with (at_builtin; refine wpList_append_bytes_at byteSlice rfl _ _ rfl w.heap.size u9 (List.replicate k 0#8) rfl P3.two (some ⟨Gz, 0, none⟩) 1 [0#8] rfl (reads_one LZ) (by simp; omega) P3.below.size ?_; intro v2 W4 h1 h2 h3)
        have P4 := P3.second h1 h2 h3
        refine late_normal (fun _ h => h) (two_of P4 C1 C2) ?_
        clear h1 h2 h3
        refine tree_vals (show wpQuiet _ _ _ _ (_ :: _ :: []) _ from ?_)
        repeat (go_big_quiet_step (fail))
        refine wpQuiet_nil ?_
        refine tree_done ?_
        go_wp2_with fail
        go_roundw
        case rel => exact ⟨k + 1, by have := LA.out; omega, by go_num, by rw [HZ.out, rep_snoc]; exact P4⟩
        case measure => simp [intOf]; omega
    · obtain rfl : k = n := by omega
      have tA : A.take k = A := List.take_of_length_le (by rw [LA.out]; exact Nat.le_refl _)
      have tB : B.take k = B := List.take_of_length_le (by rw [LB.out]; exact Nat.le_refl _)
      rw [tA, tB] at hp
      have hd := CrcMath.add_diff (CrcMath.sum m) A B (by rw [LA.out, LB.out])
      rw [LA.out] at hd
      have hbq : (CrcMath.add (CrcMath.sum m) A ^^^ CrcMath.add (CrcMath.sum m) B == CrcMath.sum (List.zipWith (· ^^^ ·) A B) ^^^ CrcMath.sum (List.replicate k 0#8)) = true := by rw [hd]; exact beq_self_eq_true _
      have HBQ := Lib.hid hbq
      have HP := Lib.hid hp
      have kk := Keeps.below hp.below
      have hhr := HH.out.keeps kk
      have hmr := HM.out.keeps kk
      have hAr := HA.out.keeps kk
      have hBr := HB.out.keeps kk
      obtain ⟨av, cv, rfl, rv⟩ := hp.one.reads
      obtain ⟨au, cu, rfl, ru⟩ := hp.two.reads
      clear tA tB hd hbq hp kk
      have S1 := sum_any a cap m wr hhr hmr
      have A1 := add_at (CrcMath.sum m) A wr LA.out hhr hAr
      have A2 := add_at (CrcMath.sum m) B wr LB.out hhr hBr
      have S2 := sum_any av cv _ wr hhr rv
      have S3 := sum_any au cu _ wr hhr ru
      have LV := lives_any wr hhr
      clear hmr hAr hBr rv ru
      generalize (List.zipWith (· ^^^ ·) A B) = ZZ at *
      generalize (List.replicate k 0#8) = RR at *
      generalize CrcMath.sum m = s0 at *
      generalize CrcMath.add s0 A = s1 at *
      generalize CrcMath.add s0 B = s2 at *
      generalize CrcMath.sum ZZ = s3 at *
      generalize CrcMath.sum RR = s4 at *
      go_wp2_with fail
      refine S1.mono ?_
      rintro e w' ⟨rfl, rfl⟩
      go_wp2_with fail
      refine A1.mono ?_
      rintro e w' ⟨rfl, rfl⟩
      go_wp2_with fail
      refine A2.mono ?_
      rintro e w' ⟨rfl, rfl⟩
      go_wp2_with fail
      refine S2.mono ?_
      rintro e w' ⟨rfl, rfl⟩
      go_wp2_with fail
      refine S3.mono ?_
      rintro e w' ⟨rfl, rfl⟩
      have hbq := HBQ.out
      go_wp2_with fail
      refine LV.mono ?_
      rintro e w5 ⟨rfl, hb5⟩
      go_wp2
      go_ret
      exact ⟨rfl, HP.out.below.trans (hb5.mono HP.out.below.size)⟩
end Go.Proofs.YthdfblhlkkbloaaDoor
