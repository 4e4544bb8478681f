/- The law's walk: RollLast. -/
import Derived.Test.YtmmejcbiiojmlaaTwo
namespace Go.Proofs.Ytmmejcbiiojmlaa
open Go Go.RowKit

/-- Both rollers, and how far the bytes have been given. -/
def TwoRel (w : World) (bx bY : Nat) (s : BitVec 32) (win : Nat) (A B : List (BitVec 8)) (m p q : List (BitVec 8)) (i : Value) (wr : World) : Prop :=
  ∃ k : Nat, k ≤ m.length ∧ i = .int .i64 k ∧ Roller wr bx s win (lastN win (A ++ p.take k)) ∧ Roller wr bY s win (lastN win (B ++ q.take k)) ∧ Below w.heap.size w wr

theorem rollLast_short (s : BitVec 32) (win : Nat) (N : Int) (hN : within N 1 63 = win) (a : Option Addr) (cap : Nat) (A : List (BitVec 8)) (a' : Option Addr) (cap' : Nat) (B : List (BitVec 8)) (a2 : Option Addr) (cap2 : Nat) (T : List (BitVec 8)) (w : World) (hA : Reads w a cap A) (hB : Reads w a' cap' B) (hT : Reads w a2 cap2 T) (hs : (T.take 100).length < win) :
    Calls Try.prog 8 #[U32 s, .int .i64 N, .slice a A.length cap, .slice a' B.length cap', .slice a2 T.length cap2] w fun e w' => e = .returned (.bool true) ∧ Below w.heap.size w w' := by
  have CA := cut_any _ _ A 100 100 w rfl hA (by decide)
  have CB := cut_any _ _ B 100 100 w rfl hB (by decide)
  have CT := cut_any _ _ T 100 100 w rfl hT (by decide)
  have WI := within_any N 1 63 w
  have LV := lives_any w
  rw [hN] at WI
  generalize (A.take 100).length = nA at *
  generalize (B.take 100).length = nB at *
  generalize (T.take 100).length = nT at *
  clear hA hB hT hN
  go_enter Try.func8, Try.ntmps8
  go_wp2_with fail
  refine CA.mono ?_
  rintro e w' ⟨rfl, rfl⟩
  go_wp2_with fail
  refine CB.mono ?_
  rintro e w' ⟨rfl, rfl⟩
  go_wp2_with fail
  refine CT.mono ?_
  rintro e w' ⟨rfl, rfl⟩
  go_wp2_with fail
  refine WI.mono ?_
  rintro e w' ⟨rfl, rfl⟩
  go_wp2_with fail
  refine LV.mono ?_
  rintro e w' ⟨rfl, hb⟩
  go_wp2
  go_ret
  exact ⟨rfl, hb⟩

theorem app_nil_take (win : Nat) (A m : List (BitVec 8)) : lastN win (A ++ m.take 0) = lastN win A := by rw [List.take_zero, List.append_nil]
theorem nil_take (win : Nat) (p : List (BitVec 8)) (k : Nat) : lastN win (([] : List (BitVec 8)) ++ p.take k) = lastN win (p.take k) := rfl
theorem lastN_nil (win : Nat) : lastN win [] = [] := by simp [lastN]
theorem take_all' {p : List (BitVec 8)} {k : Nat} (h : ¬ k < p.length) : p.take k = p := List.take_of_length_le (by omega)

set_option maxRecDepth 20000 in
set_option maxHeartbeats 1000000 in
theorem rollLast_long (s : BitVec 32) (win : Nat) (N : Int) (hN : within N 1 63 = win) (a : Option Addr) (cap : Nat) (A : List (BitVec 8)) (a' : Option Addr) (cap' : Nat) (B : List (BitVec 8)) (a2 : Option Addr) (cap2 : Nat) (T : List (BitVec 8)) (w : World) (hA : Reads w a cap A) (hB : Reads w a' cap' B) (hT : Reads w a2 cap2 T) (hs : win ≤ (T.take 100).length) (h1 : 1 ≤ win) (h63 : win ≤ 63) :
    Calls Try.prog 8 #[U32 s, .int .i64 N, .slice a A.length cap, .slice a' B.length cap', .slice a2 T.length cap2] w fun e w' => e = .returned (.bool true) ∧ Below w.heap.size w w' := by
  have CA := cut_any _ _ A 100 100 w rfl hA (by decide)
  have CB := cut_any _ _ B 100 100 w rfl hB (by decide)
  have CT := cut_any _ _ T 100 100 w rfl hT (by decide)
  have WI := within_any N 1 63 w
  rw [hN] at WI
  have rA := hA.take 100
  have rB := hB.take 100
  have rT := hT.take 100
  have lA : (A.take 100).length ≤ 100 := by rw [List.length_take]; omega
  have lB : (B.take 100).length ≤ 100 := by rw [List.length_take]; omega
  have lT : (T.take 100).length ≤ 100 := by rw [List.length_take]; omega
  generalize A.take 100 = mA at *
  generalize B.take 100 = mB at *
  generalize T.take 100 = mT at *
  generalize A.length = lenA at *
  generalize B.length = lenB at *
  generalize T.length = lenT at *
  clear hA hB hT hN
  go_enter Try.func8, Try.ntmps8
  go_wp2_with fail
  refine CA.mono ?_
  rintro e w' ⟨rfl, rfl⟩
  go_wp2_with fail
  refine CB.mono ?_
  rintro e w' ⟨rfl, rfl⟩
  go_wp2_with fail
  refine CT.mono ?_
  rintro e w' ⟨rfl, rfl⟩
  go_wp2_with fail
  refine WI.mono ?_
  rintro e w' ⟨rfl, rfl⟩
  clear CA CB CT WI
  go_wp2_with fail
  refine (new_some w s win h1 h63).mono ?_
  rintro e w1 ⟨bx, hbx, rfl, hX, hb⟩
  go_wp2_with fail
  refine (new_some w1 s win h1 h63).mono ?_
  rintro e w2 ⟨bY, hbY, rfl, hY, hb1⟩
  have hne : bx ≠ bY := by have := hX.lt; omega
  have hne' : bY ≠ bx := fun e => hne e.symm
  have hX := hX.below hb1
  have hBY : w.heap.size ≤ bY := Nat.le_trans hb.size hbY
  have hb := hb.trans (hb1.mono hb.size)
  clear hb1 hbY
  go_wp2
  go_loopw [15] (fun i wr => TwoRel w bx bY s win [] [] mA mA [] i wr) (fun i _ => mA.length - (intOf i).toNat)
  case atStart => exact ⟨0, Nat.zero_le _, rfl, by rw [app_nil_take, lastN_nil]; exact hX, by rw [app_nil_take, lastN_nil]; exact hY, hb⟩
  case round =>
    clear hX hY hb
    obtain ⟨k, hk, rfl, hX, hY, hb⟩ := hrel
    by_cases hlt : k < mA.length
    · obtain ⟨b2, off, ha, hc⟩ := byte_cell' (w := w) rA hlt
      have hc1 := Keeps.below hb _ _ hc
      have hps := lastN_take_succ win [] mA k (by omega) hlt
      subst ha
      generalize byteAt mA k = c at *
      go_wp2_with fail
      refine (put_any _ bx s win _ c hX h63).mono ?_
      rintro e w3 ⟨rfl, hX2, ho⟩
      rw [hps] at hX2
      have HX := Lib.hid hX2
      have HY := Lib.hid (hY.only ho hne')
      have HB := Lib.hid (hb.trans (ho.below hbx hb.size))
      clear hX hY hb ho hX2 hps hc hc1
      go_wp2
      go_roundw
      case rel => exact ⟨k + 1, by omega, by go_num, HX.out, by have h := HY.out; rw [List.take_nil] at h ⊢; exact h, HB.out⟩
      case measure => simp [intOf]; omega
    · rw [take_all' hlt, List.nil_append] at hX
      rw [List.take_nil, List.nil_append, lastN_nil] at hY
      go_wp2
      clear hlt hk
      go_loopw [16] (fun i wr => TwoRel w bx bY s win mA [] mB [] mB i wr) (fun i _ => mB.length - (intOf i).toNat)
      case atStart => exact ⟨0, Nat.zero_le _, rfl, by rw [app_nil_take]; exact hX, by rw [app_nil_take, lastN_nil]; exact hY, hb⟩
      case round =>
        clear hX hY hb
        obtain ⟨k, hk, rfl, hX, hY, hb⟩ := hrel
        by_cases hlt : k < mB.length
        · obtain ⟨b2, off, ha, hc⟩ := byte_cell' (w := w) rB hlt
          have hc1 := Keeps.below hb _ _ hc
          have hps := lastN_take_succ win [] mB k (by omega) hlt
          subst ha
          generalize byteAt mB k = c at *
          go_wp2_with fail
          refine (put_any _ bY s win _ c hY h63).mono ?_
          rintro e w3 ⟨rfl, hY2, ho⟩
          rw [hps] at hY2
          have HX := Lib.hid (hX.only ho hne)
          have HY := Lib.hid hY2
          have HB := Lib.hid (hb.trans (ho.below hBY hb.size))
          clear hX hY hb ho hY2 hps hc hc1
          go_wp2
          go_roundw
          case rel => exact ⟨k + 1, by omega, by go_num, by have h := HX.out; rw [List.take_nil] at h ⊢; exact h, HY.out, HB.out⟩
          case measure => simp [intOf]; omega
        · rw [take_all' hlt, List.nil_append] at hY
          rw [List.take_nil, List.append_nil] at hX
          go_wp2
          clear hlt hk
          go_loopw [17] (fun i wr => TwoRel w bx bY s win mA mB mT mT mT i wr) (fun i _ => mT.length - (intOf i).toNat)
          case atStart => exact ⟨0, Nat.zero_le _, rfl, by rw [app_nil_take]; exact hX, by rw [app_nil_take]; exact hY, hb⟩
          case round =>
            clear hX hY hb
            obtain ⟨k, hk, rfl, hX, hY, hb⟩ := hrel
            by_cases hlt : k < mT.length
            · obtain ⟨b2, off, ha, hc⟩ := byte_cell' (w := w) rT hlt
              have hc1 := Keeps.below hb _ _ hc
              have hpx := lastN_take_succ win mA mT k (by omega) hlt
              have hpy := lastN_take_succ win mB mT k (by omega) hlt
              subst ha
              generalize byteAt mT k = c at *
              go_wp2_with fail
              refine (put_any _ bx s win _ c hX h63).mono ?_
              rintro e w3 ⟨rfl, hX2, ho⟩
              rw [hpx] at hX2
              have hY := hY.only ho hne'
              have hb := hb.trans (ho.below hbx hb.size)
              have hc2 := Keeps.below hb _ _ hc
              clear ho hpx hX hc1
              go_wp2_with fail
              refine (put_any _ bY s win _ c hY h63).mono ?_
              rintro e w4 ⟨rfl, hY2, ho⟩
              rw [hpy] at hY2
              have HX := Lib.hid (hX2.only ho hne)
              have HY := Lib.hid hY2
              have HB := Lib.hid (hb.trans (ho.below hBY hb.size))
              clear hX2 hY hb ho hY2 hpy hc hc2
              go_wp2
              go_roundw
              case rel => exact ⟨k + 1, by omega, by go_num, HX.out, HY.out, HB.out⟩
              case measure => simp [intOf]; omega
            · rw [take_all' hlt, lastN_append win _ mT hs] at hX hY
              go_wp2
              clear hlt hk
              have hfl : (lastN win mT).length = win := by rw [lastN_length]; omega
              have VX := value_quiet _ bx s win _ hX
              have VY := value_quiet _ bY s win _ hY
              have FX := fun n => full_quiet _ bx s win _ hX n hfl
              have FY := fun n => full_quiet _ bY s win _ hY n hfl
              have rT' := (rT.keeps (Keeps.below hb)).drop (mT.length - win) (by omega)
              have hkl : (mT.drop (mT.length - win)).length = mT.length - (mT.length - win) := List.length_drop
              have SU := sum_quiet s (dropAddr a2 cap2 (mT.length - win)) (cap2 - (mT.length - win)) (mT.drop (mT.length - win)) _ _ hkl rT'
              have sl := fun w => run_slice_from byteSlice w a2 mT.length cap2 .i64 (mT.length - win) ((mT.length : Int) - win) (by omega) (by omega)
              have hz := Lib.hid (show mT.drop (mT.length - win) = lastN win mT from rfl)
              rw [hz.out] at SU
              clear hX hY rT' hkl hfl hz rA rB rT lA lB
              generalize lastN win mT = q at *
              generalize RollMath.sum s q = X at *
              have x1 : (X == X) = true := beq_self_eq_true X
              have x2 : IntKind.i64.wrap ((mT.length : Int) - win) = (mT.length : Int) - win := IntWalk.i64_in _ (by omega)
              refine wp_region_mid 27 (by kernel_rfl) (by kernel_rfl) rfl ?_
              simp only [List.take_succ_cons, List.take_zero, List.drop_zero]
              repeat (first | go_big_quiet_step (first | with_reducible exact VX _ | with_reducible exact VY _ | with_reducible exact FX _ | with_reducible exact FY _ | with_reducible exact SU _) | quiet_step (first | with_reducible exact VX _ | with_reducible exact VY _ | with_reducible exact FX _ | with_reducible exact FY _ | with_reducible exact SU _))
              refine wpQuiet_nil ?_
              intro j
              go_wp2_with fail
              refine (lives_any _).mono ?_
              rintro e w5 ⟨rfl, hb2⟩
              have hb3 := (below_drewN hb j).trans (hb2.mono hb.size)
              go_wp2
              refine midPost_normal (rest_quiet (by kernel_rfl) ?_)
              simp only [List.drop_succ_cons, List.drop_zero]
              repeat (first | go_big_quiet_step (fail) | quiet_step (fail))
              refine wpQuiet_nil ?_
              intro j'
              go_wp2
              go_ret
              exact ⟨rfl, below_drewN hb3 j'⟩
theorem rollLast_walk (s : BitVec 32) (N : Int) (a : Option Addr) (cap : Nat) (A : List (BitVec 8)) (a' : Option Addr) (cap' : Nat) (B : List (BitVec 8)) (a2 : Option Addr) (cap2 : Nat) (T : List (BitVec 8)) (w : World) (_hN : -9223372036854775808 ≤ N ∧ N ≤ 9223372036854775807) (hA : Reads w a cap A) (hB : Reads w a' cap' B) (hT : Reads w a2 cap2 T) :
    Calls Try.prog 8 #[U32 s, .int .i64 N, .slice a A.length cap, .slice a' B.length cap', .slice a2 T.length cap2] w fun e w' => e = .returned (.bool true) ∧ Below w.heap.size w w' := by
  obtain ⟨n, hn, h1, h63⟩ : ∃ n : Nat, within N 1 63 = n ∧ 1 ≤ n ∧ n ≤ 63 := by
    refine ⟨(within N 1 63).toNat, ?_, ?_, ?_⟩ <;> unfold within <;> split <;> (try split) <;> omega
  by_cases h : (T.take 100).length < n
  · exact rollLast_short s n N hn a cap A a' cap' B a2 cap2 T w hA hB hT h
  · exact rollLast_long s n N hn a cap A a' cap' B a2 cap2 T w hA hB hT (by omega) h1 h63
end Go.Proofs.Ytmmejcbiiojmlaa
