/- The law's walk: RollPlays. -/
import Derived.Test.YtmmejcbiiojmlaaLast
namespace Go.Proofs.Ytmmejcbiiojmlaa
open Go Go.RowKit

theorem last_at (a : Option Addr) (cap : Nat) (l : List (BitVec 8)) (n : Nat) (w : World) (k : Nat) (hk : l.length = k) (hr : Reads w a cap l) (hn : n ≤ 1048576) :
    Calls Try.prog 21 #[.slice a k cap, .int .i64 n] w fun e w' => ∃ a2 cap2, e = .returned (.slice a2 (lastN n l).length cap2) ∧ Reads w a2 cap2 (lastN n l) ∧ w = w' := by
  subst hk; exact last_any a cap l n w hr hn
theorem byte_cell {w : World} {a : Option Addr} {cap : Nat} {m : List (BitVec 8)} (h : Reads w a cap m) {k : Nat} (hk : k < m.length) : ∃ b off, a = some ⟨b, off, none⟩ ∧ w.cell? ⟨b, off + k, none⟩ = some (U8 (byteAt m k)) := by
  rcases h.bytes with rfl | ⟨b, off, e, hb⟩
  · simp at hk
  · exact ⟨b, off, e, hb k hk⟩
def PlaysRel (w : World) (b : Nat) (s : BitVec 32) (win : Nat) (m : List (BitVec 8)) (from_ i : Value) (wr : World) : Prop :=
  ∃ f k : Nat, f ≤ k ∧ k ≤ m.length ∧ from_ = .int .i64 f ∧ i = .int .i64 k ∧ Roller wr b s win (lastN win ((m.take k).drop f)) ∧ Below w.heap.size w wr

theorem rollPlays_bad (s : BitVec 32) (N : Int) (a : Option Addr) (cap : Nat) (l : List (BitVec 8)) (C : Int) (w : World) (hr : Reads w a cap l) (hN : N < 1 ∨ 63 < N) :
    Calls Try.prog 6 #[U32 s, .int .i64 N, .slice a l.length cap, .int .i64 C] w fun e w' => e = .returned (.bool true) ∧ Below w.heap.size w w' := by
  have NA := new_none w s N hN
  have LV := lives_any w
  by_cases h1 : N < 1
  · clear hN
    go_enter Try.func6, Try.ntmps6
    go_wp2_with fail
    refine (cut_any _ _ l 150 _ _ rfl hr (by decide)).mono ?_
    rintro e w' ⟨rfl, rfl⟩
    generalize (l.take 150).length = n at *
    clear hr
    go_wp2_with fail
    refine NA.mono ?_
    rintro e w' ⟨rfl, rfl⟩
    go_wp2_with fail
    refine LV.mono ?_
    rintro e w' ⟨rfl, hb⟩
    go_wp2
    go_ret
    exact ⟨rfl, hb⟩
  · have h2 : 63 < N := by omega
    clear hN
    go_enter Try.func6, Try.ntmps6
    go_wp2_with fail
    refine (cut_any _ _ l 150 _ _ rfl hr (by decide)).mono ?_
    rintro e w' ⟨rfl, rfl⟩
    generalize (l.take 150).length = n at *
    clear hr
    go_wp2_with fail
    refine NA.mono ?_
    rintro e w' ⟨rfl, rfl⟩
    go_wp2_with fail
    refine LV.mono ?_
    rintro e w' ⟨rfl, hb⟩
    go_wp2
    go_ret
    exact ⟨rfl, hb⟩

theorem given_none (win : Nat) (m : List (BitVec 8)) (k : Nat) : lastN win ((m.take k).drop k) = [] := by
  have : ((m.take k).drop k) = [] := List.drop_eq_nil_of_le (by rw [List.length_take]; omega)
  rw [this]; unfold lastN; simp
theorem slice_one (w : World) (a : Option Addr) (len cap k : Nat) (h : k + 1 ≤ cap) : (Instr.slice 26 (.slice a len cap) (some (.int .i64 (k : Int))) (some (.int .i64 ((k : Int) + 1))) none).run Try.prog w = .ok (.slice (dropAddr a cap k) 1 (cap - k)) w := by
  have := run_slice_both byteSlice w a len cap .i64 .i64 k (k + 1) (k : Int) ((k : Int) + 1) rfl rfl (by omega) h
  rw [show k + 1 - k = 1 by omega] at this
  exact this
theorem full_no {n k : Nat} (h : n ≠ k) : decide (n = k) = false := by simp [h]
set_option maxHeartbeats 400000 in
theorem rollPlays_good (s : BitVec 32) (win : Nat) (a : Option Addr) (cap : Nat) (l : List (BitVec 8)) (C : Int) (w : World) (hr : Reads w a cap l) (h1 : 1 ≤ win) (h63 : win ≤ 63) :
    Calls Try.prog 6 #[U32 s, .int .i64 win, .slice a l.length cap, .int .i64 C] w fun e w' => e = .returned (.bool true) ∧ Below w.heap.size w w' := by
  go_enter Try.func6, Try.ntmps6
  go_wp2_with fail
  refine (cut_any _ _ l 150 _ _ rfl hr (by decide)).mono ?_
  rintro e w' ⟨rfl, rfl⟩
  have hm := hr.take 150
  have hlen : (l.take 150).length ≤ 150 := by rw [List.length_take]; omega
  generalize l.take 150 = m at *
  clear hr
  go_wp2_with fail
  refine (new_some w s win h1 h63).mono ?_
  rintro e w1 ⟨b, hB, rfl, hR, hb⟩
  go_wp2_with fail
  refine (value_any w1 b s win [] hR).mono ?_
  rintro e w' ⟨rfl, rfl⟩
  rw [RollMath.sum_nil]
  go_wp2_with fail
  refine (full_any w1 b s win [] hR).mono ?_
  rintro e w' ⟨n, rfl, rfl⟩
  rw [full_no (show ([] : List (BitVec 8)).length ≠ win by simp; omega)]
  have hR := hR.drewN n
  have hb := below_drewN hb n
  generalize w1.drewN n = w2 at *
  go_wp2
  generalize decide ((win : Int) < 1) = q1
  generalize decide ((63 : Int) < win) = q2
  go_loopw [11, 12] (fun f i wr => PlaysRel w b s win m f i wr) (fun _ i _ => m.length - (intOf i).toNat)
  case atStart => exact ⟨0, 0, Nat.le_refl _, Nat.zero_le _, rfl, rfl, by rw [given_none]; exact hR, hb⟩
  case round =>
    clear hR hb
    obtain ⟨f, k, hfk, hk, rfl, rfl, hR, hb⟩ := hrel
    by_cases hlt : k < m.length
    · by_cases hcl : (k : Int) = C
      · subst hcl
        go_wp2_with fail
        refine (clear_any _ b s win _ hR).mono ?_
        rintro e w2 ⟨rfl, hR1, ho1⟩
        have hb := hb.trans (ho1.below hB hb.size)
        clear hR ho1
        go_wp2_with fail
        refine (value_any _ b s win [] hR1).mono ?_
        rintro e w' ⟨rfl, rfl⟩
        rw [RollMath.sum_nil]
        go_wp2_with fail
        refine (full_any _ b s win [] hR1).mono ?_
        rintro e w' ⟨n0, rfl, rfl⟩
        rw [full_no (show ([] : List (BitVec 8)).length ≠ win by simp; omega)]
        have hR := hR1.drewN n0
        have hb := below_drewN hb n0
        clear hR1
        generalize w2.drewN n0 = w4 at *
        have hone := given_step m k k (Nat.le_refl k) hlt
        rw [show (m.take k).drop k = [] from List.drop_eq_nil_of_le (by rw [List.length_take]; omega), List.nil_append] at hone
        have hr3 := fun v (hv : Reads v a cap m) => (hv.take (k + 1)).drop k (by rw [List.length_take]; omega)
        have hrg : (m.take k).drop k = [] := List.drop_eq_nil_of_le (by rw [List.length_take]; omega)
        obtain ⟨b2, off, ha, hc⟩ := byte_cell (w := w) hm hlt
        have hcell := fun v (hv : Keeps w v) => hv _ _ hc
        subst ha
        have hfits : k + 1 ≤ cap := by have := hm.fits; omega
        have sl := fun w => slice_one w (some ⟨b2, off, none⟩) m.length cap k hfits
        have LA := fun v (hv : Reads v (dropAddr (some ⟨b2, off, none⟩) cap k) (cap - k) [byteAt m k]) => last_at (dropAddr (some ⟨b2, off, none⟩) cap k) (cap - k) [byteAt m k] win v 1 rfl hv (by omega)
        have hps : pushed win [] (byteAt m k) = lastN win [byteAt m k] := by
          have := pushed_last win [] (byteAt m k) (by omega)
          rw [lastN_short (by simp)] at this
          exact this
        have hfl : decide ((lastN win [byteAt m k]).length = win) = decide ((win : Int) ≤ (k : Int) + 1 - (k : Int)) := by
          rw [lastN_length, decide_eq_decide, List.length_singleton]; omega
        rw [hone] at hr3
        have HQ := Lib.hid hone
        clear hone hrg
        generalize byteAt m k = c at *
        go_wp2_with fail
        refine (LA _ (hr3 _ (hm.keeps (Keeps.below hb)))).mono ?_
        rintro e w' ⟨a2, c2, rfl, hr4, rfl⟩
        have hc1 := hcell _ (Keeps.below hb)
        go_wp2_with fail
        refine (refRollSum_any s a2 c2 (lastN win [c]) _ hr4).mono ?_
        rintro e w' ⟨rfl, rfl⟩
        clear hr4
        go_wp2_with fail
        refine (put_any _ b s win [] c hR h63).mono ?_
        rintro e w3 ⟨rfl, hR2, ho⟩
        rw [hps] at hR2 ⊢
        have hb2 := hb.trans (ho.below hB hb.size)
        have VA := value_any w3 b s win _ hR2
        have FA := full_any w3 b s win _ hR2
        rw [hfl] at FA
        clear ho hc1 hps hfl hR hb
        generalize RollMath.sum s (lastN win [c]) = X at *
        have x1 : (X != X) = false := bne_self_eq_false X
        go_wp2_with fail
        refine VA.mono ?_
        rintro e w' ⟨rfl, rfl⟩
        go_wp2_with fail
        refine FA.mono ?_
        rintro e w' ⟨n, rfl, rfl⟩
        have HR := Lib.hid (hR2.drewN n)
        have HB := Lib.hid (below_drewN hb2 n)
        clear hR2 hb2 VA FA
        have x2 : (decide ((win : Int) ≤ (k : Int) + 1 - (k : Int)) != decide ((win : Int) ≤ (k : Int) + 1 - (k : Int))) = false := bne_self_eq_false _
        go_wp2
        go_roundw
        case rel => exact ⟨k, k + 1, by omega, by omega, rfl, by go_num, by rw [HQ.out]; exact HR.out, HB.out⟩
        case measure => simp [intOf]; omega
      · have hcl' : ((k : Int) == C) = false := beq_eq_false_iff_ne.2 hcl
        have hq := given_step m f k hfk hlt
        have hr3 := fun v (hv : Reads v a cap m) => (hv.take (k + 1)).drop f (by rw [List.length_take]; omega)
        have hlq : ((m.take (k + 1)).drop f).length = k + 1 - f := by rw [List.length_drop, List.length_take]; omega
        have hps := pushed_last win ((m.take k).drop f) (byteAt m k) (by omega)
        rw [← hq] at hps
        have hfl : decide ((lastN win ((m.take (k + 1)).drop f)).length = win) = decide ((win : Int) ≤ (k : Int) + 1 - (f : Int)) := by
          rw [lastN_length, hlq, decide_eq_decide]; omega
        obtain ⟨b2, off, ha, hc⟩ := byte_cell (w := w) hm hlt
        have hcell := fun v (hv : Keeps w v) => hv _ _ hc
        subst ha
        have sl := fun w => run_slice_both byteSlice w (some ⟨b2, off, none⟩) m.length cap .i64 .i64 f (k + 1) (f : Int) ((k : Int) + 1) rfl rfl (by omega) (by have := hm.fits; omega)
        have LA := fun v (hv : Reads v (dropAddr (some ⟨b2, off, none⟩) cap f) (cap - f) ((m.take (k + 1)).drop f)) => last_at (dropAddr (some ⟨b2, off, none⟩) cap f) (cap - f) ((m.take (k + 1)).drop f) win v (k + 1 - f) hlq hv (by omega)
        generalize (m.take k).drop f = g at *
        generalize hq' : (m.take (k + 1)).drop f = q at *
        have HQ := Lib.hid hq'
        clear hq'
        generalize byteAt m k = c at *
        clear hq hlq
        go_wp2_with fail
        refine (LA _ (hr3 _ (hm.keeps (Keeps.below hb)))).mono ?_
        rintro e w' ⟨a2, c2, rfl, hr4, rfl⟩
        have hc1 := hcell _ (Keeps.below hb)
        go_wp2_with fail
        refine (refRollSum_any s a2 c2 (lastN win q) _ hr4).mono ?_
        rintro e w' ⟨rfl, rfl⟩
        clear hr4
        go_wp2_with fail
        refine (put_any _ b s win (lastN win g) c hR h63).mono ?_
        rintro e w3 ⟨rfl, hR2, ho⟩
        rw [hps] at hR2 ⊢
        have hb2 := hb.trans (ho.below hB hb.size)
        have VA := value_any w3 b s win _ hR2
        have FA := full_any w3 b s win _ hR2
        rw [hfl] at FA
        clear ho hc1 hps hfl hR hb
        generalize RollMath.sum s (lastN win q) = X at *
        have x1 : (X != X) = false := bne_self_eq_false X
        go_wp2_with fail
        refine VA.mono ?_
        rintro e w' ⟨rfl, rfl⟩
        go_wp2_with fail
        refine FA.mono ?_
        rintro e w' ⟨n, rfl, rfl⟩
        have HR := Lib.hid (hR2.drewN n)
        have HB := Lib.hid (below_drewN hb2 n)
        clear hR2 hb2 VA FA
        have x2 : (decide ((win : Int) ≤ (k : Int) + 1 - (f : Int)) != decide ((win : Int) ≤ (k : Int) + 1 - (f : Int))) = false := bne_self_eq_false _
        go_wp2
        go_roundw
        case rel => exact ⟨f, k + 1, by omega, by omega, rfl, by go_num, by rw [HQ.out]; exact HR.out, HB.out⟩
        case measure => simp [intOf]; omega
    · go_wp2_with fail
      refine (lives_any _).mono ?_
      rintro e w' ⟨rfl, hb2⟩
      go_wp2
      go_ret
      exact ⟨rfl, hb.trans (hb2.mono hb.size)⟩

theorem rollPlays_walk (s : BitVec 32) (N : Int) (a : Option Addr) (cap : Nat) (l : List (BitVec 8)) (C : Int) (w : World) (_hN : -9223372036854775808 ≤ N ∧ N ≤ 9223372036854775807) (hr : Reads w a cap l) (_hC : -9223372036854775808 ≤ C ∧ C ≤ 9223372036854775807) :
    Calls Try.prog 6 #[U32 s, .int .i64 N, .slice a l.length cap, .int .i64 C] w fun e w' => e = .returned (.bool true) ∧ Below w.heap.size w w' := by
  by_cases h : N < 1 ∨ 63 < N
  · exact rollPlays_bad s N a cap l C w hr h
  · obtain ⟨n, rfl⟩ : ∃ n : Nat, N = n := ⟨N.toNat, by omega⟩
    exact rollPlays_good s n a cap l C w hr (by omega) (by omega)
end Go.Proofs.Ytmmejcbiiojmlaa
