/- The law's walk: CrcBurst. -/
import Derived.Test.YthdfblhlkkbloaaDoorLives
namespace Go.Proofs.YthdfblhlkkbloaaDoor
open Go Go.RowKit

/-- The text behind k rounds. -/
def burstTo (m : List (BitVec 8)) (p : Nat) (pat : BitVec 32) : Nat → List (BitVec 8)
  | 0 => m
  | k + 1 => if pat >>> k &&& 1#32 == 1#32 then CrcMath.flip (burstTo m p pat k) (p + k) else burstTo m p pat k
theorem burstTo_length (m : List (BitVec 8)) (p : Nat) (pat : BitVec 32) (k : Nat) : (burstTo m p pat k).length = m.length := by
  induction k with
  | zero => rfl
  | succ k ih => rw [burstTo]; split <;> simp [CrcMath.flip_length, ih]
theorem test_bit (pat : BitVec 32) (k : Nat) : (pat >>> k &&& 1#32 == 1#32) = pat.getLsbD k := by
  rw [low_of (pat >>> k)]
  have : (pat >>> k).getLsbD 0 = pat.getLsbD k := by simp
  rw [this]
  cases pat.getLsbD k <;> decide
theorem burstTo_bit (m : List (BitVec 8)) (p : Nat) (pat : BitVec 32) (j : Nat) : ∀ k, p + k ≤ 8 * m.length →
    CrcMath.bit (burstTo m p pat k) j = (CrcMath.bit m j ^^ (decide (p ≤ j ∧ j < p + k) && pat.getLsbD (j - p))) := by
  intro k
  induction k with
  | zero => intro _; rw [decide_eq_false (by omega)]; simp [burstTo]
  | succ k ih =>
    intro h
    have ih := ih (by omega)
    rw [burstTo, test_bit]
    by_cases hj : j = p + k
    · subst hj
      have e : p + k - p = k := by omega
      rw [e] at ih ⊢
      cases hb : pat.getLsbD k
      · simp only [Bool.false_eq_true, if_false]; rw [ih, hb]; simp
      · simp only [if_true]
        rw [CrcMath.bit_flip _ _ _ (by rw [burstTo_length]; omega), ih]
        simp
    · have e : decide (p ≤ j ∧ j < p + (k + 1)) = decide (p ≤ j ∧ j < p + k) := by rw [decide_eq_decide]; omega
      rw [e]
      cases hb : pat.getLsbD k
      · simp only [Bool.false_eq_true, if_false]; exact ih
      · simp only [if_true]
        rw [CrcMath.bit_flip _ _ _ (by rw [burstTo_length]; omega), ih]
        simp [hj]
theorem burst_unlike (m : List (BitVec 8)) (p n k : Nat) (q : BitVec 32) (hq : q.getLsbD 0 = true) (hp : p < 8 * m.length) (hn : 1 ≤ n) (hn2 : n ≤ 32) (hk : k = min n (8 * m.length - p)) :
    (CrcMath.sum (burstTo m p q k) != CrcMath.sum m) = true := by
  rw [bne_iff_ne]
  refine CrcMath.burst _ m (burstTo_length _ _ _ _) p k (by omega) (by omega) (by omega) (fun i => q.getLsbD i) hq fun j hj => ?_
  exact burstTo_bit m p _ j k (by omega)
theorem flip_is (l : List (BitVec 8)) (k : Nat) : CrcMath.flip l k = l.set (k / 8) (byteAt l (k / 8) ^^^ 1#8 <<< (k % 8)) := rfl
theorem within_at (x hi : Int) (h : 0 ≤ hi) : ∃ p : Nat, within x 0 hi = p ∧ (p : Int) ≤ hi := by
  refine ⟨(within x 0 hi).toNat, ?_, ?_⟩ <;> unfold within <;> split <;> (try split) <;> omega
theorem within_span (x : Int) : ∃ n : Nat, within x 1 32 = n ∧ 1 ≤ n ∧ n ≤ 32 := by
  refine ⟨(within x 1 32).toNat, ?_, ?_, ?_⟩ <;> unfold within <;> split <;> (try split) <;> omega
theorem shl_pow (j : Nat) : BitVec.ofInt 8 (2 ^ (j % 8) % 256) = 1#8 <<< (j % 8) := by
  have : j % 8 = 0 ∨ j % 8 = 1 ∨ j % 8 = 2 ∨ j % 8 = 3 ∨ j % 8 = 4 ∨ j % 8 = 5 ∨ j % 8 = 6 ∨ j % 8 = 7 := by omega
  rcases this with h | h | h | h | h | h | h | h <;> rw [h] <;> rfl
theorem burst_on {m : List (BitVec 8)} {p : Nat} {pat : BitVec 32} {k : Nat} (h : (pat >>> k &&& 1#32 == 1#32) = true) :
    burstTo m p pat (k + 1) = (burstTo m p pat k).set ((p + k) / 8) (byteAt (burstTo m p pat k) ((p + k) / 8) ^^^ BitVec.ofInt 8 (2 ^ ((p + k) % 8) % 256)) := by
  rw [burstTo, if_pos h, shl_pow]; rfl
theorem burst_off {m : List (BitVec 8)} {p : Nat} {pat : BitVec 32} {k : Nat} (h : (pat >>> k &&& 1#32 == 1#32) = false) : burstTo m p pat (k + 1) = burstTo m p pat k := by
  rw [burstTo, if_neg (by rw [h]; decide)]

theorem sum_len {a : Option Addr} {cap n : Nat} (l : List (BitVec 8)) (w : World) (hn : l.length = n) (hh : Half w) (hb : Reads w a cap l) :
    Calls Tryd.prog 11 #[.slice a n cap] w fun e w' => e = .returned (U32 (CrcMath.sum l)) ∧ w = w' := by
  subst hn; exact sum_any a cap l w hh hb

set_option maxHeartbeats 800000 in
theorem crcBurst_walk (a : Option Addr) (cap : Nat) (l : List (BitVec 8)) (at_ span : Int) (pat : BitVec 32) (w : World) (hh : Half w) (hr : Reads w a cap l)
    (_h1 : -9223372036854775808 ≤ at_ ∧ at_ ≤ 9223372036854775807) (_h2 : -9223372036854775808 ≤ span ∧ span ≤ 9223372036854775807) :
    Calls Tryd.prog 4 #[.slice a l.length cap, .int .i64 at_, .int .i64 span, U32 pat] w fun e w' => e = .returned (.bool true) ∧ Below w.heap.size w w' := by
  go_enter Tryd.func4, Tryd.ntmps4
  go_wp2_with fail
  refine (cut_any _ _ l 500 _ _ rfl hr (by decide)).mono ?_
  rintro e w' ⟨rfl, rfl⟩
  have hm := hr.take 500
  have hlen : (l.take 500).length ≤ 500 := by rw [List.length_take]; omega
  generalize l.take 500 = m at *
  by_cases h0 : m.length = 0
  · have e0 : m = [] := List.eq_nil_of_length_eq_zero h0
    subst e0
    go_wp2_with fail
    refine (lives_any _ hh).mono ?_
    rintro e w2 ⟨rfl, hb2⟩
    go_wp2
    go_ret
    exact ⟨rfl, hb2⟩
  · have h0' : ((m.length : Int) == 0) = false := by rw [beq_eq_false_iff_ne]; omega
    go_wp2_with fail
    refine (within_any _ _ _ _).mono ?_
    rintro e w' ⟨rfl, rfl⟩
    obtain ⟨n, en, hn1, hn2⟩ := within_span span
    rw [en]; clear en
    go_wp2_with fail
    refine (copy_any _ _ m _ hm (by omega)).mono ?_
    rintro e w1 ⟨v, rfl, ho, hb⟩
    obtain ⟨g, c1, rfl, hrow, hg1, hg2⟩ := ho.row h0
    clear ho
    have hm1 := hm.keeps (Keeps.below hb)
    have hh1 := hh.keeps (Keeps.below hb)
    go_wp2_with fail
    refine (within_any _ _ _ _).mono ?_
    rintro e w' ⟨rfl, rfl⟩
    obtain ⟨p, ep, hp⟩ := within_at at_ (8 * (m.length : Int) - 1) (by omega)
    rw [ep]; clear ep
    have hq : (pat ||| 1#32).getLsbD 0 = true := by simp
    generalize pat ||| 1#32 = q at *
    have HQ := Lib.hid hq; clear hq
    have hp8 : p < 8 * m.length := by omega
    clear hp hr hm1 hh1
    go_wp2
    go_loopw [10] (fun i wr => ∃ k : Nat, k ≤ min n (8 * m.length - p) ∧ i = .int .i64 k ∧ RowAt wr w.heap.size 5 g c1 m.length (burstTo m p q k) ∧ Below w.heap.size w wr) (fun i _ => 32 - (intOf i).toNat)
    case atStart => exact ⟨0, Nat.zero_le _, rfl, hrow, hb⟩
    case round =>
      clear hrow hb hg2
      obtain ⟨k, hk, rfl, hrk, hbk⟩ := hrel
      have hend : Calls Tryd.prog 11 #[.slice (some ⟨g, 0, none⟩) m.length c1] wr fun e w' => e = .returned (U32 (CrcMath.sum (burstTo m p q k))) ∧ wr = w' :=
        sum_len _ wr (burstTo_length m p q k) (hh.keeps (Keeps.below hbk)) hrk.reads
      by_cases hkn : k < n
      · by_cases hkp : k < 8 * m.length - p
        · have hkp' : (k : Int) < 8 * (m.length : Int) - (p : Int) := by omega
          cases ht : (q >>> k &&& 1#32 == 1#32)
          · have hs := burst_off (m := m) (p := p) ht
            have HS := Lib.hid hs; clear hs
            clear hend
            go_wp2
            go_roundw
            case rel => exact ⟨k + 1, by omega, by go_num, by rw [HS.out]; exact hrk, hbk⟩
            case measure => simp [intOf]; omega
          · have hs := burst_on (m := m) (p := p) ht
            have HS := Lib.hid hs; clear hs
            have hj : (p + k) / 8 < m.length := by omega
            have hc := hrk.cell ((p + k) / 8) hj
            have hf := hrk.thawed ((p + k) / 8)
            clear hend
            go_wp2
            go_roundw
            case rel => exact ⟨k + 1, by omega, by go_num, by rw [HS.out]; exact hrk.set _ _, hbk.setCell hg1 _⟩
            case measure => simp [intOf]; omega
        · have hkp' : ¬ (k : Int) < 8 * (m.length : Int) - (p : Int) := by omega
          have hu := burst_unlike m p n k q HQ.out hp8 hn1 hn2 (by omega)
          have hmr := hm.keeps (Keeps.below hbk)
          have hhr := hh.keeps (Keeps.below hbk)
          have HC := Lib.hid hend; clear hend
          generalize CrcMath.sum (burstTo m p q k) = S1 at *
          generalize hS2 : CrcMath.sum m = S2 at *
          have HS2 := Lib.hid hS2; clear hS2
          go_wp2_with fail
          refine HC.out.mono ?_
          rintro e w' ⟨rfl, rfl⟩
          go_wp2_with fail
          refine (sum_any _ _ m _ hhr hmr).mono ?_
          rintro e w' ⟨rfl, rfl⟩
          rw [HS2.out]
          go_wp2_with fail
          refine (lives_any _ hhr).mono ?_
          rintro e w2 ⟨rfl, hb2⟩
          go_wp2
          go_ret
          exact ⟨rfl, hbk.trans (hb2.mono hbk.size)⟩
      · have hu := burst_unlike m p n k q HQ.out hp8 hn1 hn2 (by omega)
        have hmr := hm.keeps (Keeps.below hbk)
        have hhr := hh.keeps (Keeps.below hbk)
        have HC := Lib.hid hend; clear hend
        generalize CrcMath.sum (burstTo m p q k) = S1 at *
        generalize hS2 : CrcMath.sum m = S2 at *
        have HS2 := Lib.hid hS2; clear hS2
        go_wp2_with fail
        refine HC.out.mono ?_
        rintro e w' ⟨rfl, rfl⟩
        go_wp2_with fail
        refine (sum_any _ _ m _ hhr hmr).mono ?_
        rintro e w' ⟨rfl, rfl⟩
        rw [HS2.out]
        go_wp2_with fail
        refine (lives_any _ hhr).mono ?_
        rintro e w2 ⟨rfl, hb2⟩
        go_wp2
        go_ret
        exact ⟨rfl, hbk.trans (hb2.mono hbk.size)⟩
end Go.Proofs.YthdfblhlkkbloaaDoor
