/- Digits: the program's, the reference's; the reference's Hex. -/
import Derived.Test.YtnodcjjmodbjiaaDoorHex
import Derived.Laws.Concat
namespace Go.Proofs.YtnodcjjmodbjiaaDoor
open Go Go.RowKit

/-- What a digit counts; -1: it is none. -/
def dig (c : BitVec 8) : Int := if 48 ≤ c.toNat ∧ c.toNat ≤ 57 then (c.toNat : Int) - 48 else if 97 ≤ c.toNat ∧ c.toNat ≤ 102 then (c.toNat : Int) - 87 else -1
def nibR (c : BitVec 8) : Int := if dig c < 0 then 16 else dig c
theorem dig_range (c : BitVec 8) : -1 ≤ dig c ∧ dig c ≤ 15 := by
  unfold dig
  split
  · omega
  · split <;> omega
theorem dig_hex : ∀ c : BitVec 8, ∀ j : Fin 16, (hexd (BitVec.ofNat 8 j.val) = c ↔ dig c = (j.val : Int)) := by decide +kernel
theorem digit_any (c : BitVec 8) (w : World) : Calls Tryd.prog 35 #[U8 c] w fun e w' => e = .returned (.int .i64 (dig c)) ∧ w = w' := by
  have hc := c.isLt
  by_cases h1 : 48 ≤ c.toNat ∧ c.toNat ≤ 57
  · have hd : dig c = (c.toNat : Int) - 48 := by unfold dig; rw [if_pos h1]
    have hs : (208 + (c.toNat : Int)) % 256 = (c.toNat : Int) - 48 := by omega
    have g1 : (c.toNat : Int) ≥ 48 := by omega
    have g2 : (c.toNat : Int) ≤ 57 := by omega
    rw [hd]
    clear hd
    go_enter Tryd.func35, Tryd.ntmps35
    go_wp2
    go_ret
    exact ⟨rfl, rfl⟩
  · by_cases h2 : 97 ≤ c.toNat ∧ c.toNat ≤ 102
    · have hd : dig c = (c.toNat : Int) - 97 + 10 := by unfold dig; rw [if_neg h1, if_pos h2]; omega
      have hs : (159 + (c.toNat : Int)) % 256 = (c.toNat : Int) - 97 := by omega
      have g1 : (c.toNat : Int) ≥ 97 := by omega
      have g2 : (c.toNat : Int) ≤ 102 := by omega
      have g3 : (c.toNat : Int) ≥ 48 := by omega
      have g4 : ¬ (c.toNat : Int) ≤ 57 := by omega
      rw [hd]
      clear hd
      go_enter Tryd.func35, Tryd.ntmps35
      go_wp2
      go_ret
      exact ⟨rfl, rfl⟩
    · have hd : dig c = -1 := by unfold dig; rw [if_neg h1, if_neg h2]
      rw [hd]
      clear hd
      rcases Nat.lt_or_ge c.toNat 48 with q | q
      · have g1 : ¬ (c.toNat : Int) ≥ 48 := by omega
        have g2 : ¬ (c.toNat : Int) ≥ 97 := by omega
        go_enter Tryd.func35, Tryd.ntmps35
        go_wp2
        go_ret
        exact ⟨rfl, rfl⟩
      · have g1 : (c.toNat : Int) ≥ 48 := by omega
        have g2 : ¬ (c.toNat : Int) ≤ 57 := by omega
        rcases Nat.lt_or_ge c.toNat 97 with q2 | q2
        · have g3 : ¬ (c.toNat : Int) ≥ 97 := by omega
          go_enter Tryd.func35, Tryd.ntmps35
          go_wp2
          go_ret
          exact ⟨rfl, rfl⟩
        · have g3 : (c.toNat : Int) ≥ 97 := by omega
          have g4 : ¬ (c.toNat : Int) ≤ 102 := by omega
          go_enter Tryd.func35, Tryd.ntmps35
          go_wp2
          go_ret
          exact ⟨rfl, rfl⟩
theorem run_digit_int (k : Nat) (h : k < 16) (w : World) : (Instr.index 9 (.string ⟨#[48, 49, 50, 51, 52, 53, 54, 55, 56, 57, 97, 98, 99, 100, 101, 102]⟩) (.int .i64 k)).run Tryd.prog w = .ok (U8 (hexd (BitVec.ofNat 8 k))) w := by
  have hs : (⟨#[48, 49, 50, 51, 52, 53, 54, 55, 56, 57, 97, 98, 99, 100, 101, 102]⟩ : ByteArray).size = 16 := rfl
  have hx : (BitVec.ofNat 8 k).toNat = k := by rw [BitVec.toNat_ofNat]; omega
  have := run_digit (BitVec.ofNat 8 k) (by rw [BitVec.lt_def, hx]; simpa using h) w
  rw [show U8 (BitVec.ofNat 8 k) = Value.int .u8 (k : Int) by unfold U8; rw [hx], run_index_string w 9 _ .u8 (k : Int) Tryd.underlying9, dif_pos ⟨by omega, by rw [hs]; omega⟩] at this
  rw [run_index_string w 9 _ .i64 (k : Int) Tryd.underlying9, dif_pos ⟨by omega, by rw [hs]; omega⟩]
  exact this
def NibRel (c : BitVec 8) (w : World) (i : Value) (wr : World) : Prop := ∃ k : Nat, k ≤ 16 ∧ i = .int .i64 k ∧ (∀ j, j < k → hexd (BitVec.ofNat 8 j) ≠ c) ∧ wr = w
theorem nibble_any (c : BitVec 8) (w : World) : Calls Tryd.prog 36 #[U8 c] w fun e w' => e = .returned (.int .i64 (nibR c)) ∧ w = w' := by
  obtain ⟨R, hR⟩ : ∃ R, nibR c = R := ⟨_, rfl⟩
  rw [hR]
  have HR := Lib.hid hR
  clear hR
  go_enter Tryd.func36, Tryd.ntmps36
  go_wp2
  go_loopw [3] (fun i wr => NibRel c w i wr) (fun i _ => 16 - (intOf i).toNat)
  case atStart => exact ⟨0, by omega, rfl, fun j h => by omega, rfl⟩
  case round =>
    obtain ⟨k, hk, rfl, hj, hw⟩ := hrel
    by_cases hlt : k < 16
    · have hd := run_digit_int k hlt
      have hdh := dig_hex c ⟨k, hlt⟩
      have HJ := Lib.hid hj
      have HW := Lib.hid hw
      clear hj hw
      by_cases heq : hexd (BitVec.ofNat 8 k) = c
      · have hb : (hexd (BitVec.ofNat 8 k) == c) = true := by simpa using heq
        have hdc : dig c = k := hdh.1 heq
        have hRk : R = k := by rw [← HR.out]; unfold nibR; rw [hdc, if_neg (by omega)]
        subst hRk
        generalize hexd (BitVec.ofNat 8 k) = y at *
        clear hdh heq hdc
        go_wp2
        go_ret
        exact ⟨rfl, HW.out.symm⟩
      · have hb : (hexd (BitVec.ofNat 8 k) == c) = false := by simpa using heq
        have HE := Lib.hid heq
        clear hdh heq
        go_wp2
        go_roundw
        case rel =>
          refine ⟨k + 1, by omega, by go_num, fun j h => ?_, HW.out⟩
          rcases Nat.lt_or_ge j k with h2 | h2
          · exact HJ.out j h2
          · obtain rfl : j = k := by omega
            exact HE.out
        case measure => simp [intOf]; omega
    · obtain rfl : k = 16 := by omega
      have hRk : R = 16 := by
        rw [← HR.out]; unfold nibR
        rw [if_pos]
        have hr := dig_range c
        rcases Int.lt_or_le (dig c) 0 with h | h
        · exact h
        · exact (hj (dig c).toNat (by omega) ((dig_hex c ⟨(dig c).toNat, by omega⟩).2 (by simp only []; omega))).elim
      subst hRk
      have HW := Lib.hid hw
      clear hw hj
      go_wp2
      go_ret
      exact ⟨rfl, HW.out.symm⟩
theorem bs_append (l m : List (BitVec 8)) : bs l ++ bs m = bs (l ++ m) := by
  apply ByteArray.ext
  simp [bs, ByteArray.data_append]
theorem shr_div : ∀ c : BitVec 8, c / 16#8 = c >>> 4 := by decide +kernel
theorem and_mod : ∀ c : BitVec 8, c % 16#8 = c &&& 15#8 := by decide +kernel
theorem run_cut_digit (x : BitVec 8) (h : x < 16#8) (w : World) : (Instr.slice 9 (.string ⟨#[48, 49, 50, 51, 52, 53, 54, 55, 56, 57, 97, 98, 99, 100, 101, 102]⟩) (some (U8 x)) (some (U8 (x + 1#8))) none).run Tryd.prog w = .ok (.string (bs [hexd x])) w := by
  have hx : x.toNat < 16 := by have := BitVec.lt_def.1 h; simpa using this
  have hx1 : (x + 1#8).toNat = x.toNat + 1 := by rw [BitVec.toNat_add]; simp; omega
  have hs : (⟨#[48, 49, 50, 51, 52, 53, 54, 55, 56, 57, 97, 98, 99, 100, 101, 102]⟩ : ByteArray).size = 16 := rfl
  have hcut : ∀ y : BitVec 8, y < 16#8 → (⟨#[48, 49, 50, 51, 52, 53, 54, 55, 56, 57, 97, 98, 99, 100, 101, 102]⟩ : ByteArray).extract y.toNat (y.toNat + 1) = bs [hexd y] := by decide +kernel
  rw [show U8 x = Value.int .u8 (x.toNat : Int) from rfl, show U8 (x + 1#8) = Value.int .u8 ((x + 1#8).toNat : Int) from rfl, hx1,
    run_slice_string w 9 _ .u8 .u8 (x.toNat : Int) ((x.toNat + 1 : Nat) : Int) Tryd.underlying9 (by omega) (by omega) (by rw [hs]; omega)]
  rw [Int.toNat_natCast, Int.toNat_natCast, hcut x h]
def RHexRel (d : List (BitVec 8)) (g : Nat) (w : World) (s i : Value) (wr : World) : Prop :=
  ∃ k : Nat, k ≤ 32 ∧ i = .int .i64 k ∧ s = .string (bs (hexOf (d.take k))) ∧ IdAt wr g d ∧ Below w.heap.size w wr
set_option maxHeartbeats 1000000 in
theorem rhex_any (d : List (BitVec 8)) (hd : d.length = 32) (w : World) : Calls Tryd.prog 25 #[.agg (d.map U8).toArray] w fun e w' => e = .returned (.string (bs (hexOf d))) ∧ Below w.heap.size w w' := by
  have i1 : IdAt (w.alloc (.cells (d.map U8).toArray 26)) w.heap.size d := heap_alloc_new w _
  have hb1 : Below w.heap.size w (w.alloc (.cells (d.map U8).toArray 26)) := (Below.refl _ _).alloc (Nat.le_refl _) _
  go_enter Tryd.func25, Tryd.ntmps25
  go_wp2
  generalize w.alloc (.cells (d.map U8).toArray 26) = w1 at *
  go_loopw [3, 4] (fun s i wr => RHexRel d w.heap.size w s i wr) (fun _ i _ => 32 - (intOf i).toNat)
  case atStart => exact ⟨0, by omega, rfl, rfl, i1, hb1⟩
  case round =>
    clear i1 hb1
    obtain ⟨k, hk, rfl, rfl, hi, hbw⟩ := hrel
    by_cases hlt : k < 32
    · have hc := hi.cell (i := k) (by omega)
      have hsn := hex_snoc d k (by omega)
      have hll : (hexOf (d.take k)).length ≤ 64 := by rw [length_hex, List.length_take]; omega
      generalize hexOf (d.take k) = t at *
      generalize byteAt d k = c at *
      have e1 := shr_div c
      have e2 := and_mod c
      have h1 := run_cut_digit (c >>> 4) (lt16_shr c)
      have h2 := run_cut_digit (c &&& 15#8) (lt16_and c)
      have HSN := Lib.hid hsn
      have HI := Lib.hid hi
      have HB := Lib.hid hbw
      clear hsn hi hbw
      generalize hexd (c >>> 4) = x1 at *
      generalize hexd (c &&& 15#8) = x2 at *
      have a1 := bs_append t [x1]
      have a2 := bs_append (t ++ [x1]) [x2]
      have z1 : ((bs t).size : Int) ≤ 8388608 := by rw [bs_size]; omega
      have z2 : ((bs [x1]).size : Int) ≤ 8388608 := by rw [bs_size]; simp
      have z3 : ((bs (t ++ [x1])).size : Int) ≤ 8388608 := by rw [bs_size, List.length_append]; simp; omega
      have z4 : ((bs [x2]).size : Int) ≤ 8388608 := by rw [bs_size]; simp
      go_wp2_with fail
      go_quiet (fail)
      have HI2 : Hid (IdAt (wr.drewN nq) w.heap.size d) := Lib.hid HI.out
      have HB2 : Hid (Below w.heap.size w (wr.drewN nq)) := Lib.hid (below_drewN HB.out nq)
      clear hc h1 h2 a1 a2 z1 z2 z3 z4 HI HB
      generalize wr.drewN nq = w6 at *
      go_wp2
      go_roundw
      case rel => exact ⟨k + 1, by omega, by go_num, by rw [HSN.out], HI2.out, HB2.out⟩
      case measure => simp [intOf]; omega
    · obtain rfl : k = 32 := by omega
      rw [List.take_of_length_le (by omega)]
      clear hi
      go_wp2
      go_ret
      exact ⟨rfl, hbw⟩
end Go.Proofs.YtnodcjjmodbjiaaDoor
