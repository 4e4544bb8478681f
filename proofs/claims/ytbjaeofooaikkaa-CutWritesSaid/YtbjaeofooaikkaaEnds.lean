/- Where a chunk ends, in the document's answer; its first chunk. -/
import Derived.Test.YtbjaeofooaikkaaCheck
namespace Go.Proofs.Ytbjaeofooaikkaa
open Go Go.RowKit

def shV (h : CutMath.Sh) : Value := shapeV h.L h.M h.K h.W h.s
theorem good_of {L M K W : Int} {s : BitVec 32} (g : goodB L M K W = true) : ∃ h : CutMath.Sh, h.Good ∧ shapeV L M K W s = shV h ∧ L = h.L ∧ M = h.M ∧ K = h.K ∧ W = h.W ∧ h.s = s := by
  rw [good_iff] at g
  refine ⟨⟨L.toNat, M.toNat, K.toNat, W.toNat, s⟩, ⟨?_, ?_, ?_, ?_, ?_, ?_⟩, ?_, ?_, ?_, ?_, ?_, rfl⟩
  case refine_7 =>
    show shapeV L M K W s = shapeV (L.toNat : Int) (M.toNat : Int) (K.toNat : Int) (W.toNat : Int) s
    rw [Int.toNat_of_nonneg (by omega), Int.toNat_of_nonneg (by omega), Int.toNat_of_nonneg (by omega), Int.toNat_of_nonneg (by omega)]
  all_goals (simp only []; omega)

/-- A call that leaves the world alone, within a region that draws its order. -/
theorem quiet_same {P : Program} {f : FuncId} {args : Array Value} {v : Value} {w : World} {n : Nat} (h : Calls P f args (w.drewN n) fun e w' => e = .returned v ∧ w.drewN n = w') :
    Calls P f args (w.drewN n) fun e w'' => e = .returned v ∧ ∃ m, w'' = w.drewN m := h.mono fun _ _ ⟨he, hw⟩ => ⟨he, n, hw.symm⟩
theorem u32_rem (t : TypeId) (x y : BitVec 32) (hy : y ≠ 0#32) : binOp .rem t (U32 x) (U32 y) = pure (U32 (x % y)) := by
  have e : (x % y).toNat = x.toNat % y.toNat := BitVec.toNat_umod
  have h : binOp .rem t (U32 x) (U32 y) = pure (.int .u32 ((x.toNat : Int).tmod y.toNat)) := by
    have hm : ¬ (y.toNat : Int) = 0 := by
      intro e; apply hy; apply BitVec.eq_of_toNat_eq; simpa using e
    show Op.intDiv .rem .u32 x.toNat (y.toNat : Int) = _
    unfold Op.intDiv; rw [if_neg hm]
  rw [h, show ((x.toNat : Int).tmod y.toNat) = ((x.toNat % y.toNat : Nat) : Int) from rfl, ← e]; rfl
def two (i : Nat) : BitVec 32 := 1#32 <<< i
theorem two_succ (i : Nat) : two i * 2#32 = two (i + 1) := by
  unfold two
  apply BitVec.eq_of_toNat_eq
  rw [BitVec.toNat_mul, BitVec.toNat_shiftLeft, BitVec.toNat_shiftLeft, Nat.shiftLeft_eq, Nat.shiftLeft_eq, Nat.pow_succ]
  show 1 * 2 ^ i % 2 ^ 32 * 2 % 2 ^ 32 = 1 * (2 ^ i * 2) % 2 ^ 32
  omega
theorem two_nat (i : Nat) (h : i ≤ 20) : (two i).toNat = 2 ^ i := by
  have hp : 2 ^ i ≤ 2 ^ 20 := Nat.pow_le_pow_right (by decide) h
  unfold two
  rw [BitVec.toNat_shiftLeft, Nat.shiftLeft_eq]
  show 1 * 2 ^ i % 2 ^ 32 = 2 ^ i
  rw [Nat.one_mul, Nat.mod_eq_of_lt (by omega)]
theorem two_ne (i : Nat) (h : i ≤ 20) : two i ≠ 0#32 := by
  intro e
  have h1 := two_nat i h
  have hp : 0 < 2 ^ i := Nat.pow_pos (by decide)
  rw [e] at h1
  simp at h1
  omega
theorem rem_two (x : BitVec 32) (k : Nat) (h : k ≤ 20) : (x % two k == 0#32) = decide (x &&& CutMath.maskOf k = 0#32) := by
  rw [Bool.eq_iff_iff, beq_iff_eq, decide_eq_true_eq, CutMath.mask_mod x k h, ← BitVec.toNat_inj, BitVec.toNat_umod, two_nat k h]
  exact Iff.rfl
theorem ends_most {h : CutMath.Sh} {l : List (BitVec 8)} (e : l.length = h.M) : CutMath.ends h l = true := by unfold CutMath.ends; rw [if_pos e]
theorem ends_short {h : CutMath.Sh} {l : List (BitVec 8)} (e : l.length ≠ h.M) (e2 : l.length < h.L) : CutMath.ends h l = false := by unfold CutMath.ends; rw [if_neg e, if_pos e2]
theorem ends_sum {h : CutMath.Sh} {l : List (BitVec 8)} (e : l.length ≠ h.M) (e2 : ¬ l.length < h.L) : CutMath.ends h l = decide (RollMath.sum h.s (lastN h.W l) &&& CutMath.maskOf h.K = 0#32) := by unfold CutMath.ends; rw [if_neg e, if_neg e2]; rfl

def EndsRel (K : Nat) (t i : Value) : Prop := ∃ k : Nat, k ≤ K ∧ i = .int .i64 k ∧ t = U32 (two k)
set_option maxHeartbeats 400000 in
theorem refEnds_any (h : CutMath.Sh) (g : h.Good) (a : Option Addr) (cap : Nat) (l : List (BitVec 8)) (w : World) (hr : Reads w a cap l) :
    Calls Try.prog 27 #[shV h, .slice a l.length cap] w fun e w' => e = .returned (.bool (CutMath.ends h l)) ∧ Below w.heap.size w w' := by
  have k1 := hr.fits
  have k2 := hr.room
  unfold shV shapeV
  by_cases hM : l.length = h.M
  · rw [ends_most hM, hM]
    clear hr hM
    go_enter Try.func27, Try.ntmps27
    go_wp2
    go_ret
    exact ⟨rfl, (Below.refl _ _).alloc (Nat.le_refl _) _⟩
  · have hM' : ((l.length : Int) == (h.M : Int)) = false := by rw [beq_eq_false_iff_ne]; omega
    by_cases hL : l.length < h.L
    · rw [ends_short hM hL]
      clear hr hM
      go_enter Try.func27, Try.ntmps27
      go_wp2
      go_ret
      exact ⟨rfl, (Below.refl _ _).alloc (Nat.le_refl _) _⟩
    · rw [ends_sum hM hL]
      have g3 := g.wl
      have g4 := g.k
      have HR := Lib.hid (rem_two (RollMath.sum h.s (lastN h.W l)) h.K g4)
      have hd := hr.drop (l.length - h.W) (by omega)
      have hn : (lastN h.W l).length = l.length - (l.length - h.W) := by unfold lastN; rw [List.length_drop]
      have hwr : IntKind.i64.wrap ((l.length : Int) - (h.W : Int)) = (l.length : Int) - h.W := IntWalk.i64_in _ (by omega)
      have RS := fun v (kv : Keeps w v) => refRollSum_any h.s (dropAddr a cap (l.length - h.W)) (cap - (l.length - h.W)) (lastN h.W l) v (hd.keeps kv)
      rw [hn] at RS
      have sl := fun w => run_slice_from byteSlice w a l.length cap .i64 (l.length - h.W) ((l.length : Int) - h.W) (by omega) (by omega)
      have rm := fun (t : TypeId) (x : BitVec 32) => u32_rem t x (two h.K) (two_ne h.K g4)
      generalize RollMath.sum h.s (lastN h.W l) = X at *
      clear hr hM hd hn g
      obtain ⟨L, M, K, W, s⟩ := h
      simp only at *
      generalize dropAddr a cap (l.length - W) = A at *
      go_enter Try.func27, Try.ntmps27
      go_wp2
      go_loop [5, 6] (fun t i => EndsRel K t i) (fun _ i => K - (intOf i).toNat)
      case atStart => exact ⟨0, Nat.zero_le _, rfl, rfl⟩
      case round =>
        obtain ⟨k, hk, rfl, rfl⟩ := hrel
        by_cases hlt : k < K
        · have HT := Lib.hid (two_succ k)
          generalize two k = T at *
          go_wp2
          go_round
          case rel => exact ⟨k + 1, by omega, by go_num, by rw [← HT.out]⟩
          case measure => simp [intOf]; omega
        · obtain rfl : k = K := by omega
          generalize two k = T at *
          go_wp2
          go_quiet (exact quiet_same (RS _ (Keeps.alloc _ _)))
          go_wp2
          go_ret
          exact ⟨ret_bool HR.out, below_drewN ((Below.refl _ _).alloc (Nat.le_refl _) _) _⟩
end Go.Proofs.Ytbjaeofooaikkaa
