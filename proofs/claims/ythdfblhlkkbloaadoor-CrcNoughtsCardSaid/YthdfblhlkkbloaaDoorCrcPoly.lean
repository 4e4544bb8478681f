/- Plain facts on the product of polynomials, as the texts reckon it. No program stands here. -/
import Derived.Test.YthdfblhlkkbloaaDoorCrcMath
namespace Go.Proofs.YthdfblhlkkbloaaDoor
open CrcMath

theorem bit_test (x : BitVec 32) : (x &&& 1#32 == 1#32) = x.getLsbD 0 := by
  rw [Bool.eq_iff_iff, beq_iff_eq]
  constructor
  · intro h
    have := congrArg (fun z : BitVec 32 => z.getLsbD 0) h
    simpa using this
  · intro h
    refine BitVec.eq_of_getLsbD_eq fun i hi => ?_
    rw [BitVec.getLsbD_and, BitVec.getLsbD_one]
    by_cases h0 : i = 0
    · subst h0; rw [h]; simp
    · simp [h0]
theorem step_test (x : BitVec 32) : step x = if (x &&& 1#32 == 1#32) = true then x >>> 1 ^^^ 3988292384#32 else x >>> 1 := by
  unfold step; rw [bit_test]; rfl
theorem half_div (x : BitVec 32) : x / 2#32 = x >>> 1 := by
  apply BitVec.eq_of_toNat_eq
  rw [BitVec.toNat_ushiftRight, BitVec.toNat_udiv, Nat.shiftRight_eq_div_pow]; rfl
theorem rem_test (x : BitVec 32) : (x % 2#32 == 1#32) = (x &&& 1#32 == 1#32) := by
  have : x % 2#32 = x &&& 1#32 := by
    apply BitVec.eq_of_toNat_eq
    rw [BitVec.toNat_umod, BitVec.toNat_and]
    exact (Nat.and_two_pow_sub_one_eq_mod x.toNat 1).symm
  rw [this]

/-! The bits in the other order. -/
def flip1 (x : BitVec 32) : BitVec 32 := (x >>> 1 &&& 1431655765#32) ||| ((x &&& 1431655765#32) <<< 1)
def flip2 (x : BitVec 32) : BitVec 32 := (x >>> 2 &&& 858993459#32) ||| ((x &&& 858993459#32) <<< 2)
def flip4 (x : BitVec 32) : BitVec 32 := (x >>> 4 &&& 252645135#32) ||| ((x &&& 252645135#32) <<< 4)
def flip8 (x : BitVec 32) : BitVec 32 := (x >>> 8 &&& 16711935#32) ||| ((x &&& 16711935#32) <<< 8)
def flip16 (x : BitVec 32) : BitVec 32 := (x >>> 16) ||| (x <<< 16)
def flip32 (x : BitVec 32) : BitVec 32 := flip16 (flip8 (flip4 (flip2 (flip1 x))))
theorem cases32 {p : Nat → Prop} (h : ∀ i : Fin 32, p i.val) : ∀ i, i < 32 → p i := fun i hi => h ⟨i, hi⟩
theorem flip1_bit (x : BitVec 32) (i : Nat) (hi : i < 32) : (flip1 x).getLsbD i = x.getLsbD (if i % 2 = 0 then i + 1 else i - 1) := by
  have h : ∀ i, i < 32 → (1431655765#32).getLsbD i = decide (i % 2 = 0) := cases32 (by decide)
  unfold flip1
  simp only [BitVec.getLsbD_or, BitVec.getLsbD_and, BitVec.getLsbD_ushiftRight, BitVec.getLsbD_shiftLeft, h i hi, hi, decide_true, Bool.true_and]
  by_cases h0 : i % 2 = 0
  · simp only [h0, decide_true, Bool.and_true, if_true]
    by_cases h1 : i < 1
    · simp [h1, Nat.add_comm]
    · rw [h (i - 1) (by omega), decide_eq_false (show ¬ (i - 1) % 2 = 0 by omega)]; simp [Nat.add_comm]
  · simp only [h0, decide_false, Bool.and_false, Bool.false_or, if_false]
    rw [h (i - 1) (by omega), decide_eq_true (show (i - 1) % 2 = 0 by omega)]; simp; omega
theorem flip2_bit (x : BitVec 32) (i : Nat) (hi : i < 32) : (flip2 x).getLsbD i = x.getLsbD (if i % 4 < 2 then i + 2 else i - 2) := by
  have h : ∀ i, i < 32 → (858993459#32).getLsbD i = decide (i % 4 < 2) := cases32 (by decide)
  unfold flip2
  simp only [BitVec.getLsbD_or, BitVec.getLsbD_and, BitVec.getLsbD_ushiftRight, BitVec.getLsbD_shiftLeft, h i hi, hi, decide_true, Bool.true_and]
  by_cases h0 : i % 4 < 2
  · simp only [h0, decide_true, Bool.and_true, if_true]
    by_cases h1 : i < 2
    · simp [h1, Nat.add_comm]
    · rw [h (i - 2) (by omega), decide_eq_false (show ¬ (i - 2) % 4 < 2 by omega)]; simp [Nat.add_comm]
  · simp only [h0, decide_false, Bool.and_false, Bool.false_or, if_false]
    rw [h (i - 2) (by omega), decide_eq_true (show (i - 2) % 4 < 2 by omega)]; simp; omega
theorem flip4_bit (x : BitVec 32) (i : Nat) (hi : i < 32) : (flip4 x).getLsbD i = x.getLsbD (if i % 8 < 4 then i + 4 else i - 4) := by
  have h : ∀ i, i < 32 → (252645135#32).getLsbD i = decide (i % 8 < 4) := cases32 (by decide)
  unfold flip4
  simp only [BitVec.getLsbD_or, BitVec.getLsbD_and, BitVec.getLsbD_ushiftRight, BitVec.getLsbD_shiftLeft, h i hi, hi, decide_true, Bool.true_and]
  by_cases h0 : i % 8 < 4
  · simp only [h0, decide_true, Bool.and_true, if_true]
    by_cases h1 : i < 4
    · simp [h1, Nat.add_comm]
    · rw [h (i - 4) (by omega), decide_eq_false (show ¬ (i - 4) % 8 < 4 by omega)]; simp [Nat.add_comm]
  · simp only [h0, decide_false, Bool.and_false, Bool.false_or, if_false]
    rw [h (i - 4) (by omega), decide_eq_true (show (i - 4) % 8 < 4 by omega)]; simp; omega
theorem flip8_bit (x : BitVec 32) (i : Nat) (hi : i < 32) : (flip8 x).getLsbD i = x.getLsbD (if i % 16 < 8 then i + 8 else i - 8) := by
  have h : ∀ i, i < 32 → (16711935#32).getLsbD i = decide (i % 16 < 8) := cases32 (by decide)
  unfold flip8
  simp only [BitVec.getLsbD_or, BitVec.getLsbD_and, BitVec.getLsbD_ushiftRight, BitVec.getLsbD_shiftLeft, h i hi, hi, decide_true, Bool.true_and]
  by_cases h0 : i % 16 < 8
  · simp only [h0, decide_true, Bool.and_true, if_true]
    by_cases h1 : i < 8
    · simp [h1, Nat.add_comm]
    · rw [h (i - 8) (by omega), decide_eq_false (show ¬ (i - 8) % 16 < 8 by omega)]; simp [Nat.add_comm]
  · simp only [h0, decide_false, Bool.and_false, Bool.false_or, if_false]
    rw [h (i - 8) (by omega), decide_eq_true (show (i - 8) % 16 < 8 by omega)]; simp; omega
theorem flip16_bit (x : BitVec 32) (i : Nat) (hi : i < 32) : (flip16 x).getLsbD i = x.getLsbD (if i < 16 then i + 16 else i - 16) := by
  unfold flip16
  simp only [BitVec.getLsbD_or, BitVec.getLsbD_ushiftRight, BitVec.getLsbD_shiftLeft, hi, decide_true, Bool.true_and]
  by_cases h0 : i < 16
  · simp [h0, Nat.add_comm]
  · simp only [h0, decide_false, Bool.not_false, Bool.true_and, if_false]
    rw [BitVec.getLsbD_of_ge x (16 + i) (by omega)]; simp
theorem flip32_bit (x : BitVec 32) (i : Nat) (hi : i < 32) : (flip32 x).getLsbD i = x.getLsbD (31 - i) := by
  unfold flip32
  rw [flip16_bit _ _ hi, flip8_bit _ _ (by revert hi; revert i; exact cases32 (by decide)), flip4_bit _ _ (by revert hi; revert i; exact cases32 (by decide)),
    flip2_bit _ _ (by revert hi; revert i; exact cases32 (by decide)), flip1_bit _ _ (by revert hi; revert i; exact cases32 (by decide))]
  congr 1
  revert hi; revert i
  exact cases32 (by decide)

/-! The program's product: behind k rounds. -/
theorem mulFrom_none (n : Nat) (a b : BitVec 32) (h : ∀ i, i < n → a.getLsbD i = false) : mulFrom n a b = 0#32 := by
  induction n generalizing b with
  | zero => rfl
  | succ n ih => rw [mulFrom, h n (by omega), ih _ (fun i hi => h i (by omega))]; simp [CrcMath.cond]
def TimesInv (a b : BitVec 32) (k : Nat) (y o c : BitVec 32) : Prop := k ≤ 32 ∧ y = flip32 a >>> k ∧ c = stepN k b ∧ o ^^^ mulFrom (32 - k) a c = mul a b
theorem stepN_succ (k : Nat) (b : BitVec 32) : stepN (k + 1) b = step (stepN k b) := by
  rw [stepN_add]; rfl
theorem TimesInv.start (a b : BitVec 32) : TimesInv a b 0 (flip32 a) 0#32 b := ⟨by omega, by simp, rfl, by simp [mul]⟩
theorem TimesInv.lt {a b y o c : BitVec 32} {k : Nat} (h : TimesInv a b k y o c) (hy : (y != 0#32) = true) : k < 32 := by
  obtain ⟨h1, h2, _, _⟩ := h
  rcases Nat.lt_or_ge k 32 with h' | h'
  · exact h'
  · exfalso
    rw [bne_iff_ne] at hy; apply hy
    rw [h2]
    exact BitVec.eq_of_getLsbD_eq fun i hi => by rw [BitVec.getLsbD_ushiftRight, BitVec.getLsbD_of_ge _ _ (by omega)]; simp
theorem TimesInv.bit {a b y o c : BitVec 32} {k : Nat} (h : TimesInv a b k y o c) (hk : k < 32) : y.getLsbD 0 = a.getLsbD (31 - k) := by
  rw [h.2.1, BitVec.getLsbD_ushiftRight, Nat.add_zero, flip32_bit _ _ hk]
theorem TimesInv.next {a b y o c : BitVec 32} {k : Nat} (h : TimesInv a b k y o c) (hk : k < 32) : TimesInv a b (k + 1) (y >>> 1) (o ^^^ CrcMath.cond (y.getLsbD 0) c) (step c) := by
  have hb := h.bit hk
  obtain ⟨h1, h2, h3, h4⟩ := h
  refine ⟨hk, ?_, by rw [h3, stepN_succ], ?_⟩
  · rw [h2, ← BitVec.shiftRight_add]
  · rw [hb, BitVec.xor_assoc]
    have e : 32 - k = (31 - k) + 1 := by omega
    rw [e, mulFrom] at h4
    rw [show 32 - (k + 1) = 31 - k by omega]; exact h4
theorem TimesInv.on {a b y o c : BitVec 32} {k : Nat} (h : TimesInv a b k y o c) (hk : k < 32) (ht : (y &&& 1#32 == 1#32) = true) : TimesInv a b (k + 1) (y >>> 1) (o ^^^ c) (step c) := by
  have := h.next hk
  rw [bit_test] at ht; rw [ht] at this; exact this
theorem TimesInv.off {a b y o c : BitVec 32} {k : Nat} (h : TimesInv a b k y o c) (hk : k < 32) (ht : (y &&& 1#32 == 1#32) = false) : TimesInv a b (k + 1) (y >>> 1) o (step c) := by
  have := h.next hk
  rw [bit_test] at ht; rw [ht] at this; simpa [CrcMath.cond] using this
theorem TimesInv.done {a b y o c : BitVec 32} {k : Nat} (h : TimesInv a b k y o c) (hy : (y != 0#32) = false) : o = mul a b := by
  obtain ⟨h1, h2, h3, h4⟩ := h
  have e : y = 0#32 := by simpa using hy
  rw [← h4, mulFrom_none, BitVec.xor_zero]
  intro i hi
  have := congrArg (fun z : BitVec 32 => z.getLsbD (31 - i - k)) (h2.symm.trans e)
  simp only [BitVec.getLsbD_ushiftRight, BitVec.getLsbD_zero] at this
  rw [show k + (31 - i - k) = 31 - i by omega, flip32_bit _ _ (by omega), show 31 - (31 - i) = i by omega] at this
  exact this
theorem shr1_lt {y : BitVec 32} (hy : (y != 0#32) = true) : (y >>> 1).toNat < y.toNat := by
  rw [bne_iff_ne] at hy
  have : y.toNat ≠ 0 := fun e => hy (BitVec.eq_of_toNat_eq (by simpa using e))
  rw [BitVec.toNat_ushiftRight, Nat.shiftRight_eq_div_pow]; omega

/-! The document's product: n coefficients are left. -/
def ProdInv (a b : BitVec 32) (n : Nat) (o c : BitVec 32) : Prop := o ^^^ mulFrom n a c = mul a b
theorem ProdInv.start (a b : BitVec 32) : ProdInv a b 32 0#32 b := by simp [ProdInv, mul]
theorem bit_test_at (a : BitVec 32) (n : Nat) : (a >>> n &&& 1#32 == 1#32) = a.getLsbD n := by
  rw [bit_test, BitVec.getLsbD_ushiftRight, Nat.add_zero]
theorem ProdInv.on {a b o c : BitVec 32} {n : Nat} (h : ProdInv a b (n + 1) o c) (ht : (a >>> n &&& 1#32 == 1#32) = true) : ProdInv a b n (o ^^^ c) (step c) := by
  rw [bit_test_at] at ht
  unfold ProdInv at h ⊢
  rw [mulFrom, ht] at h; rw [BitVec.xor_assoc]; exact h
theorem ProdInv.off {a b o c : BitVec 32} {n : Nat} (h : ProdInv a b (n + 1) o c) (ht : (a >>> n &&& 1#32 == 1#32) = false) : ProdInv a b n o (step c) := by
  rw [bit_test_at] at ht
  unfold ProdInv at h ⊢
  rw [mulFrom, ht] at h; simpa [CrcMath.cond] using h
theorem ProdInv.done {a b o c : BitVec 32} (h : ProdInv a b 0 o c) : o = mul a b := by
  unfold ProdInv at h; simpa [mulFrom] using h

/-! Powers. -/
theorem pow_double (n : Nat) : mul (pow (8 * n)) (pow (8 * n)) = pow (8 * (2 * n)) := by
  rw [← pow_add]; congr 1; omega
theorem pow_odd (n : Nat) : mul (pow (8 * n)) (pow 8) = pow (8 * (n + 1)) := by
  rw [← pow_add]; congr 1
theorem pow_step (n : Nat) : step (pow n) = pow (n + 1) := by unfold pow; rw [stepN_succ]

/-- Behind k rounds of the program's move by n bytes. -/
def ShiftInv (s : BitVec 32) (n k : Nat) (m : Nat) (t p : BitVec 32) : Prop := m = n / 2 ^ k ∧ p = pow (8 * 2 ^ k) ∧ t = mul s (pow (8 * (n % 2 ^ k)))
theorem ShiftInv.start (s : BitVec 32) (n : Nat) : ShiftInv s n 0 n s 8388608#32 := by
  refine ⟨by simp, by rw [show 8 * 2 ^ 0 = 8 from rfl, pow_eight], ?_⟩
  rw [show n % 2 ^ 0 = 0 by simp [Nat.mod_one], show 8 * 0 = 0 from rfl, pow_zero, mul_one]
theorem ShiftInv.on {s t p : BitVec 32} {n k m : Nat} (h : ShiftInv s n k m t p) (ho : m % 2 = 1) : ShiftInv s n (k + 1) (m / 2) (mul t p) (mul p p) := by
  obtain ⟨h1, h2, h3⟩ := h
  have hp : 0 < 2 ^ k := Nat.pow_pos (by decide)
  refine ⟨by rw [h1, Nat.div_div_eq_div_mul, Nat.pow_succ], by rw [h2, pow_double, Nat.pow_succ, Nat.mul_comm 2], ?_⟩
  rw [h3, h2, mul_assoc, ← pow_add]
  congr 2
  have : n % 2 ^ (k + 1) = n % 2 ^ k + 2 ^ k * (n / 2 ^ k % 2) := by rw [Nat.pow_succ, Nat.mod_mul]
  rw [this, ← h1, ho]; omega
theorem ShiftInv.off {s t p : BitVec 32} {n k m : Nat} (h : ShiftInv s n k m t p) (ho : m % 2 = 0) : ShiftInv s n (k + 1) (m / 2) t (mul p p) := by
  obtain ⟨h1, h2, h3⟩ := h
  refine ⟨by rw [h1, Nat.div_div_eq_div_mul, Nat.pow_succ], by rw [h2, pow_double, Nat.pow_succ, Nat.mul_comm 2], ?_⟩
  have : n % 2 ^ (k + 1) = n % 2 ^ k + 2 ^ k * (n / 2 ^ k % 2) := by rw [Nat.pow_succ, Nat.mod_mul]
  rw [h3, this, ← h1, ho]; rfl
theorem ShiftInv.done {s t p : BitVec 32} {n k : Nat} (h : ShiftInv s n k 0 t p) : t = shift s n := by
  obtain ⟨h1, _, h3⟩ := h
  have hp : 0 < 2 ^ k := Nat.pow_pos (by decide)
  have : n < 2 ^ k := by
    rcases Nat.lt_or_ge n (2 ^ k) with h' | h'
    · exact h'
    · have := Nat.div_pos h' hp; omega
  rw [h3, Nat.mod_eq_of_lt this]; rfl
end Go.Proofs.YthdfblhlkkbloaaDoor
