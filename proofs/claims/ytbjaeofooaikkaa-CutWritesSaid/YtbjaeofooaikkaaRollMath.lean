/- Plain facts on the rolling sum: words of bytes, words turned, sums of the last bytes. No program stands here. -/
namespace RollMath

abbrev W := BitVec 32
def rot (x : W) (n : Nat) : W := x.rotateLeft n

theorem rot_xor (x y : W) (n : Nat) : rot (x ^^^ y) n = rot x n ^^^ rot y n := by
  unfold rot
  refine BitVec.eq_of_getLsbD_eq fun i hi => ?_
  simp only [BitVec.getLsbD_rotateLeft, BitVec.getLsbD_xor]
  by_cases h : i < n % 32 <;> simp [h, hi]
theorem rot_zero (n : Nat) : rot 0#32 n = 0#32 := by
  unfold rot
  refine BitVec.eq_of_getLsbD_eq fun i hi => ?_
  simp only [BitVec.getLsbD_rotateLeft, BitVec.getLsbD_zero]
  by_cases h : i < n % 32 <;> simp [h]
theorem rot_bit (x : W) (n i : Nat) (hi : i < 32) : (rot x n).getLsbD i = x.getLsbD ((i + 32 - n % 32) % 32) := by
  unfold rot
  rw [BitVec.getLsbD_rotateLeft]
  by_cases h : i < n % 32
  · rw [show (i + 32 - n % 32) % 32 = 32 - n % 32 + i by omega]; simp [h]
  · rw [show (i + 32 - n % 32) % 32 = i - n % 32 by omega]; simp [h, hi]
theorem rot_rot (x : W) (m n : Nat) : rot (rot x m) n = rot x (m + n) := by
  refine BitVec.eq_of_getLsbD_eq fun i hi => ?_
  rw [rot_bit _ _ _ hi, rot_bit _ _ _ (Nat.mod_lt _ (by decide)), rot_bit _ _ _ hi]
  congr 1; omega
theorem rot_mod (x : W) (n : Nat) : rot x (n % 32) = rot x n := by
  refine BitVec.eq_of_getLsbD_eq fun i hi => ?_
  rw [rot_bit _ _ _ hi, rot_bit _ _ _ hi]
  congr 1; omega
theorem rot_none (x : W) : rot x 0 = x := by
  refine BitVec.eq_of_getLsbD_eq fun i hi => ?_
  rw [rot_bit _ _ _ hi]
  congr 1; omega
/-- As the text has it: two shifts. -/
theorem rot_shifts (x : W) (n : Nat) (h : n < 32) : (x <<< n) ||| (x >>> (32 - n)) = rot x n := by
  unfold rot
  rw [BitVec.rotateLeft_def, Nat.mod_eq_of_lt h]

/-! Words. -/
def word (seed : W) (c : BitVec 8) : W :=
  let x := seed + (c.setWidth 32 + 1#32) * 0x9e3779b9#32
  let y := (x ^^^ x >>> 16) * 0x85ebca6b#32
  let z := (y ^^^ y >>> 13) * 0xc2b2ae35#32
  z ^^^ z >>> 16

theorem mul_inj (c d : W) (h : c * d = 1#32) {x y : W} (e : x * c = y * c) : x = y := by
  have := congrArg (· * d) e
  simpa [BitVec.mul_assoc, h] using this
theorem xorshift_inj (n : Nat) (hn : 1 ≤ n) {x y : W} (e : x ^^^ x >>> n = y ^^^ y >>> n) : x = y := by
  have key : ∀ k i, 32 ≤ i + k → x.getLsbD i = y.getLsbD i := by
    intro k
    induction k with
    | zero => intro i h; rw [BitVec.getLsbD_of_ge _ _ (by omega), BitVec.getLsbD_of_ge _ _ (by omega)]
    | succ k ih =>
      intro i h
      have h1 := congrArg (fun z : W => z.getLsbD i) e
      simp only [BitVec.getLsbD_xor, BitVec.getLsbD_ushiftRight] at h1
      rw [ih (n + i) (by omega)] at h1
      cases hx : x.getLsbD i <;> cases hy : y.getLsbD i <;> simp_all
  exact BitVec.eq_of_getLsbD_eq fun i _ => key 32 i (by omega)
theorem add_left_inj' {s x y : W} (e : s + x = s + y) : x = y := by
  have := congrArg (fun z => z - s) e
  simpa [BitVec.add_comm s] using this
theorem word_inj {seed : W} {a b : BitVec 8} (h : word seed a = word seed b) : a = b := by
  unfold word at h
  have h1 := xorshift_inj 16 (by decide) h
  have h2 := mul_inj 0xc2b2ae35#32 0x7ed1b41d#32 (by decide) h1
  have h3 := xorshift_inj 13 (by decide) h2
  have h4 := mul_inj 0x85ebca6b#32 0xa5cb9243#32 (by decide) h3
  have h5 := xorshift_inj 16 (by decide) h4
  have h6 := add_left_inj' h5
  have h7 := mul_inj 0x9e3779b9#32 0x144cbc89#32 (by decide) h6
  have h8 : (a.setWidth 32).toNat = (b.setWidth 32).toNat := by
    have := congrArg (fun z => z - 1#32) h7
    simp only [BitVec.add_sub_cancel] at this
    rw [this]
  apply BitVec.eq_of_toNat_eq
  simpa [BitVec.toNat_setWidth, Nat.mod_eq_of_lt (show a.toNat < 4294967296 by have := a.isLt; omega), Nat.mod_eq_of_lt (show b.toNat < 4294967296 by have := b.isLt; omega)] using h8

/-! Sums. -/
def sumFrom (seed x : W) (l : List (BitVec 8)) : W := l.foldl (fun x c => rot x 1 ^^^ word seed c) x
def sum (seed : W) (l : List (BitVec 8)) : W := sumFrom seed 0#32 l

theorem sumFrom_append (seed x : W) (a b : List (BitVec 8)) : sumFrom seed x (a ++ b) = sumFrom seed (sumFrom seed x a) b := List.foldl_append
theorem sumFrom_split (seed x : W) (l : List (BitVec 8)) : sumFrom seed x l = rot x l.length ^^^ sum seed l := by
  induction l generalizing x with
  | nil => simp [sumFrom, sum, rot_none]
  | cons c l ih =>
    have e : ∀ y, sumFrom seed y (c :: l) = sumFrom seed (rot y 1 ^^^ word seed c) l := fun _ => rfl
    rw [sum, e, e, ih, ih (rot 0#32 1 ^^^ _), rot_xor, rot_xor, rot_rot, rot_zero, rot_zero, BitVec.zero_xor, BitVec.xor_assoc, List.length_cons, Nat.add_comm 1]
theorem sum_nil (seed : W) : sum seed [] = 0#32 := rfl
theorem sum_snoc (seed : W) (l : List (BitVec 8)) (c : BitVec 8) : sum seed (l ++ [c]) = rot (sum seed l) 1 ^^^ word seed c := by
  rw [sum, sumFrom_append]; rfl
theorem sum_cons (seed : W) (c : BitVec 8) (l : List (BitVec 8)) : sum seed (c :: l) = rot (word seed c) l.length ^^^ sum seed l := by
  have e : sum seed (c :: l) = sumFrom seed (rot 0#32 1 ^^^ word seed c) l := rfl
  rw [e, sumFrom_split, rot_zero, BitVec.zero_xor]
/-- The oldest byte's word, turned, goes; what is left is the sum of the others. -/
theorem sum_slide (seed : W) (d c : BitVec 8) (l : List (BitVec 8)) :
    (rot (sum seed (d :: l)) 1 ^^^ word seed c) ^^^ rot (word seed d) (l.length + 1) = sum seed (l ++ [c]) := by
  have h := sum_cons seed d (l ++ [c])
  rw [List.length_append, List.length_singleton] at h
  rw [← sum_snoc, List.cons_append, h]
  have e : ∀ x y : W, (x ^^^ y) ^^^ x = y := by
    intro x y; rw [BitVec.xor_comm x y, BitVec.xor_assoc, BitVec.xor_self, BitVec.xor_zero]
  exact e _ _

/-- All words, turned, by places: what the sum is made of. -/
def part (seed : W) (l : List (BitVec 8)) (k : Nat) : W := ((List.range k).map fun i => rot (word seed (l.getD i 0#8)) ((l.length - 1 - i) % 32)).foldl (· ^^^ ·) 0#32
theorem part_succ (seed : W) (l : List (BitVec 8)) (k : Nat) : part seed l (k + 1) = part seed l k ^^^ rot (word seed (l.getD k 0#8)) ((l.length - 1 - k) % 32) := by
  unfold part; rw [List.range_succ, List.map_append, List.foldl_append]; rfl
theorem part_is (seed : W) (l : List (BitVec 8)) : ∀ k, k ≤ l.length → part seed l k = rot (sum seed (l.take k)) (l.length - k) := by
  intro k
  induction k with
  | zero => intro _; rw [List.take_zero, sum_nil, rot_zero]; rfl
  | succ k ih =>
    intro h
    have hk : k < l.length := by omega
    rw [part_succ, ih (by omega), rot_mod, ← List.take_append_getElem hk, sum_snoc, rot_xor, rot_rot]
    rw [show 1 + (l.length - (k + 1)) = l.length - k by omega, show l.length - 1 - k = l.length - (k + 1) by omega]
    simp [List.getD_eq_getElem?_getD, List.getElem?_eq_getElem hk]
theorem part_all (seed : W) (l : List (BitVec 8)) : part seed l l.length = sum seed l := by
  rw [part_is seed l _ (Nat.le_refl _), List.take_length, Nat.sub_self, rot_none]

/-! The document's word, by 64 bits. -/
def word64 (seed : W) (c : BitVec 8) : BitVec 64 :=
  let x := (seed.setWidth 64 + (c.setWidth 64 + 1#64) * 0x9e3779b9#64) % 4294967296#64
  let y := (x ^^^ x / 65536#64) * 0x85ebca6b#64 % 4294967296#64
  let z := (y ^^^ y / 8192#64) * 0xc2b2ae35#64 % 4294967296#64
  z ^^^ z / 65536#64
theorem xor_div (x : W) (k : Nat) : (x.setWidth 64 ^^^ x.setWidth 64 / BitVec.ofNat 64 (2 ^ k)).toNat = (x ^^^ x >>> k).toNat ∨ 64 ≤ k := by
  by_cases hk : 64 ≤ k
  · exact .inr hk
  · left
    have hx := x.isLt
    rw [BitVec.toNat_xor, BitVec.toNat_xor, BitVec.toNat_udiv, BitVec.toNat_ushiftRight, BitVec.toNat_setWidth, BitVec.toNat_ofNat,
      Nat.mod_eq_of_lt (show 2 ^ k < 2 ^ 64 from Nat.pow_lt_pow_right (by decide) (by omega)), Nat.mod_eq_of_lt (show x.toNat < 2 ^ 64 by omega), Nat.shiftRight_eq_div_pow]
theorem mul_mod (x : W) (k : Nat) (hk : k < 64) (c : Nat) (hc : c < 4294967296) :
    (x.setWidth 64 ^^^ x.setWidth 64 / BitVec.ofNat 64 (2 ^ k)) * BitVec.ofNat 64 c % 4294967296#64 = ((x ^^^ x >>> k) * BitVec.ofNat 32 c).setWidth 64 := by
  apply BitVec.eq_of_toNat_eq
  have h := (xor_div x k).resolve_right (by omega)
  have hl := (x ^^^ x >>> k).isLt
  rw [BitVec.toNat_umod, BitVec.toNat_mul, h, BitVec.toNat_setWidth, BitVec.toNat_mul, BitVec.toNat_ofNat, BitVec.toNat_ofNat, BitVec.toNat_ofNat]
  generalize (x ^^^ x >>> k).toNat = n at hl
  have h2 : n * c < 2 ^ 64 := by
    have : n * c ≤ 4294967295 * 4294967295 := Nat.mul_le_mul (by omega) (by omega)
    omega
  rw [Nat.mod_eq_of_lt (show c < 2 ^ 64 by omega), Nat.mod_eq_of_lt h2, Nat.mod_eq_of_lt (show c < 2 ^ 32 by omega)]
  generalize n * c = m at h2
  simp only [Nat.reducePow, Nat.reduceMod]
  omega
theorem first_mod (seed : W) (c : BitVec 8) :
    (seed.setWidth 64 + (c.setWidth 64 + 1#64) * 0x9e3779b9#64) % 4294967296#64 = (seed + (c.setWidth 32 + 1#32) * 0x9e3779b9#32).setWidth 64 := by
  apply BitVec.eq_of_toNat_eq
  have h1 := seed.isLt
  have h2 := c.isLt
  rw [BitVec.toNat_umod, BitVec.toNat_add, BitVec.toNat_mul, BitVec.toNat_add, BitVec.toNat_setWidth, BitVec.toNat_setWidth, BitVec.toNat_setWidth, BitVec.toNat_add, BitVec.toNat_mul, BitVec.toNat_add, BitVec.toNat_setWidth,
    BitVec.toNat_ofNat, BitVec.toNat_ofNat, BitVec.toNat_ofNat, BitVec.toNat_ofNat, BitVec.toNat_ofNat]
  simp only [Nat.reducePow, Nat.reduceMod]
  omega
theorem word64_is (seed : W) (c : BitVec 8) : (word64 seed c).setWidth 32 = word seed c := by
  unfold word64 word
  simp only [first_mod]
  rw [show (65536#64) = BitVec.ofNat 64 (2 ^ 16) from rfl, show (8192#64) = BitVec.ofNat 64 (2 ^ 13) from rfl,
    show (0x85ebca6b#64) = BitVec.ofNat 64 0x85ebca6b from rfl, show (0xc2b2ae35#64) = BitVec.ofNat 64 0xc2b2ae35 from rfl,
    mul_mod _ 16 (by decide) _ (by decide), mul_mod _ 13 (by decide) _ (by decide)]
  apply BitVec.eq_of_toNat_eq
  rw [BitVec.toNat_setWidth, (xor_div _ 16).resolve_right (by decide), Nat.mod_eq_of_lt (BitVec.isLt _)]

/-! The document's turn, bit by bit. -/
def turnTo (x : BitVec 64) (m : Nat) : Nat → BitVec 64
  | 0 => 0#64
  | i + 1 => turnTo x m i ||| (((x >>> i) &&& 1#64) <<< ((i + m) % 32))
theorem turnTo_bit (x : BitVec 64) (m : Nat) (hm : m < 32) (k : Nat) (hk : k ≤ 32) (j : Nat) (hj : j < 64) :
    (turnTo x m k).getLsbD j = (decide (j < 32) && decide ((j + 32 - m) % 32 < k) && x.getLsbD ((j + 32 - m) % 32)) := by
  induction k with
  | zero => simp [turnTo]
  | succ k ih =>
    rw [turnTo, BitVec.getLsbD_or, ih (by omega), BitVec.getLsbD_shiftLeft]
    simp only [BitVec.getLsbD_and, BitVec.getLsbD_ushiftRight, BitVec.getLsbD_one, hj, decide_true, Bool.true_and]
    by_cases h32 : j < 32
    · by_cases e : (j + 32 - m) % 32 = k
      · have e1 : (k + m) % 32 = j := by omega
        rw [e, e1]; simp [h32]
      · have e2 : decide ((j + 32 - m) % 32 < k + 1) = decide ((j + 32 - m) % 32 < k) := by rw [decide_eq_decide]; omega
        rw [e2]
        have e3 : (!decide (j < (k + m) % 32) && (x.getLsbD (k + (j - (k + m) % 32)) && decide (j - (k + m) % 32 = 0))) = false := by
          by_cases h1 : j < (k + m) % 32
          · rw [decide_eq_true h1]; rfl
          · rw [decide_eq_false (show ¬ (j - (k + m) % 32 = 0) by omega), Bool.and_false, Bool.and_false]
        have e3' := e3
        simp only [show (0 : Nat) < 64 from by decide, decide_true, Bool.true_and] at e3' ⊢
        rw [e3', Bool.or_false]
    · have : (k + m) % 32 < 32 := Nat.mod_lt _ (by decide)
      rw [decide_eq_false h32, decide_eq_false (show ¬ (j - (k + m) % 32 = 0) by omega)]
      simp
theorem turn_is (x : W) (n : Nat) : turnTo (x.setWidth 64) (n % 32) 32 = (rot x n).setWidth 64 := by
  refine BitVec.eq_of_getLsbD_eq fun j hj => ?_
  rw [turnTo_bit _ _ (Nat.mod_lt _ (by decide)) _ (Nat.le_refl _) _ hj]
  have h1 : (j + 32 - n % 32) % 32 < 32 := Nat.mod_lt _ (by decide)
  have h2 : (j + 32 - n % 32) % 32 < 64 := by omega
  simp only [BitVec.getLsbD_setWidth, hj, decide_true, Bool.true_and, h1, h2, Bool.and_true]
  by_cases h : j < 32
  · rw [rot_bit _ _ _ h, decide_eq_true h, Bool.true_and]
  · rw [BitVec.getLsbD_of_ge (rot x n) j (by omega), decide_eq_false h, Bool.false_and]

end RollMath
