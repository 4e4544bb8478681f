/- The sum's plain mathematics: words, rounds, blocks, padding. No program in sight. -/
import Derived.Test.YtnodcjjmodbjiaaDoorB
namespace Go.Proofs.YtnodcjjmodbjiaaDoor.Sha

abbrev B8 := BitVec 8
abbrev B32 := BitVec 32
def rotr (x : B32) (n : Nat) : B32 := x >>> n ||| x <<< (32 - n)
def K : List B32 := [
  0x428a2f98#32, 0x71374491#32, 0xb5c0fbcf#32, 0xe9b5dba5#32, 0x3956c25b#32, 0x59f111f1#32, 0x923f82a4#32, 0xab1c5ed5#32,
  0xd807aa98#32, 0x12835b01#32, 0x243185be#32, 0x550c7dc3#32, 0x72be5d74#32, 0x80deb1fe#32, 0x9bdc06a7#32, 0xc19bf174#32,
  0xe49b69c1#32, 0xefbe4786#32, 0x0fc19dc6#32, 0x240ca1cc#32, 0x2de92c6f#32, 0x4a7484aa#32, 0x5cb0a9dc#32, 0x76f988da#32,
  0x983e5152#32, 0xa831c66d#32, 0xb00327c8#32, 0xbf597fc7#32, 0xc6e00bf3#32, 0xd5a79147#32, 0x06ca6351#32, 0x14292967#32,
  0x27b70a85#32, 0x2e1b2138#32, 0x4d2c6dfc#32, 0x53380d13#32, 0x650a7354#32, 0x766a0abb#32, 0x81c2c92e#32, 0x92722c85#32,
  0xa2bfe8a1#32, 0xa81a664b#32, 0xc24b8b70#32, 0xc76c51a3#32, 0xd192e819#32, 0xd6990624#32, 0xf40e3585#32, 0x106aa070#32,
  0x19a4c116#32, 0x1e376c08#32, 0x2748774c#32, 0x34b0bcb5#32, 0x391c0cb3#32, 0x4ed8aa4a#32, 0x5b9cca4f#32, 0x682e6ff3#32,
  0x748f82ee#32, 0x78a5636f#32, 0x84c87814#32, 0x8cc70208#32, 0x90befffa#32, 0xa4506ceb#32, 0xbef9a3f7#32, 0xc67178f2#32]
@[ext] structure St where
  a : B32
  b : B32
  c : B32
  d : B32
  e : B32
  f : B32
  g : B32
  h : B32
def begin : St := ⟨0x6a09e667#32, 0xbb67ae85#32, 0x3c6ef372#32, 0xa54ff53a#32, 0x510e527f#32, 0x9b05688c#32, 0x1f83d9ab#32, 0x5be0cd19#32⟩
def zeroSt : St := ⟨0#32, 0#32, 0#32, 0#32, 0#32, 0#32, 0#32, 0#32⟩
def St.list (s : St) : List B32 := [s.a, s.b, s.c, s.d, s.e, s.f, s.g, s.h]
def St.at_ (s : St) (i : Nat) : B32 := s.list.getD i 0#32
def small0 (x : B32) : B32 := rotr x 7 ^^^ rotr x 18 ^^^ x >>> 3
def small1 (x : B32) : B32 := rotr x 17 ^^^ rotr x 19 ^^^ x >>> 10
def big0 (x : B32) : B32 := rotr x 2 ^^^ rotr x 13 ^^^ rotr x 22
def big1 (x : B32) : B32 := rotr x 6 ^^^ rotr x 11 ^^^ rotr x 25
def ch (e f g : B32) : B32 := (e &&& f) ^^^ (~~~e &&& g)
def maj (a b c : B32) : B32 := (a &&& b) ^^^ (a &&& c) ^^^ (b &&& c)
/-- The word behind these. -/
def next (l : List B32) (k : Nat) : B32 := l.getD k 0#32 + small0 (l.getD (k + 1) 0#32) + l.getD (k + 9) 0#32 + small1 (l.getD (k + 14) 0#32)
def grow (b : List B32) : Nat → List B32
  | 0 => b
  | k + 1 => grow b k ++ [next (grow b k) k]
def be4 (a b c d : B8) : B32 := (((a.setWidth 32 <<< 8 ||| b.setWidth 32) <<< 8 ||| c.setWidth 32) <<< 8) ||| d.setWidth 32
def word (l : List B8) (i : Nat) : B32 := be4 (byteAt l (4 * i)) (byteAt l (4 * i + 1)) (byteAt l (4 * i + 2)) (byteAt l (4 * i + 3))
def first (l : List B8) : List B32 := (List.range 16).map (word l)
def sched (l : List B8) : List B32 := grow (first l) 48
def step (v : St) (k w : B32) : St :=
  let t := v.h + big1 v.e + ch v.e v.f v.g + k + w
  ⟨t + (big0 v.a + maj v.a v.b v.c), v.a, v.b, v.c, v.d + t, v.e, v.f, v.g⟩
def rounds (v : St) (w : List B32) : Nat → St
  | 0 => v
  | n + 1 => step (rounds v w n) (K.getD n 0#32) (w.getD n 0#32)
def St.plus (s v : St) : St := ⟨s.a + v.a, s.b + v.b, s.c + v.c, s.d + v.d, s.e + v.e, s.f + v.f, s.g + v.g, s.h + v.h⟩
def take (s : St) (l : List B8) : St := s.plus (rounds s (sched l) 64)
/-- So many blocks. -/
def blocks : Nat → St → List B8 → St
  | 0, s, _ => s
  | n + 1, s, l => blocks n (take s (l.take 64)) (l.drop 64)
def be8 (n : Nat) : List B8 := [BitVec.ofNat 8 (n / 2 ^ 56), BitVec.ofNat 8 (n / 2 ^ 48), BitVec.ofNat 8 (n / 2 ^ 40), BitVec.ofNat 8 (n / 2 ^ 32), BitVec.ofNat 8 (n / 2 ^ 24), BitVec.ofNat 8 (n / 2 ^ 16), BitVec.ofNat 8 (n / 2 ^ 8), BitVec.ofNat 8 n]
def noughts (n : Nat) : Nat := (119 - n % 64) % 64
/-- What follows a text of n bytes, of which these are left. -/
def tail (rest : List B8) (n : Nat) : List B8 := rest ++ [0x80#8] ++ List.replicate (noughts rest.length) 0#8 ++ be8 (8 * n)
def pad (l : List B8) : List B8 := tail l l.length
def bytes4 (x : B32) : List B8 := [(x >>> 24).setWidth 8, (x >>> 16).setWidth 8, (x >>> 8).setWidth 8, x.setWidth 8]
def St.bytes (s : St) : List B8 := s.list.flatMap bytes4
def sum (l : List B8) : List B8 := (blocks ((pad l).length / 64) begin (pad l)).bytes

/-- What a hasher holds behind a text. -/
def held (l : List B8) : St := blocks (l.length / 64) begin l
def left (l : List B8) : List B8 := l.drop (64 * (l.length / 64))

theorem length_grow (b : List B32) : ∀ k, (grow b k).length = b.length + k
  | 0 => rfl
  | k + 1 => by rw [grow, List.length_append, length_grow b k, List.length_singleton]; omega
theorem length_first (l : List B8) : (first l).length = 16 := by simp [first]
theorem length_sched (l : List B8) : (sched l).length = 64 := by rw [sched, length_grow, length_first]
theorem grow_get (b : List B32) (i : Nat) : ∀ k, i < b.length → (grow b k).getD i 0#32 = b.getD i 0#32
  | 0, _ => rfl
  | k + 1, h => by
    have := length_grow b k
    rw [grow, List.getD_eq_getElem?_getD, List.getElem?_append_left (by omega), ← List.getD_eq_getElem?_getD, grow_get b i k h]
theorem grow_stable (b : List B32) (i k : Nat) (h : i < b.length + k) : ∀ m, (grow b (k + m)).getD i 0#32 = (grow b k).getD i 0#32
  | 0 => rfl
  | m + 1 => by
    have := length_grow b (k + m)
    rw [← Nat.add_assoc, grow, List.getD_eq_getElem?_getD, List.getElem?_append_left (by omega), ← List.getD_eq_getElem?_getD, grow_stable b i k h m]
theorem grow_next (b : List B32) (k : Nat) : (grow b (k + 1)).getD (b.length + k) 0#32 = next (grow b k) k := by
  have := length_grow b k
  rw [grow, List.getD_eq_getElem?_getD, List.getElem?_append_right (by omega), this, Nat.sub_self]; rfl
theorem sched_low (l : List B8) (i : Nat) (h : i < 16) : (sched l).getD i 0#32 = word l i := by
  rw [sched, grow_get _ _ _ (by rw [length_first]; exact h), List.getD_eq_getElem?_getD]
  simp [first, h]
theorem sched_get (l : List B8) (i k : Nat) (hk : k ≤ 48) (h : i < 16 + k) : (sched l).getD i 0#32 = (grow (first l) k).getD i 0#32 := by
  have := grow_stable (first l) i k (by rw [length_first]; exact h) (48 - k)
  rw [show k + (48 - k) = 48 by omega] at this
  exact this
theorem sched_high (l : List B8) (i : Nat) (h1 : 16 ≤ i) (h2 : i < 64) :
    (sched l).getD i 0#32 = (sched l).getD (i - 16) 0#32 + small0 ((sched l).getD (i - 15) 0#32) + (sched l).getD (i - 7) 0#32 + small1 ((sched l).getD (i - 2) 0#32) := by
  obtain ⟨k, rfl⟩ : ∃ k, i = 16 + k := ⟨i - 16, by omega⟩
  have e := grow_next (first l) k
  rw [length_first] at e
  rw [sched_get l (16 + k) (k + 1) (by omega) (by omega), e, next]
  rw [sched_get l (16 + k - 16) k (by omega) (by omega), sched_get l (16 + k - 15) k (by omega) (by omega), sched_get l (16 + k - 7) k (by omega) (by omega), sched_get l (16 + k - 2) k (by omega) (by omega)]
  rw [show 16 + k - 16 = k by omega, show 16 + k - 15 = k + 1 by omega, show 16 + k - 7 = k + 9 by omega, show 16 + k - 2 = k + 14 by omega]
theorem blocks_append : ∀ (m n : Nat) (s : St) (l r : List B8), l.length = 64 * m → blocks (m + n) s (l ++ r) = blocks n (blocks m s l) r
  | 0, n, s, l, r, h => by
    obtain rfl : l = [] := List.eq_nil_of_length_eq_zero (by omega)
    rw [Nat.zero_add]; rfl
  | m + 1, n, s, l, r, h => by
    rw [show m + 1 + n = (m + n) + 1 by omega, blocks, blocks, List.take_append_of_le_length (by omega), List.drop_append_of_le_length (by omega)]
    exact blocks_append m n _ _ r (by rw [List.length_drop]; omega)
theorem blocks_take : ∀ (m : Nat) (s : St) (l : List B8), 64 * m ≤ l.length → blocks m s l = blocks m s (l.take (64 * m))
  | 0, s, l, h => rfl
  | m + 1, s, l, h => by
    rw [blocks, blocks, List.take_take, Nat.min_eq_left (by omega), blocks_take m _ _ (by rw [List.length_drop]; omega), List.drop_take]
    congr 3 <;> omega
/-- Behind a text's whole blocks. -/
theorem held_left (l : List B8) : ∃ h : List B8, h.length = 64 * (l.length / 64) ∧ l = h ++ left l ∧ held l = blocks (l.length / 64) begin h := by
  refine ⟨l.take (64 * (l.length / 64)), ?_, ?_, ?_⟩
  · rw [List.length_take]; omega
  · rw [left, List.take_append_drop]
  · rw [held]; exact blocks_take _ _ _ (by omega)
theorem left_length (l : List B8) : (left l).length = l.length % 64 := by rw [left, List.length_drop]; omega
theorem held_append (l r : List B8) : held (l ++ r) = blocks (((left l).length + r.length) / 64) (held l) (left l ++ r) := by
  obtain ⟨h, h1, h2, h3⟩ := held_left l
  have hl := left_length l
  rw [held, h3]
  have e : l ++ r = h ++ (left l ++ r) := by rw [← List.append_assoc, ← h2]
  rw [e, show (h ++ (left l ++ r)).length / 64 = l.length / 64 + ((left l).length + r.length) / 64 by rw [List.length_append, List.length_append, h1]; omega]
  exact blocks_append _ _ _ _ _ h1
theorem left_append (l r : List B8) : left (l ++ r) = (left l ++ r).drop (64 * (((left l).length + r.length) / 64)) := by
  obtain ⟨h, h1, h2, _⟩ := held_left l
  have hl := left_length l
  have e : l ++ r = h ++ (left l ++ r) := by rw [← List.append_assoc, ← h2]
  rw [left, e, show (h ++ (left l ++ r)).length / 64 = l.length / 64 + ((left l).length + r.length) / 64 by rw [List.length_append, List.length_append, h1]; omega]
  rw [show 64 * (l.length / 64 + ((left l).length + r.length) / 64) = h.length + 64 * (((left l).length + r.length) / 64) by omega, List.drop_append, List.drop_eq_nil_of_le (by omega), Nat.add_sub_cancel_left, List.nil_append]
/-- A text's sum, by what a hasher holds. -/
theorem sum_held (l : List B8) : sum l = (blocks ((tail (left l) l.length).length / 64) (held l) (tail (left l) l.length)).bytes := by
  obtain ⟨h, h1, h2, h3⟩ := held_left l
  have hl := left_length l
  have hn : noughts l.length = noughts (left l).length := by rw [hl, noughts, noughts, Nat.mod_mod]
  have e : pad l = h ++ tail (left l) l.length := by
    rw [pad, tail, tail, hn]
    conv => lhs; rw [show l ++ [0x80#8] = h ++ (left l ++ [0x80#8]) by rw [← List.append_assoc, ← h2]]
    simp only [List.append_assoc]
  rw [sum, e, h3, show (h ++ tail (left l) l.length).length / 64 = l.length / 64 + (tail (left l) l.length).length / 64 by rw [List.length_append, h1]; omega, blocks_append _ _ _ _ _ h1]
theorem ch_or (e f g : B32) : ((e &&& f) ||| ((e ^^^ 0xffffffff#32) &&& g)) = ch e f g := by
  have h1 : e ^^^ 0xffffffff#32 = ~~~e := by rw [show (0xffffffff#32) = BitVec.allOnes 32 from rfl, BitVec.xor_allOnes]
  rw [h1, ch]
  apply BitVec.eq_of_getLsbD_eq
  intro i hi
  simp only [BitVec.getLsbD_or, BitVec.getLsbD_and, BitVec.getLsbD_xor, BitVec.getLsbD_not, hi, decide_true, Bool.true_and]
  cases e.getLsbD i <;> cases f.getLsbD i <;> cases g.getLsbD i <;> rfl
theorem maj_or (a b c : B32) : ((a &&& b) ||| (a &&& c) ||| (b &&& c)) = maj a b c := by
  rw [maj]
  apply BitVec.eq_of_getLsbD_eq
  intro i hi
  simp only [BitVec.getLsbD_or, BitVec.getLsbD_and, BitVec.getLsbD_xor]
  cases a.getLsbD i <;> cases b.getLsbD i <;> cases c.getLsbD i <;> rfl
theorem lives0 : (sum []).head? = some 0xe3#8 := by decide +kernel
end Go.Proofs.YtnodcjjmodbjiaaDoor.Sha
