/- The sum's plain mathematics: words, rounds, blocks, padding. No program in sight. Turns of 32 bits: the program's and the reference's. Numbers as bytes and back: GetBig, Put, Reverse, Big; the reference's Put, Back, Get. Arrays of words in memory, whole: their cells, stores, loads. For any program. The schedule of a block: the program's. One block taken: the program's. Numbers as bytes: the program's Put, Reverse, Big. -/
import Derived.Test.YtbicafgmfgdckaaDoorMgWa
import Derived.Test.YtbicafgmfgdckaaDoorMgWb
import Derived.Laws.Rows
import Derived.Laws.Tables
import Derived.OwnWalk
namespace Go.Proofs.YtbicafgmfgdckaaDoor.Sha

abbrev B8 := BitVec 8
abbrev B32 := BitVec 32
def rotr (x : B32) (n : Nat) : B32 := x >>> n ||| x <<< (32 - n)
def K : List B32 := [
  0x428a2f98#32, 0x71374491#32, 0xb5c0fbcf#32, 0xe9b5dba5#32, 0x3956c25b#32, 0x59f111f1#32, 0x923f82a4#32, 0xab1c5ed5#32,
  0xd807aa98#32, 0x12835b01#32, 0x243185be#32, 0x550c7dc3#32, 0x72be5d74#32, 0x80deb1fe#32, 0x9bdc06a7#32, 0xc19bf174#32,
  0xe49b69c1#32, 0xefbe4786#32, 0x0fc19dc6#32, 0x240ca1cc#32, 0x2de92c6f#32, 0x4a7484aa#32, 0x5cb0a9dc#32, 0x76f988da#32,
  0x983e5152#32, 0xa831c66d#32, 0xb00327c8#32, 0xbf597fc7#32, 0xc6e00bf3#32, 0xd5a79147#32, 0x06ca6351#32, 0x14292967#32,
  0x27b70a85#32, 0x2e1b2138#32, 0x4d2c6dfc#32, 0x53380d13#32, 0x650a7354#32, 0x766a0abb#32, 0x81c2c92e#32, 0x92722c85#32,
  0xa2bfe8a1#32, 0xa81a664b#32, 0xc24b8b70#32, 0xc76c51a3#32, 0xd192e819#32, 0xd6990624#32, 0xf40e3585#32, 0x106aa070#32,
  0x19a4c116#32, 0x1e376c08#32, 0x2748774c#32, 0x34b0bcb5#32, 0x391c0cb3#32, 0x4ed8aa4a#32, 0x5b9cca4f#32, 0x682e6ff3#32,
  0x748f82ee#32, 0x78a5636f#32, 0x84c87814#32, 0x8cc70208#32, 0x90befffa#32, 0xa4506ceb#32, 0xbef9a3f7#32, 0xc67178f2#32]
@[ext] structure St where
  a : B32
  b : B32
  c : B32
  d : B32
  e : B32
  f : B32
  g : B32
  h : B32
def begin : St := ⟨0x6a09e667#32, 0xbb67ae85#32, 0x3c6ef372#32, 0xa54ff53a#32, 0x510e527f#32, 0x9b05688c#32, 0x1f83d9ab#32, 0x5be0cd19#32⟩
def zeroSt : St := ⟨0#32, 0#32, 0#32, 0#32, 0#32, 0#32, 0#32, 0#32⟩
def St.list (s : St) : List B32 := [s.a, s.b, s.c, s.d, s.e, s.f, s.g, s.h]
def St.at_ (s : St) (i : Nat) : B32 := s.list.getD i 0#32
def small0 (x : B32) : B32 := rotr x 7 ^^^ rotr x 18 ^^^ x >>> 3
def small1 (x : B32) : B32 := rotr x 17 ^^^ rotr x 19 ^^^ x >>> 10
def big0 (x : B32) : B32 := rotr x 2 ^^^ rotr x 13 ^^^ rotr x 22
def big1 (x : B32) : B32 := rotr x 6 ^^^ rotr x 11 ^^^ rotr x 25
def ch (e f g : B32) : B32 := (e &&& f) ^^^ (~~~e &&& g)
def maj (a b c : B32) : B32 := (a &&& b) ^^^ (a &&& c) ^^^ (b &&& c)
/-- The word behind these. -/
def next (l : List B32) (k : Nat) : B32 := l.getD k 0#32 + small0 (l.getD (k + 1) 0#32) + l.getD (k + 9) 0#32 + small1 (l.getD (k + 14) 0#32)
def grow (b : List B32) : Nat → List B32
  | 0 => b
  | k + 1 => grow b k ++ [next (grow b k) k]
def be4 (a b c d : B8) : B32 := (((a.setWidth 32 <<< 8 ||| b.setWidth 32) <<< 8 ||| c.setWidth 32) <<< 8) ||| d.setWidth 32
def word (l : List B8) (i : Nat) : B32 := be4 (byteAt l (4 * i)) (byteAt l (4 * i + 1)) (byteAt l (4 * i + 2)) (byteAt l (4 * i + 3))
def first (l : List B8) : List B32 := (List.range 16).map (word l)
def sched (l : List B8) : List B32 := grow (first l) 48
def step (v : St) (k w : B32) : St :=
  let t := v.h + big1 v.e + ch v.e v.f v.g + k + w
  ⟨t + (big0 v.a + maj v.a v.b v.c), v.a, v.b, v.c, v.d + t, v.e, v.f, v.g⟩
def rounds (v : St) (w : List B32) : Nat → St
  | 0 => v
  | n + 1 => step (rounds v w n) (K.getD n 0#32) (w.getD n 0#32)
def St.plus (s v : St) : St := ⟨s.a + v.a, s.b + v.b, s.c + v.c, s.d + v.d, s.e + v.e, s.f + v.f, s.g + v.g, s.h + v.h⟩
def take (s : St) (l : List B8) : St := s.plus (rounds s (sched l) 64)
/-- So many blocks. -/
def blocks : Nat → St → List B8 → St
  | 0, s, _ => s
  | n + 1, s, l => blocks n (take s (l.take 64)) (l.drop 64)
def be8 (n : Nat) : List B8 := [BitVec.ofNat 8 (n / 2 ^ 56), BitVec.ofNat 8 (n / 2 ^ 48), BitVec.ofNat 8 (n / 2 ^ 40), BitVec.ofNat 8 (n / 2 ^ 32), BitVec.ofNat 8 (n / 2 ^ 24), BitVec.ofNat 8 (n / 2 ^ 16), BitVec.ofNat 8 (n / 2 ^ 8), BitVec.ofNat 8 n]
def noughts (n : Nat) : Nat := (119 - n % 64) % 64
/-- What follows a text of n bytes, of which these are left. -/
def tail (rest : List B8) (n : Nat) : List B8 := rest ++ [0x80#8] ++ List.replicate (noughts rest.length) 0#8 ++ be8 (8 * n)
def pad (l : List B8) : List B8 := tail l l.length
def bytes4 (x : B32) : List B8 := [(x >>> 24).setWidth 8, (x >>> 16).setWidth 8, (x >>> 8).setWidth 8, x.setWidth 8]
def St.bytes (s : St) : List B8 := s.list.flatMap bytes4
def sum (l : List B8) : List B8 := (blocks ((pad l).length / 64) begin (pad l)).bytes

/-- What a hasher holds behind a text. -/
def held (l : List B8) : St := blocks (l.length / 64) begin l
def left (l : List B8) : List B8 := l.drop (64 * (l.length / 64))

theorem length_grow (b : List B32) : ∀ k, (grow b k).length = b.length + k
  | 0 => rfl
  | k + 1 => by rw [grow, List.length_append, length_grow b k, List.length_singleton]; omega
theorem length_first (l : List B8) : (first l).length = 16 := by simp [first]
theorem length_sched (l : List B8) : (sched l).length = 64 := by rw [sched, length_grow, length_first]
theorem grow_get (b : List B32) (i : Nat) : ∀ k, i < b.length → (grow b k).getD i 0#32 = b.getD i 0#32
  | 0, _ => rfl
  | k + 1, h => by
    have := length_grow b k
    rw [grow, List.getD_eq_getElem?_getD, List.getElem?_append_left (by omega), ← List.getD_eq_getElem?_getD, grow_get b i k h]
theorem grow_stable (b : List B32) (i k : Nat) (h : i < b.length + k) : ∀ m, (grow b (k + m)).getD i 0#32 = (grow b k).getD i 0#32
  | 0 => rfl
  | m + 1 => by
    have := length_grow b (k + m)
    rw [← Nat.add_assoc, grow, List.getD_eq_getElem?_getD, List.getElem?_append_left (by omega), ← List.getD_eq_getElem?_getD, grow_stable b i k h m]
theorem grow_next (b : List B32) (k : Nat) : (grow b (k + 1)).getD (b.length + k) 0#32 = next (grow b k) k := by
  have := length_grow b k
  rw [grow, List.getD_eq_getElem?_getD, List.getElem?_append_right (by omega), this, Nat.sub_self]; rfl
theorem sched_low (l : List B8) (i : Nat) (h : i < 16) : (sched l).getD i 0#32 = word l i := by
  rw [sched, grow_get _ _ _ (by rw [length_first]; exact h), List.getD_eq_getElem?_getD]
  simp [first, h]
theorem sched_get (l : List B8) (i k : Nat) (hk : k ≤ 48) (h : i < 16 + k) : (sched l).getD i 0#32 = (grow (first l) k).getD i 0#32 := by
  have := grow_stable (first l) i k (by rw [length_first]; exact h) (48 - k)
  rw [show k + (48 - k) = 48 by omega] at this
  exact this
theorem sched_high (l : List B8) (i : Nat) (h1 : 16 ≤ i) (h2 : i < 64) :
    (sched l).getD i 0#32 = (sched l).getD (i - 16) 0#32 + small0 ((sched l).getD (i - 15) 0#32) + (sched l).getD (i - 7) 0#32 + small1 ((sched l).getD (i - 2) 0#32) := by
  obtain ⟨k, rfl⟩ : ∃ k, i = 16 + k := ⟨i - 16, by omega⟩
  have e := grow_next (first l) k
  rw [length_first] at e
  rw [sched_get l (16 + k) (k + 1) (by omega) (by omega), e, next]
  rw [sched_get l (16 + k - 16) k (by omega) (by omega), sched_get l (16 + k - 15) k (by omega) (by omega), sched_get l (16 + k - 7) k (by omega) (by omega), sched_get l (16 + k - 2) k (by omega) (by omega)]
  rw [show 16 + k - 16 = k by omega, show 16 + k - 15 = k + 1 by omega, show 16 + k - 7 = k + 9 by omega, show 16 + k - 2 = k + 14 by omega]
theorem blocks_append : ∀ (m n : Nat) (s : St) (l r : List B8), l.length = 64 * m → blocks (m + n) s (l ++ r) = blocks n (blocks m s l) r
  | 0, n, s, l, r, h => by
    obtain rfl : l = [] := List.eq_nil_of_length_eq_zero (by omega)
    rw [Nat.zero_add]; rfl
  | m + 1, n, s, l, r, h => by
    rw [show m + 1 + n = (m + n) + 1 by omega, blocks, blocks, List.take_append_of_le_length (by omega), List.drop_append_of_le_length (by omega)]
    exact blocks_append m n _ _ r (by rw [List.length_drop]; omega)
theorem blocks_take : ∀ (m : Nat) (s : St) (l : List B8), 64 * m ≤ l.length → blocks m s l = blocks m s (l.take (64 * m))
  | 0, s, l, h => rfl
  | m + 1, s, l, h => by
    rw [blocks, blocks, List.take_take, Nat.min_eq_left (by omega), blocks_take m _ _ (by rw [List.length_drop]; omega), List.drop_take]
    congr 3 <;> omega
/-- Behind a text's whole blocks. -/
theorem held_left (l : List B8) : ∃ h : List B8, h.length = 64 * (l.length / 64) ∧ l = h ++ left l ∧ held l = blocks (l.length / 64) begin h := by
  refine ⟨l.take (64 * (l.length / 64)), ?_, ?_, ?_⟩
  · rw [List.length_take]; omega
  · rw [left, List.take_append_drop]
  · rw [held]; exact blocks_take _ _ _ (by omega)
theorem left_length (l : List B8) : (left l).length = l.length % 64 := by rw [left, List.length_drop]; omega
theorem held_append (l r : List B8) : held (l ++ r) = blocks (((left l).length + r.length) / 64) (held l) (left l ++ r) := by
  obtain ⟨h, h1, h2, h3⟩ := held_left l
  have hl := left_length l
  rw [held, h3]
  have e : l ++ r = h ++ (left l ++ r) := by rw [← List.append_assoc, ← h2]
  rw [e, show (h ++ (left l ++ r)).length / 64 = l.length / 64 + ((left l).length + r.length) / 64 by rw [List.length_append, List.length_append, h1]; omega]
  exact blocks_append _ _ _ _ _ h1
theorem left_append (l r : List B8) : left (l ++ r) = (left l ++ r).drop (64 * (((left l).length + r.length) / 64)) := by
  obtain ⟨h, h1, h2, _⟩ := held_left l
  have hl := left_length l
  have e : l ++ r = h ++ (left l ++ r) := by rw [← List.append_assoc, ← h2]
  rw [left, e, show (h ++ (left l ++ r)).length / 64 = l.length / 64 + ((left l).length + r.length) / 64 by rw [List.length_append, List.length_append, h1]; omega]
  rw [show 64 * (l.length / 64 + ((left l).length + r.length) / 64) = h.length + 64 * (((left l).length + r.length) / 64) by omega, List.drop_append, List.drop_eq_nil_of_le (by omega), Nat.add_sub_cancel_left, List.nil_append]
/-- A text's sum, by what a hasher holds. -/
theorem sum_held (l : List B8) : sum l = (blocks ((tail (left l) l.length).length / 64) (held l) (tail (left l) l.length)).bytes := by
  obtain ⟨h, h1, h2, h3⟩ := held_left l
  have hl := left_length l
  have hn : noughts l.length = noughts (left l).length := by rw [hl, noughts, noughts, Nat.mod_mod]
  have e : pad l = h ++ tail (left l) l.length := by
    rw [pad, tail, tail, hn]
    conv => lhs; rw [show l ++ [0x80#8] = h ++ (left l ++ [0x80#8]) by rw [← List.append_assoc, ← h2]]
    simp only [List.append_assoc]
  rw [sum, e, h3, show (h ++ tail (left l) l.length).length / 64 = l.length / 64 + (tail (left l) l.length).length / 64 by rw [List.length_append, h1]; omega, blocks_append _ _ _ _ _ h1]
theorem ch_or (e f g : B32) : ((e &&& f) ||| ((e ^^^ 0xffffffff#32) &&& g)) = ch e f g := by
  have h1 : e ^^^ 0xffffffff#32 = ~~~e := by rw [show (0xffffffff#32) = BitVec.allOnes 32 from rfl, BitVec.xor_allOnes]
  rw [h1, ch]
  apply BitVec.eq_of_getLsbD_eq
  intro i hi
  simp only [BitVec.getLsbD_or, BitVec.getLsbD_and, BitVec.getLsbD_xor, BitVec.getLsbD_not, hi, decide_true, Bool.true_and]
  cases e.getLsbD i <;> cases f.getLsbD i <;> cases g.getLsbD i <;> rfl
theorem maj_or (a b c : B32) : ((a &&& b) ||| (a &&& c) ||| (b &&& c)) = maj a b c := by
  rw [maj]
  apply BitVec.eq_of_getLsbD_eq
  intro i hi
  simp only [BitVec.getLsbD_or, BitVec.getLsbD_and, BitVec.getLsbD_xor]
  cases a.getLsbD i <;> cases b.getLsbD i <;> cases c.getLsbD i <;> rfl
theorem lives0 : (sum []).head? = some 0xe3#8 := by decide +kernel
end Go.Proofs.YtbicafgmfgdckaaDoor.Sha
namespace Go.Proofs.YtbicafgmfgdckaaDoor
open Go Go.RowKit

theorem and31 (N : Int) : bits .and .i64 N 31 = N % 32 := by
  have e2 : bits .and .i64 N 31 = IntKind.i64.wrap ((BitVec.ofInt 64 N) &&& (BitVec.ofInt 64 31)).toNat := rfl
  have e1 : ((BitVec.ofInt 64 N) &&& (BitVec.ofInt 64 31)).toNat = (N % 18446744073709551616).toNat % 32 := by
    rw [BitVec.toNat_and, BitVec.toNat_ofInt, show (BitVec.ofInt 64 31).toNat = 31 from rfl]
    exact Nat.and_two_pow_sub_one_eq_mod _ 5
  rw [e2, e1, IntWalk.i64_in _ (by omega)]
  omega
/-- A function that only reads, in an order of its own. -/
def Gives (w : World) (v : Value) (e : Ending) (w' : World) : Prop := ∃ n, e = .returned v ∧ w' = w.drewN n

theorem turn32_any (x : BitVec 32) (N : Int) (k : Nat) (hk : N % 32 = k) (w : World) : Calls Tryd.prog 89 #[U32 x, .int .i64 N] w (Gives w (U32 (x <<< k ||| x >>> (32 - k)))) := by
  have hb := and31 N
  have hk32 : k < 32 := by omega
  rw [hk] at hb
  clear hk
  have h0 : (0 : Int) ≤ 32 - (k : Int) := by omega
  have h3 : (k : Int) ≤ 32 := by omega
  have h1 : ((32 : Int) - (k : Int)).toNat = 32 - k := by omega
  have h2 : IntKind.i64.wrap (32 - (k : Int)) = 32 - (k : Int) := IntWalk.i64_in _ (by omega)
  go_enter Tryd.func89, Tryd.ntmps89
  go_wp2
  go_quiet (fail)
  go_wp2
  go_ret
  exact ⟨_, rfl, rfl⟩
theorem right_any (x : BitVec 32) (n : Nat) (h1 : 1 ≤ n) (h2 : n ≤ 31) (w : World) : Calls Tryd.prog 79 #[U32 x, .int .i64 n] w (Gives w (U32 (Sha.rotr x n))) := by
  have TU := turn32_any x (-(n : Int)) (32 - n) (by omega) w
  rw [show 32 - (32 - n) = n by omega, BitVec.or_comm] at TU
  have h3 : IntKind.i64.wrap (-(n : Int)) = -(n : Int) := IntWalk.i64_in _ (by omega)
  clear h1 h2
  go_enter Tryd.func79, Tryd.ntmps79
  go_wp2_with fail
  refine TU.mono ?_
  rintro e w' ⟨m, rfl, rfl⟩
  go_wp2
  go_ret
  exact ⟨_, rfl, rfl⟩
theorem turned_any (x : BitVec 32) (n : Nat) (h1 : 1 ≤ n) (h2 : n ≤ 31) (w : World) : Calls Tryd.prog 67 #[U32 x, .int .u64 n] w fun e w' => e = .returned (U32 (Sha.rotr x n)) ∧ w = w' := by
  have h0 : (0 : Int) ≤ 32 - (n : Int) := by omega
  have h3 : ((32 : Int) - (n : Int)).toNat = 32 - n := by omega
  have h5 : (n : Int) ≤ 32 := by omega
  have h4 : IntKind.u64.wrap (32 - (n : Int)) = 32 - (n : Int) := IntWalk.u64_in _ (by omega)
  go_enter Tryd.func67, Tryd.ntmps67
  go_wp2
  go_ret
  exact ⟨rfl, rfl⟩
end Go.Proofs.YtbicafgmfgdckaaDoor
namespace Go.Proofs.YtbicafgmfgdckaaDoor
open Go Go.RowKit

/-- The number that these bytes are, the highest first. -/
def bigOf (l : List (BitVec 8)) : BitVec 64 := l.foldl (fun x c => x <<< 8 ||| c.setWidth 64) 0#64
theorem bigOf_snoc (l : List (BitVec 8)) (k : Nat) (h : k < l.length) : bigOf (l.take (k + 1)) = bigOf (l.take k) <<< 8 ||| (byteAt l k).setWidth 64 := by
  unfold bigOf
  rw [take_snoc l k h, List.foldl_append]; rfl
def BigRel (l : List (BitVec 8)) (w : World) (x i : Value) (wr : World) : Prop := ∃ k : Nat, k ≤ l.length ∧ i = .int .i64 k ∧ x = U64 (bigOf (l.take k)) ∧ wr = w
theorem getBig_any (b off cap : Nat) (l : List (BitVec 8)) (w : World) (h1 : 1 ≤ l.length) (h8 : l.length ≤ 8) (hb : BytesAt w b off l) :
    Calls Tryd.prog 88 #[.slice (some ⟨b, off, none⟩) l.length cap] w fun e w' => e = .returned (.tuple #[U64 (bigOf l), .bool true]) ∧ w = w' := by
  have hl0 : (1 : Int) ≤ l.length := by omega
  have hl8 : (l.length : Int) ≤ 8 := by omega
  go_enter Tryd.func88, Tryd.ntmps88
  go_wp2
  go_loopw [4, 17] (fun x i wr => BigRel l w x i wr) (fun _ i _ => l.length - (intOf i).toNat)
  case atStart => exact ⟨0, Nat.zero_le _, rfl, rfl, rfl⟩
  case round =>
    obtain ⟨k, hk, rfl, rfl, hw⟩ := hrel
    by_cases hlt : k < l.length
    · have hc : wr.cell? ⟨b, off + k, none⟩ = some (U8 (byteAt l k)) := hw ▸ hb k hlt
      have HW := Lib.hid hw
      have HS := Lib.hid (bigOf_snoc l k hlt)
      clear hw hb
      generalize byteAt l k = c at *
      go_wp2
      go_roundw
      case rel => exact ⟨k + 1, by omega, by go_num, by rw [HS.out], HW.out⟩
      case measure => simp [intOf]; omega
    · obtain rfl : k = l.length := by omega
      have HW := Lib.hid hw
      clear hw hb
      go_wp2
      go_ret2
      exact ⟨by rw [List.take_length]; rfl, HW.out.symm⟩
end Go.Proofs.YtbicafgmfgdckaaDoor
namespace Go.Proofs.YtbicafgmfgdckaaDoor
open Go Go.RowKit

abbrev Words := List (BitVec 32)
def arr (f : Words) : Array Value := (f.map U32).toArray
def wordAt (f : Words) (i : Nat) : BitVec 32 := f.getD i 0#32
theorem arr_size (f : Words) : (arr f).size = f.length := by simp [arr]
theorem arr_get (f : Words) (i : Nat) (h : i < f.length) : (arr f)[i]? = some (U32 (wordAt f i)) := by
  simp [arr, wordAt, List.getD_eq_getElem?_getD, List.getElem?_eq_getElem h]
theorem arr_set (f : Words) (i : Nat) (x : BitVec 32) : (arr f).setIfInBounds i (U32 x) = arr (f.set i x) := by
  simp [arr, List.map_set]
theorem arr_one (f : Words) : (arr f).all (·.oneCell') = true := by
  rw [Array.all_eq_true_iff_forall_mem]
  intro v hv
  simp only [arr, List.mem_toArray, List.mem_map] at hv
  obtain ⟨x, _, rfl⟩ := hv
  rfl
theorem words_ext {f g : Words} (hl : f.length = g.length) (h : ∀ i, i < f.length → wordAt f i = wordAt g i) : f = g := by
  apply List.ext_getElem hl
  intro i h1 h2
  have := h i h1
  simpa [wordAt, List.getD_eq_getElem?_getD, List.getElem?_eq_getElem h1, List.getElem?_eq_getElem h2] using this
theorem wordAt_set (f : Words) (i j : Nat) (x : BitVec 32) (h : i < f.length) : wordAt (f.set i x) j = if j = i then x else wordAt f j := by
  unfold wordAt
  rw [List.getD_eq_getElem?_getD, List.getElem?_set, List.getD_eq_getElem?_getD]
  by_cases e : i = j
  · subst e; simp [h]
  · rw [if_neg e, if_neg (fun e2 => e e2.symm)]
/-- An array of words that fills a block. -/
def ArrAt (w : World) (g : Nat) (t : TypeId) (f : Words) : Prop := w.heap[g]? = some (.cells (arr f) t (0, 0))
section
variable {w w' : World} {g : Nat} {t : TypeId} {f : Words}
theorem ArrAt.cell (h : ArrAt w g t f) {i : Nat} (hi : i < f.length) : w.cell? ⟨g, i, none⟩ = some (U32 (wordAt f i)) := by
  have e := arr_get f i hi
  unfold ArrAt at h
  unfold World.cell?
  rw [h]; exact e
theorem ArrAt.thawed (h : ArrAt w g t f) (o : Nat) : w.frozen? ⟨g, o, none⟩ = false := by
  unfold ArrAt at h
  simp [World.frozen?, h]
theorem ArrAt.lt (h : ArrAt w g t f) : g < w.heap.size := heap_lt h
theorem ArrAt.set (h : ArrAt w g t f) (i : Nat) (x : BitVec 32) : ArrAt (w.setCell ⟨g, i, none⟩ (U32 x)) g t (f.set i x) := by
  have e := setCell_eq_setRow w g i (arr f) t (0, 0) (U32 x) h
  unfold ArrAt
  rw [e, arr_set]
  exact setRow_heap w g (arr f) _ t _ h
theorem ArrAt.drewN (h : ArrAt w g t f) (n : Nat) : ArrAt (w.drewN n) g t f := h
theorem ArrAt.touch {F : Nat → Prop} (h : ArrAt w g t f) (k : Touch F w w') (hn : ¬ F g) : ArrAt w' g t f := by
  have hl := h.lt
  unfold ArrAt at h ⊢
  rw [k.block g hl hn]; exact h
theorem ArrAt.below (h : ArrAt w g t f) (hb : Below w.heap.size w w') : ArrAt w' g t f := (h.touch (F := fun _ => False) (.of_below hb) fun e => e)
theorem ArrAt.row (h : ArrAt w g t f) (f' : Words) : ArrAt (w.setRow g (arr f')) g t f' := setRow_heap w g (arr f) _ t _ h
theorem ArrAt.new (w : World) (t : TypeId) (f : Words) : ArrAt (w.alloc (.cells (arr f) t)) w.heap.size t f := heap_alloc_new w _
end
theorem Touch.setRow {F : Nat → Prop} (w : World) (g : Nat) (c : Array Value) (hg : F g) : Touch F w (w.setRow g c) :=
  ⟨rfl, rfl, rfl, by simp [World.setRow], fun k _ hk => by
    unfold World.setRow
    simp only
    rw [Array.getElem?_modify, if_neg]
    intro e; subst e; exact hk hg⟩
end Go.Proofs.YtbicafgmfgdckaaDoor
namespace Go.Proofs.YtbicafgmfgdckaaDoor
open Go Go.RowKit

theorem wide_shl (x : BitVec 64) : (x <<< 8).setWidth 32 = x.setWidth 32 <<< 8 := by
  apply BitVec.eq_of_getLsbD_eq
  intro i hi
  simp only [BitVec.getLsbD_setWidth, BitVec.getLsbD_shiftLeft, hi, decide_true, Bool.true_and, show i < 64 by omega]
  by_cases h : i < 8
  · simp [h]
  · simp [h, show i - 8 < 32 by omega]
theorem wide_byte (c : BitVec 8) : (c.setWidth 64).setWidth 32 = c.setWidth 32 := by
  apply BitVec.eq_of_getLsbD_eq
  intro i hi
  simp only [BitVec.getLsbD_setWidth, hi, decide_true, Bool.true_and, show i < 64 by omega]
theorem big4 (l : List (BitVec 8)) (h : l.length = 4) : (bigOf l).setWidth 32 = Sha.be4 (byteAt l 0) (byteAt l 1) (byteAt l 2) (byteAt l 3) := by
  match l, h with
  | [a, b, c, d], _ =>
    simp only [bigOf, List.foldl_cons, List.foldl_nil, BitVec.setWidth_or, wide_shl, wide_byte, Sha.be4, byteAt, List.getD_eq_getElem?_getD]
    simp
theorem zero_words : ∃ z : Words, (∀ w, Sem.run Tryd.prog (zeroValue 108) w = .ok (.agg (arr z)) w) ∧ z.length = 64 := ⟨List.replicate 64 0#32, fun w => by kernel_rfl, by simp⟩
def SchedRel1 (z : Words) (w : World) (l : List (BitVec 8)) (i : Value) (wr : World) : Prop :=
  ∃ (k : Nat) (f : Words), k ≤ 16 ∧ i = .int .i64 k ∧ f.length = 64 ∧ (∀ j, j < k → wordAt f j = Sha.word l j) ∧ ArrAt wr w.heap.size 108 z ∧ ArrAt wr (w.heap.size + 1) 108 f ∧ Below w.heap.size w wr
def SchedRel2 (z : Words) (w : World) (S : Words) (i : Value) (wr : World) : Prop :=
  ∃ (k : Nat) (f : Words), 16 ≤ k ∧ k ≤ 64 ∧ i = .int .i64 k ∧ f.length = 64 ∧ (∀ j, j < k → wordAt f j = wordAt S j) ∧ ArrAt wr w.heap.size 108 z ∧ ArrAt wr (w.heap.size + 1) 108 f ∧ Below w.heap.size w wr
theorem SchedRel2.step {z S f : Words} {w wr W : World} {k j : Nat} {v : Value} {i : Value} (h0 : 16 ≤ k) (hk : k < 64) (hf : f.length = 64) (hw : ∀ j, j < k → wordAt f j = wordAt S j) (hr : ArrAt wr w.heap.size 108 z) (hv : ArrAt wr (w.heap.size + 1) 108 f) (hb : Below w.heap.size w wr)
    (t : Touch (fun _ => False) wr W) (e : v = U32 (wordAt S k)) (hi : i = .int .i64 (k + 1 : Nat)) : SchedRel2 z w S i ((W.setCell ⟨w.heap.size + 1, k, none⟩ v).drewN j) := by
  subst e
  have hs := hb.size
  have hv1 := hv.touch t fun e => e
  have t2 : Touch (fun q => q = w.heap.size + 1) wr ((W.setCell ⟨w.heap.size + 1, k, none⟩ (U32 (wordAt S k))).drewN j) := ((t.mono fun _ e => e.elim).trans (Touch.set (F := fun q => q = w.heap.size + 1) W (w.heap.size + 1) k _ rfl)).drewN j
  refine ⟨k + 1, f.set k (wordAt S k), by omega, by omega, hi, by simp [hf], fun q hq => ?_, hr.touch t2 (by omega), (hv1.set k _).drewN j, hb.trans (t2.below (fun q e => by omega) hs)⟩
  rw [wordAt_set _ _ _ _ (by omega)]
  split
  · rename_i e; subst e; rfl
  · exact hw q (by omega)
set_option maxHeartbeats 800000 in
theorem sched_any (b off cap : Nat) (l : List (BitVec 8)) (w : World) (hl : l.length = 64) (hcap : 64 ≤ cap) (hcm : cap ≤ 9223372036854775807) (hb : BytesAt w b off l) :
    Calls Tryd.prog 78 #[.slice (some ⟨b, off, none⟩) 64 cap] w fun e w' => e = .returned (.agg (arr (Sha.sched l))) ∧ Below w.heap.size w w' := by
  obtain ⟨z, hz, hzl⟩ := zero_words
  have hS := Lib.hid (Sha.length_sched l)
  have hlow := Lib.hid (Sha.sched_low l)
  have hhigh := Lib.hid (Sha.sched_high l)
  generalize Sha.sched l = S at *
  go_enter Tryd.func78, Tryd.ntmps78
  go_wp2
  have r0 : ArrAt ((w.alloc (.cells (arr z) 108)).alloc (.cells (arr z) 108)) w.heap.size 108 z := (ArrAt.new w _ _).touch (F := fun _ => False) ((Touch.refl _ _).alloc _) fun e => e
  have v0 : ArrAt ((w.alloc (.cells (arr z) 108)).alloc (.cells (arr z) 108)) (w.heap.size + 1) 108 z := by
    have := ArrAt.new (w.alloc (.cells (arr z) 108)) 108 z
    simpa using this
  have hb0 : Below w.heap.size w ((w.alloc (.cells (arr z) 108)).alloc (.cells (arr z) 108)) := ((Below.refl _ _).alloc (Nat.le_refl _) _).alloc (by simp) _
  clear hz
  generalize (w.alloc (.cells (arr z) 108)).alloc (.cells (arr z) 108) = w1 at *
  go_loopw [4, 5, 6, 12, 15] (fun _ _ _ i _ wr => SchedRel1 z w l i wr) (fun _ _ _ i _ _ => 16 - (intOf i).toNat)
  case atStart => exact ⟨0, _, by omega, rfl, hzl, fun j h => by omega, r0, v0, hb0⟩
  case round =>
    clear r0 v0 hb0
    obtain ⟨k, f, hk, rfl, hf, hw, hr, hv, hbw⟩ := hrel
    by_cases hlt : k < 16
    · have hs := fun w => run_slice_both (P := Tryd.prog) byteSlice w (some ⟨b, off, none⟩) 64 cap .i64 .i64 (4 * k) (4 * k + 4) (4 * (k : Int)) (4 * (k : Int) + 4) (by omega) (by omega) (by omega) (by omega)
      have hda : dropAddr (some ⟨b, off, none⟩) cap (4 * k) = some ⟨b, off + 4 * k, none⟩ := by
        unfold dropAddr
        rw [if_neg (by omega), Option.map_some, Addr.add_lit]
      rw [hda, show 4 * k + 4 - 4 * k = 4 by omega] at hs
      have hm4 : ((l.drop (4 * k)).take 4).length = 4 := by rw [List.length_take, List.length_drop]; omega
      have hbm : BytesAt wr b (off + 4 * k) ((l.drop (4 * k)).take 4) := ((hb.mono (Keeps.below hbw ⟨b, ·, none⟩)).drop (4 * k)).take 4
      have GB := getBig_any b (off + 4 * k) (cap - 4 * k) _ wr (by omega) (by omega) hbm
      have hbig := big4 _ hm4
      have hbyte : ∀ j, j < 4 → byteAt ((l.drop (4 * k)).take 4) j = byteAt l (4 * k + j) := fun j hj => by rw [byteAt_take hj, byteAt_drop]
      rw [hm4] at GB
      rw [hbyte 0 (by omega), hbyte 1 (by omega), hbyte 2 (by omega), hbyte 3 (by omega)] at hbig
      have hbig2 : (bigOf ((l.drop (4 * k)).take 4)).setWidth 32 = Sha.word l k := hbig
      have HB := Lib.hid hbig2
      have hcell := hv.cell (i := k) (by omega)
      have hth := hv.thawed k
      clear hbig hbig2 hbyte hm4 hbm hda
      generalize bigOf ((l.drop (4 * k)).take 4) = x at *
      have HV := Lib.hid hv
      have HR := Lib.hid hr
      have HW := Lib.hid hw
      have HBW := Lib.hid hbw
      clear hv hr hw hbw hb
      go_wp2_with fail
      refine GB.mono ?_
      rintro e w2 ⟨rfl, rfl⟩
      clear GB hs
      go_wp2
      go_roundw
      case rel =>
        have t : Touch (fun q => q = w.heap.size + 1) wr (wr.setCell ⟨w.heap.size + 1, k, none⟩ (U32 (x.setWidth 32))) := Touch.set wr (w.heap.size + 1) k (U32 (x.setWidth 32)) rfl
        refine ⟨k + 1, f.set k (x.setWidth 32), by omega, by go_num, by simp [hf], fun j hj => ?_, HR.out.touch t (by omega), HV.out.set k _, HBW.out.trans (t.below (fun q e => by omega) HBW.out.size)⟩
        rw [wordAt_set _ _ _ _ (by omega)]
        split
        · rename_i e; subst e; exact HB.out
        · exact HW.out j (by omega)
      case measure => simp [intOf]; omega
    · obtain rfl : k = 16 := by omega
      rw [show (((16 : Nat) : Int)) = 16 from rfl]
      have rel2 : SchedRel2 z w S (.int .i64 16) wr := ⟨16, f, by omega, by omega, rfl, hf, fun j hj => by rw [hw j hj]; exact (hlow.out j hj).symm, hr, hv, hbw⟩
      clear hw hr hv hbw hb
      go_wp2
      go_loopw [7] (fun i wr => SchedRel2 z w S i wr) (fun i _ => 64 - (intOf i).toNat)
      case atStart => exact rel2
      case round =>
        clear rel2
        obtain ⟨k, f, hk0, hk, rfl, hf, hw, hr, hv, hbw⟩ := hrel
        by_cases hlt : k < 64
        · obtain ⟨n15, e15⟩ : ∃ n : Nat, (k : Int) - 15 = n := ⟨k - 15, by omega⟩
          obtain ⟨n2, e2⟩ : ∃ n : Nat, (k : Int) - 2 = n := ⟨k - 2, by omega⟩
          obtain ⟨n16, e16⟩ : ∃ n : Nat, (k : Int) - 16 = n := ⟨k - 16, by omega⟩
          obtain ⟨n7, e7⟩ : ∃ n : Nat, (k : Int) - 7 = n := ⟨k - 7, by omega⟩
          have c15 := hv.cell (i := n15) (by omega)
          have c2 := hv.cell (i := n2) (by omega)
          have c16 := hv.cell (i := n16) (by omega)
          have c7 := hv.cell (i := n7) (by omega)
          have ck := hv.cell (i := k) (by omega)
          have hth := hv.thawed k
          have l15 : n15 < 64 := by omega
          have l2 : n2 < 64 := by omega
          have l16 : n16 < 64 := by omega
          have l7 : n7 < 64 := by omega
          go_wp2
          go_quiet (fail)
          have hx15 := hw n15 (by omega)
          have hx2 := hw n2 (by omega)
          have hx16 := hw n16 (by omega)
          have hx7 := hw n7 (by omega)
          have hnext := hhigh.out k hk0 hlt
          have hnext2 : wordAt S k = wordAt S n16 + Sha.small0 (wordAt S n15) + wordAt S n7 + Sha.small1 (wordAt S n2) := by
            rw [show n16 = k - 16 by omega, show n15 = k - 15 by omega, show n7 = k - 7 by omega, show n2 = k - 2 by omega]; exact hnext
          rw [← hx15, ← hx2, ← hx16, ← hx7] at hnext2
          have HN := Lib.hid hnext2
          have HV := Lib.hid hv
          have HR := Lib.hid hr
          have HW := Lib.hid hw
          have HBW := Lib.hid hbw
          clear hx15 hx2 hx16 hx7 hnext hnext2 hv hr hw hbw
          generalize wordAt f n15 = x15 at *
          generalize wordAt f n2 = x2 at *
          generalize wordAt f n16 = x16 at *
          generalize wordAt f n7 = x7 at *
          have R7 : ∀ v, Calls Tryd.prog 79 #[U32 x15, .int .i64 7] v (Gives v (U32 (Sha.rotr x15 7))) := fun v => right_any x15 7 (by decide) (by decide) v
          have R18 : ∀ v, Calls Tryd.prog 79 #[U32 x15, .int .i64 18] v (Gives v (U32 (Sha.rotr x15 18))) := fun v => right_any x15 18 (by decide) (by decide) v
          have R17 : ∀ v, Calls Tryd.prog 79 #[U32 x2, .int .i64 17] v (Gives v (U32 (Sha.rotr x2 17))) := fun v => right_any x2 17 (by decide) (by decide) v
          have R19 : ∀ v, Calls Tryd.prog 79 #[U32 x2, .int .i64 19] v (Gives v (U32 (Sha.rotr x2 19))) := fun v => right_any x2 19 (by decide) (by decide) v
          go_wp2_with fail
          refine (R7 _).mono ?_
          rintro e w' ⟨m1, rfl, rfl⟩
          go_wp2_with fail
          refine (R18 _).mono ?_
          rintro e w' ⟨m2, rfl, rfl⟩
          go_wp2_with fail
          refine (R17 _).mono ?_
          rintro e w' ⟨m3, rfl, rfl⟩
          go_wp2_with fail
          refine (R19 _).mono ?_
          rintro e w' ⟨m4, rfl, rfl⟩
          go_wp2_with fail
          refine wp_region_mid 15 (by kernel_rfl) (by kernel_rfl) rfl ?_
          simp only [List.take_succ_cons, List.take_zero, List.drop_zero]
          repeat (first | go_big_quiet_step (fail) | quiet_step (fail))
          refine wpQuiet_nil ?_
          intro j
          go_wp2
          refine midPost_normal (rest_quiet (by kernel_rfl) ?_)
          simp only [List.drop_succ_cons, List.drop_nil]
          refine wpQuiet_nil ?_
          intro j'
          clear R7 R18 R17 R19 c15 c2 c16 c7 ck hth e15 e2 e16 e7
          go_wp2
          go_roundw
          case rel =>
            refine SchedRel2.step hk0 hlt hf HW.out HR.out HV.out HBW.out ?_ (by rw [HN.out]; rfl) (by go_num)
            repeat (first | exact Touch.refl _ _ | refine Touch.drewN ?_ _)
          case measure => simp [intOf]; omega
        · obtain rfl : k = 64 := by omega
          have e0 : f = S := words_ext (by rw [hf, hS.out]) fun i hi => hw i (by omega)
          subst e0
          have hi : (Tryd.prog.info? 108).map (·.size) = some (arr f).size := by rw [arr_size, hf]; kernel_rfl
          have hzf : (arr z).size = (arr f).size := by rw [arr_size, arr_size, hzl, hf]
          have hone := arr_one f
          have HB := Lib.hid hbw
          have hr2 := hr.row f
          have tR : Touch (fun q => q = w.heap.size) wr (wr.setRow w.heap.size (arr f)) := Touch.setRow wr _ _ rfl
          have hr1 : wr.heap[w.heap.size]? = some (.cells (arr z) 108 (0, 0)) := hr
          have hv1 : wr.heap[w.heap.size + 1]? = some (.cells (arr f) 108 (0, 0)) := hv
          clear hr hv hbw hw
          go_wp2_with (first | (refine wpList_load_row rfl 108 _ rfl (w.heap.size + 1) rfl _ (arr f) _ _ hv1 Tryd.underlying108 rfl hi ?_) | (refine wpList_store_row rfl 108 _ _ rfl w.heap.size (arr f) rfl rfl _ (arr z) hr1 hi hzf hone ?_))
          refine bodyPost_ret (results_cell_row rfl _ _ w.heap.size _ (arr f) _ _ rfl hr2 Tryd.underlying108 rfl hi) rfl ?_
          exact ⟨rfl, HB.out.trans (tR.below (fun q e => by omega) HB.out.size)⟩
end Go.Proofs.YtbicafgmfgdckaaDoor
namespace Go.Proofs.YtbicafgmfgdckaaDoor
open Go Go.RowKit

/-- The rounds' words, in the program's variable. -/
def KTab (w : World) : Prop := ∀ i, i < 64 → w.cell? ⟨0, i, none⟩ = some (U32 (wordAt Sha.K i))
theorem KTab.keeps {w w' : World} (h : KTab w) (k : Keeps w w') : KTab w' := fun i hi => k _ _ (h i hi)
theorem zero_state : ∃ z : Words, (∀ w, Sem.run Tryd.prog (zeroValue 103) w = .ok (.agg (arr z)) w) ∧ z.length = 8 := ⟨List.replicate 8 0#32, fun w => by kernel_rfl, by simp⟩
theorem right_quiet (x : BitVec 32) (N : Int) (h1 : 1 ≤ N) (h2 : N ≤ 31) (w : World) (j : Nat) : Calls Tryd.prog 79 #[U32 x, .int .i64 N] (w.drewN j) fun e w'' => e = .returned (U32 (Sha.rotr x N.toNat)) ∧ ∃ m, w'' = w.drewN m := by
  obtain ⟨n, rfl⟩ : ∃ n : Nat, N = n := ⟨N.toNat, by omega⟩
  exact (right_any x n (by omega) (by omega) _).mono fun _ _ ⟨m, he, hw⟩ => ⟨he, j + m, by rw [hw, World.drewN_drewN]⟩
theorem at_list {P : Program} {ops : Array Oper} {Q : Exit → Act → World → Prop} {l : List Oper} {a : Act} {w : World} (h : wpList P ops Q l a w) : wpList P ops Q l a w := h
/-- An array literal, what it comes to said by the caller. -/
theorem wpList_built {P : Program} {ops : Array Oper} {rest : List Oper} {o : Oper} {a : Act} {w : World} {Q : Exit → Act → World → Prop} (hg : o.guard = none) (t : TypeId) (parts : Array (Nat × Operand)) (ho : o.op = .build t parts)
    (cells : Array Value) (hf : P.built t (parts.map fun (i, x) => (i, a.eval x)).toList = some cells)
    (h : wpList P ops Q rest (a.put o.dst (.agg cells)) w) : wpList P ops Q (o :: rest) a w := by
  refine wpList_build hg t parts ho (by rw [hf]; rfl) ?_
  rw [hf]
  exact h
theorem stop_build {P : Program} {ops : Array Oper} {Q : Exit → Act → World → Prop} {l : List Oper} {a : Act} {w : World} {d t q1 pos after g parts} (h : wpList P ops Q (⟨d, .build t parts, q1, pos, after, g⟩ :: l) a w) : wpList P ops Q (⟨d, .build t parts, q1, pos, after, g⟩ :: l) a w := h
theorem stop_store {P : Program} {ops : Array Oper} {Q : Exit → Act → World → Prop} {l : List Oper} {a : Act} {w : World} {d t q1 pos after g x y} (h : wpList P ops Q (⟨d, .store t x y, q1, pos, after, g⟩ :: l) a w) : wpList P ops Q (⟨d, .store t x y, q1, pos, after, g⟩ :: l) a w := h
theorem built8 (a b c d e f g i : BitVec 32) : Program.built Tryd.prog 103 [(0, U32 a), (1, U32 b), (2, U32 c), (3, U32 d), (4, U32 e), (5, U32 f), (6, U32 g), (7, U32 i)] = some (arr [a, b, c, d, e, f, g, i]) := by
  kernel_rfl
def TakeRel (z8 : Words) (s : Sha.St) (S : Words) (w : World) (g2 g3 : Nat) (i : Value) (wr : World) : Prop :=
  ∃ (k : Nat) (v : Sha.St), k ≤ 64 ∧ i = .int .i64 k ∧ v = Sha.rounds s S k ∧ ArrAt wr w.heap.size 103 s.list ∧ ArrAt wr (w.heap.size + 1) 103 z8 ∧ ArrAt wr g2 108 S ∧ ArrAt wr g3 103 v.list ∧ Below w.heap.size w wr
theorem step_list (v : Sha.St) (xk xs T U : BitVec 32) (hT : v.h + (Sha.rotr v.e 6 ^^^ Sha.rotr v.e 11 ^^^ Sha.rotr v.e 25) + (v.e &&& v.f ^^^ ~~~v.e &&& v.g) + xk + xs = T)
    (hU : (Sha.rotr v.a 2 ^^^ Sha.rotr v.a 13 ^^^ Sha.rotr v.a 22) + (v.a &&& v.b ^^^ v.a &&& v.c ^^^ v.b &&& v.c) = U) : (Sha.step v xk xs).list = [T + U, v.a, v.b, v.c, v.d + T, v.e, v.f, v.g] := by
  subst hT hU; rfl
theorem plus_at (s v : Sha.St) (j : Nat) (h : j < 8) : wordAt (s.plus v).list j = wordAt s.list j + wordAt v.list j := by
  match j, h with
  | 0, _ => rfl
  | 1, _ => rfl
  | 2, _ => rfl
  | 3, _ => rfl
  | 4, _ => rfl
  | 5, _ => rfl
  | 6, _ => rfl
  | 7, _ => rfl
  | n + 8, h => omega
def AddRel (z8 A V : Words) (w : World) (g3 : Nat) (i : Value) (wr : World) : Prop :=
  ∃ (k : Nat) (f : Words), k ≤ 8 ∧ i = .int .i64 k ∧ f.length = 8 ∧ (∀ j, j < k → wordAt f j = wordAt A j + wordAt V j) ∧ (∀ j, k ≤ j → j < 8 → wordAt f j = wordAt A j) ∧ ArrAt wr w.heap.size 103 f ∧ ArrAt wr (w.heap.size + 1) 103 z8 ∧ ArrAt wr g3 103 V ∧ Below w.heap.size w wr
theorem AddRel.step {z8 A V f : Words} {w wr W : World} {g3 k j : Nat} {i v : Value} (hk : k < 8) (hg : w.heap.size + 1 < g3) (hf : f.length = 8) (h1 : ∀ j, j < k → wordAt f j = wordAt A j + wordAt V j) (h2 : ∀ j, k ≤ j → j < 8 → wordAt f j = wordAt A j)
    (d0 : ArrAt wr w.heap.size 103 f) (d1 : ArrAt wr (w.heap.size + 1) 103 z8) (d3 : ArrAt wr g3 103 V) (hb : Below w.heap.size w wr)
    (t : Touch (fun _ => False) wr W) (e : v = U32 (wordAt f k + wordAt V k)) (hi : i = .int .i64 (k + 1 : Nat)) : AddRel z8 A V w g3 i ((W.setCell ⟨w.heap.size, k, none⟩ v).drewN j) := by
  subst e
  have hs := hb.size
  have hv1 := d0.touch t fun e => e
  have t2 : Touch (fun q => q = w.heap.size) wr ((W.setCell ⟨w.heap.size, k, none⟩ (U32 (wordAt f k + wordAt V k))).drewN j) := ((t.mono fun _ e => e.elim).trans (Touch.set (F := fun q => q = w.heap.size) W w.heap.size k _ rfl)).drewN j
  refine ⟨k + 1, f.set k (wordAt f k + wordAt V k), by omega, hi, by simp [hf], fun q hq => ?_, fun q hq hq8 => ?_, (hv1.set k _).drewN j, d1.touch t2 (by omega), d3.touch t2 (by omega), hb.trans (t2.below (fun q e => by omega) hs)⟩
  · rw [wordAt_set _ _ _ _ (by omega)]
    split
    · rename_i e; subst e; rw [h2 q (by omega) (by omega)]
    · exact h1 q (by omega)
  · rw [wordAt_set _ _ _ _ (by omega), if_neg (by omega)]
    exact h2 q (by omega) hq8
set_option maxRecDepth 40000 in
set_option maxHeartbeats 1000000 in
theorem take_any (s : Sha.St) (b off cap : Nat) (l : List (BitVec 8)) (w : World) (hl : l.length = 64) (hcap : 64 ≤ cap) (hcm : cap ≤ 9223372036854775807) (hb : BytesAt w b off l) (hk : KTab w) :
    Calls Tryd.prog 63 #[.agg (arr s.list), .slice (some ⟨b, off, none⟩) 64 cap] w fun e w' => e = .returned (.agg (arr (Sha.take s l).list)) ∧ Below w.heap.size w w' := by
  obtain ⟨z, hz, hzl⟩ := zero_words
  obtain ⟨z8, hz8, hz8l⟩ := zero_state
  have SC := fun v (h : Keeps w v) => sched_any b off cap l v hl hcap hcm (hb.mono (h ⟨b, ·, none⟩))
  have hsl : s.list.length = 8 := rfl
  unfold Sha.take
  have HSl := Lib.hid (Sha.length_sched l)
  generalize Sha.sched l = S at *
  generalize hss : s.list = sl at *
  have HSS := Lib.hid hss
  clear hss
  go_enter Tryd.func63, Tryd.ntmps63
  go_wp2_with fail
  have a0 : ArrAt ((w.alloc (.cells (arr sl) 103)).alloc (.cells (arr z8) 103)) w.heap.size 103 sl := (ArrAt.new w _ _).touch (F := fun _ => False) ((Touch.refl _ _).alloc _) fun e => e
  have a1 : ArrAt ((w.alloc (.cells (arr sl) 103)).alloc (.cells (arr z8) 103)) (w.heap.size + 1) 103 z8 := by
    have := ArrAt.new (w.alloc (.cells (arr sl) 103)) 103 z8
    simpa using this
  have hb0 : Below w.heap.size w ((w.alloc (.cells (arr sl) 103)).alloc (.cells (arr z8) 103)) := ((Below.refl _ _).alloc (Nat.le_refl _) _).alloc (by simp) _
  generalize (w.alloc (.cells (arr sl) 103)).alloc (.cells (arr z8) 103) = w1 at *
  refine (SC _ (Keeps.below hb0)).mono ?_
  rintro e w2 ⟨rfl, hb2⟩
  have a0 := a0.below hb2
  have a1 := a1.below hb2
  have hs2 := a1.lt
  have hb2 := hb0.trans (hb2.mono hb0.size)
  clear hb0 SC
  have b2 : (w2.alloc (.cells (arr z) 108)).heap[w2.heap.size]? = some (.cells (arr z) 108 (0, 0)) := ArrAt.new w2 108 z
  have hi : (Tryd.prog.info? 108).map (·.size) = some (arr S).size := by rw [arr_size, HSl.out]; kernel_rfl
  have hzf : (arr z).size = (arr S).size := by rw [arr_size, arr_size, hzl, HSl.out]
  have hone := arr_one S
  have t3 : Touch (fun q => q = w2.heap.size) w2 ((w2.alloc (.cells (arr z) 108)).setRow w2.heap.size (arr S)) := ((Touch.refl _ _).alloc _).trans (Touch.setRow _ _ _ rfl)
  have b3 : ArrAt ((w2.alloc (.cells (arr z) 108)).setRow w2.heap.size (arr S)) w2.heap.size 108 S := (ArrAt.new w2 108 z).row S
  have a03 := a0.touch t3 (by omega)
  have a13 := a1.touch t3 (by omega)
  have hb3 := hb2.trans (t3.below (fun q e => by omega) hb2.size)
  clear t3
  have hi8 : (Tryd.prog.info? 103).map (·.size) = some (arr sl).size := by rw [arr_size, hsl]; kernel_rfl
  have hzf8 : (arr z8).size = (arr sl).size := by rw [arr_size, arr_size, hz8l, hsl]
  have hone8 := arr_one sl
  go_wp2_with (first
    | (refine wpList_store_row rfl 108 _ _ rfl w2.heap.size (arr S) rfl rfl _ (arr z) b2 hi hzf hone ?_
       generalize (w2.alloc (.cells (arr z) 108)).setRow w2.heap.size (arr S) = w3 at *
       have h03 : w3.heap[w.heap.size]? = some (.cells (arr sl) 103 (0, 0)) := a03
       have b4 : (w3.alloc (.cells (arr z8) 103)).heap[w3.heap.size]? = some (.cells (arr z8) 103 (0, 0)) := ArrAt.new w3 103 z8)
    | (refine wpList_load_row rfl 103 _ rfl w.heap.size rfl _ (arr sl) _ _ h03 Tryd.underlying103 rfl hi8 ?_)
    | (refine wpList_store_row rfl 103 _ _ rfl w3.heap.size (arr sl) rfl rfl _ (arr z8) b4 hi8 hzf8 hone8 ?_))
  have t5 : Touch (fun q => q = w3.heap.size) w3 ((w3.alloc (.cells (arr z8) 103)).setRow w3.heap.size (arr sl)) := ((Touch.refl _ _).alloc _).trans (Touch.setRow _ _ _ rfl)
  have d3 : ArrAt ((w3.alloc (.cells (arr z8) 103)).setRow w3.heap.size (arr sl)) w3.heap.size 103 sl := (ArrAt.new w3 103 z8).row sl
  have h2 := b3.lt
  have d0 := a03.touch t5 (by omega)
  have d1 := a13.touch t5 (by omega)
  have d2 := b3.touch t5 (by omega)
  have hb5 := hb3.trans (t5.below (fun q e => by omega) hb3.size)
  have hg2 : w.heap.size + 1 < w2.heap.size := hs2
  clear t5 b2 b3 b4 h03 a03 a13 a0 a1 hb3 hb2
  generalize (w3.alloc (.cells (arr z8) 103)).setRow w3.heap.size (arr sl) = w5 at *
  generalize w2.heap.size = g2 at *
  generalize w3.heap.size = g3 at *
  rw [← HSS.out] at d0 d3
  go_loopw [16] (fun i wr => TakeRel z8 s S w g2 g3 i wr) (fun i _ => 64 - (intOf i).toNat)
  case atStart => exact ⟨0, s, by omega, rfl, rfl, d0, d1, d2, d3, hb5⟩
  case round =>
    clear d0 d1 d2 d3 hb5
    obtain ⟨k, v, hk64, rfl, hv, d0, d1, d2, d3, hbw⟩ := hrel
    by_cases hlt : k < 64
    · have e0 : wr.cell? ⟨g3, 0, none⟩ = some (U32 v.a) := d3.cell (i := 0) (show 0 < 8 by decide)
      have e1 : wr.cell? ⟨g3, 1, none⟩ = some (U32 v.b) := d3.cell (i := 1) (show 1 < 8 by decide)
      have e2 : wr.cell? ⟨g3, 2, none⟩ = some (U32 v.c) := d3.cell (i := 2) (show 2 < 8 by decide)
      have e3 : wr.cell? ⟨g3, 3, none⟩ = some (U32 v.d) := d3.cell (i := 3) (show 3 < 8 by decide)
      have e4 : wr.cell? ⟨g3, 4, none⟩ = some (U32 v.e) := d3.cell (i := 4) (show 4 < 8 by decide)
      have e5 : wr.cell? ⟨g3, 5, none⟩ = some (U32 v.f) := d3.cell (i := 5) (show 5 < 8 by decide)
      have e6 : wr.cell? ⟨g3, 6, none⟩ = some (U32 v.g) := d3.cell (i := 6) (show 6 < 8 by decide)
      have e7 : wr.cell? ⟨g3, 7, none⟩ = some (U32 v.h) := d3.cell (i := 7) (show 7 < 8 by decide)
      have ek := hk.keeps (Keeps.below hbw) k hlt
      have es := d2.cell (i := k) (by rw [HSl.out]; exact hlt)
      have hn : Sha.rounds s S (k + 1) = Sha.step v (wordAt Sha.K k) (wordAt S k) := by rw [hv]; rfl
      have HN := Lib.hid hn
      have H0 := Lib.hid d0
      have H1 := Lib.hid d1
      have H2 := Lib.hid d2
      have H3 := Lib.hid d3
      have HK := Lib.hid hk
      clear hv hn d0 d1 d2 d3 hk
      generalize wordAt Sha.K k = xk at *
      generalize wordAt S k = xs at *
      go_wp2
      go_quiet (exact right_quiet _ _ (by decide) (by decide) _ _)
      have f0 : (wr.drewN nq).cell? ⟨g3, 0, none⟩ = some (U32 v.a) := e0
      have f1 : (wr.drewN nq).cell? ⟨g3, 1, none⟩ = some (U32 v.b) := e1
      have f2 : (wr.drewN nq).cell? ⟨g3, 2, none⟩ = some (U32 v.c) := e2
      have f3 : (wr.drewN nq).cell? ⟨g3, 3, none⟩ = some (U32 v.d) := e3
      have f4 : (wr.drewN nq).cell? ⟨g3, 4, none⟩ = some (U32 v.e) := e4
      have f5 : (wr.drewN nq).cell? ⟨g3, 5, none⟩ = some (U32 v.f) := e5
      have f6 : (wr.drewN nq).cell? ⟨g3, 6, none⟩ = some (U32 v.g) := e6
      have f7 : (wr.drewN nq).cell? ⟨g3, 7, none⟩ = some (U32 v.h) := e7
      have G0 : Hid (ArrAt (wr.drewN nq) w.heap.size 103 s.list) := Lib.hid H0.out
      have G1 : Hid (ArrAt (wr.drewN nq) (w.heap.size + 1) 103 z8) := Lib.hid H1.out
      have G2 : Hid (ArrAt (wr.drewN nq) g2 108 S) := Lib.hid H2.out
      have G3 : Hid (ArrAt (wr.drewN nq) g3 103 v.list) := Lib.hid H3.out
      have GB : Below w.heap.size w (wr.drewN nq) := below_drewN hbw nq
      clear e0 e1 e2 e3 e4 e5 e6 e7 ek es H0 H1 H2 H3 hbw
      generalize wr.drewN nq = w6 at *
      go_wp2
      go_quiet (exact right_quiet _ _ (by decide) (by decide) _ _)
      have h3 : w6.heap[g3]? = some (.cells (arr v.list) 103 (0, 0)) := G3.out
      generalize hT : v.h + (Sha.rotr v.e 6 ^^^ Sha.rotr v.e 11 ^^^ Sha.rotr v.e 25) + (v.e &&& v.f ^^^ ~~~v.e &&& v.g) + xk + xs = T
      generalize hU : (Sha.rotr v.a 2 ^^^ Sha.rotr v.a 13 ^^^ Sha.rotr v.a 22) + (v.a &&& v.b ^^^ v.a &&& v.c ^^^ v.b &&& v.c) = U
      have HT := Lib.hid hT
      have HU := Lib.hid hU
      clear hT hU
      obtain ⟨L, hL⟩ : ∃ L : Words, L = [T + U, v.a, v.b, v.c, v.d + T, v.e, v.f, v.g] := ⟨_, rfl⟩
      have hbu := built8 (T + U) v.a v.b v.c (v.d + T) v.e v.f v.g
      rw [← hL] at hbu
      have hLl : L.length = 8 := by rw [hL]; rfl
      have HL := Lib.hid hL
      clear hL
      have hsz : (arr v.list).size = (arr L).size := by rw [arr_size, arr_size, hLl]; rfl
      have hiv : (Tryd.prog.info? 103).map (·.size) = some (arr L).size := by rw [arr_size, hLl]; kernel_rfl
      have hov := arr_one L
      go_wp2_with (with_reducible refine stop_build ?roundEnd)
      refine wpList_built rfl 103 _ rfl (arr L) ?hb0 ?nx1
      case hb0 => go_simp
      clear hbu f0 f1 f2 f3 f4 f5 f6 f7
      go_wp2_with (refine wpList_store_row rfl 103 _ _ rfl g3 (arr L) rfl rfl _ (arr v.list) h3 hiv hsz hov ?_)
      go_roundw
      case rel =>
        have t : Touch (fun q => q = g3) w6 ((w6.drewN nq).setRow g3 (arr L)) := ((Touch.refl _ _).drewN nq).trans (Touch.setRow _ _ _ rfl)
        have hs := GB.size
        have e := step_list v xk xs T U HT.out HU.out
        rw [← HL.out] at e
        refine ⟨k + 1, Sha.step v xk xs, by omega, by go_num, HN.out.symm, G0.out.touch t (by omega), G1.out.touch t (by omega), G2.out.touch t (by omega), ?_, GB.trans (t.below (fun q e => by omega) hs)⟩
        rw [e]
        exact (G3.out.drewN nq).row L
      case measure => simp [intOf]; omega
    · obtain rfl : k = 64 := by omega
      rw [show (((64 : Nat) : Int)) = 64 from rfl]
      have hg2' : w.heap.size + 1 < g3 := Nat.lt_trans hg2 h2
      subst hv
      have hP := Lib.hid (plus_at s (Sha.rounds s S 64))
      have hPl : (s.plus (Sha.rounds s S 64)).list.length = 8 := rfl
      have hVl : (Sha.rounds s S 64).list.length = 8 := rfl
      have hAl : s.list.length = 8 := rfl
      clear HSS d2 hk hb hlt
      generalize hPP : (s.plus (Sha.rounds s S 64)).list = PP at *
      have HPP := Lib.hid hPP
      clear hPP
      generalize (Sha.rounds s S 64).list = V at *
      generalize s.list = A at *
      have rel2 : AddRel z8 A V w g3 (.int .i64 0) wr := ⟨0, A, by omega, rfl, hAl, fun j h => by omega, fun j _ _ => rfl, d0, d1, d3, hbw⟩
      clear d0 d1 d3 hbw
      go_wp2
      go_loopw [96] (fun i wr => AddRel z8 A V w g3 i wr) (fun i _ => 8 - (intOf i).toNat)
      case atStart => exact rel2
      case round =>
        clear rel2
        obtain ⟨k, f, hk, rfl, hf, h1, h2, d0, d1, d3, hbw⟩ := hrel
        by_cases hlt : k < 8
        · have c1 := d0.cell (i := k) (by omega)
          have c2 := d3.cell (i := k) (by omega)
          have hth := d0.thawed k
          have H1 := Lib.hid h1
          have H2 := Lib.hid h2
          have D0 := Lib.hid d0
          have D1 := Lib.hid d1
          have D3 := Lib.hid d3
          have HBW := Lib.hid hbw
          clear h1 h2 d0 d1 d3 hbw
          obtain ⟨ya, hya⟩ : ∃ y, wordAt f k = y := ⟨_, rfl⟩
          obtain ⟨yv, hyv⟩ : ∃ y, wordAt V k = y := ⟨_, rfl⟩
          rw [hya] at c1
          rw [hyv] at c2
          have HYA := Lib.hid hya
          have HYV := Lib.hid hyv
          clear hya hyv
          go_wp2_with fail
          refine wp_region_mid 8 (by kernel_rfl) (by kernel_rfl) rfl ?_
          simp only [List.take_succ_cons, List.take_zero, List.drop_zero]
          repeat (first | go_big_quiet_step (fail) | quiet_step (fail))
          refine wpQuiet_nil ?_
          intro j
          go_wp2
          refine midPost_normal (rest_quiet (by kernel_rfl) ?_)
          simp only [List.drop_succ_cons, List.drop_nil]
          refine wpQuiet_nil ?_
          intro j'
          clear c1 c2 hth
          go_wp2
          go_roundw
          case rel =>
            refine AddRel.step hlt hg2' hf H1.out H2.out D0.out D1.out D3.out HBW.out ?_ (by rw [HYA.out, HYV.out]) (by go_num)
            repeat (first | exact Touch.refl _ _ | refine Touch.drewN ?_ _)
          case measure => simp [intOf]; omega
        · obtain rfl : k = 8 := by omega
          have e0 : f = PP := words_ext (by rw [hf, hPl]) fun i hi => by rw [h1 i (by omega), hP.out i (by omega)]
          subst e0
          have hi9 : (Tryd.prog.info? 103).map (·.size) = some (arr f).size := by rw [arr_size, hf]; kernel_rfl
          have hzf9 : (arr z8).size = (arr f).size := by rw [arr_size, arr_size, hz8l, hf]
          have hone9 := arr_one f
          have HB := Lib.hid hbw
          have hr2 := d1.row f
          have tR : Touch (fun q => q = w.heap.size + 1) wr (wr.setRow (w.heap.size + 1) (arr f)) := Touch.setRow wr _ _ rfl
          have hv1 : wr.heap[w.heap.size]? = some (.cells (arr f) 103 (0, 0)) := d0
          have hr1 : wr.heap[w.heap.size + 1]? = some (.cells (arr z8) 103 (0, 0)) := d1
          clear d0 d1 d3 hbw h1 h2
          go_wp2_with (first | (refine wpList_load_row rfl 103 _ rfl w.heap.size rfl _ (arr f) _ _ hv1 Tryd.underlying103 rfl hi9 ?_) | (refine wpList_store_row rfl 103 _ _ rfl (w.heap.size + 1) (arr f) rfl rfl _ (arr z8) hr1 hi9 hzf9 hone9 ?_))
          refine bodyPost_ret (results_cell_row rfl _ _ (w.heap.size + 1) _ (arr f) _ _ rfl hr2 Tryd.underlying103 rfl hi9) rfl ?_
          exact ⟨by rw [HPP.out], HB.out.trans (tR.below (fun q e => by omega) HB.out.size)⟩
end Go.Proofs.YtbicafgmfgdckaaDoor
namespace Go.Proofs.YtbicafgmfgdckaaDoor
open Go Go.RowKit

/-- The lowest first. -/
def leB (x : BitVec 64) (n : Nat) : List (BitVec 8) := (List.range n).map fun i => (x >>> (8 * i)).setWidth 8
theorem length_leB (x : BitVec 64) (n : Nat) : (leB x n).length = n := by simp [leB]
theorem leB_at (x : BitVec 64) (n i : Nat) (h : i < n) : byteAt (leB x n) i = (x >>> (8 * i)).setWidth 8 := by
  simp [byteAt, leB, List.getD_eq_getElem?_getD, h]
theorem byteAt_set (l : List (BitVec 8)) (i j : Nat) (x : BitVec 8) (h : i < l.length) : byteAt (l.set i x) j = if j = i then x else byteAt l j := by
  unfold byteAt
  rw [List.getD_eq_getElem?_getD, List.getElem?_set, List.getD_eq_getElem?_getD]
  by_cases e : i = j
  · subst e; simp [h]
  · rw [if_neg e, if_neg (fun e2 => e e2.symm)]
/-- 'make([]byte, n)' -/
theorem wpList_make_bytes {P : Program} (w : World) {ops : Array Oper} {rest : List Oper} {o : Oper} {a : Act} {Q : Exit → Act → World → Prop} {t e : TypeId} (T : ByteSlice P t e)
    (hg : o.guard = none) (l c : Operand) (hop : o.op = Op.makeSlice t l c) (n : Nat) (hl : a.eval l = .int .i64 n) (hc : a.eval c = .int .i64 n) (hn : n ≤ 1048576)
    (hK : ∀ w', RowAt w' w.heap.size e w.heap.size n n (List.replicate n 0#8) → Below w.heap.size w w' → wpList P ops Q rest (a.put o.dst (.slice (some ⟨w.heap.size, 0, none⟩) n n)) w') :
    wpList P ops Q (o :: rest) a w := by
  obtain ⟨i, hi, hz0, hz1, hz2⟩ := info_parts T.info
  refine wpList_make_full w hg l c t hop w.heap.size e i (.int .u8 0) 1 T.slice hi hz0 hz1 .i64 .i64 n n n hl hc rfl rfl (by rw [hz2]; omega) (by unfold maxLen; omega) (Nat.le_refl _) ?_
  intro w' h1 h2
  refine hK w' ⟨?_, by simp⟩ ⟨h2.os, h2.tape, h2.output, h2.size, fun k hk => h2.block k hk (by simp)⟩
  rw [show (Value.int IntKind.u8 0).cells = #[.int .u8 0] from rfl, toList_madeCells_one, Nat.mul_one] at h1
  rw [List.map_replicate]
  exact h1
def PutRel (x : BitVec 64) (n B : Nat) (w : World) (i : Value) (wr : World) : Prop :=
  ∃ (k : Nat) (l : List (BitVec 8)), k ≤ n ∧ i = .int .i64 k ∧ RowAt wr B 5 B n n l ∧ (∀ j, j < k → byteAt l j = (x >>> (8 * j)).setWidth 8) ∧ Below B w wr
theorem put_any (x : BitVec 64) (n : Nat) (h1 : 1 ≤ n) (h8 : n ≤ 8) (w : World) : Calls Tryd.prog 80 #[U64 x, .int .i64 n] w fun e w' =>
    e = .returned (.slice (some ⟨w.heap.size, 0, none⟩) n n) ∧ RowAt w' w.heap.size 5 w.heap.size n n (leB x n) ∧ Below w.heap.size w w' := by
  have hb1 : (1 : Int) ≤ n := by omega
  have hb2 : (n : Int) ≤ 8 := by omega
  go_enter Tryd.func80, Tryd.ntmps80
  go_wp2_with (at_make; refine wpList_make_bytes w byteSlice rfl _ _ rfl n rfl rfl (by omega) ?_; intro w1 hr hbl)
  have hB : w.heap.size ≤ w.heap.size := Nat.le_refl _
  generalize hbe : w.heap.size = B at *
  have HBE := Lib.hid hbe
  clear hbe
  go_loopw [17] (fun i wr => PutRel x n B w i wr) (fun i _ => n - (intOf i).toNat)
  case atStart => exact ⟨0, _, by omega, rfl, hr, fun j h => by omega, hbl⟩
  case round =>
    clear hr hbl
    obtain ⟨k, l, hk, rfl, hr, hj, hbw⟩ := hrel
    by_cases hlt : k < n
    · have hth := hr.thawed k
      have hc := hr.cell k hlt
      have HR := Lib.hid hr
      have HJ := Lib.hid hj
      have HB := Lib.hid hbw
      clear hr hj hbw
      have h0 : (0 : Int) ≤ 8 * (k : Int) := by omega
      have ht : (8 * (k : Int)).toNat = 8 * k := by omega
      go_wp2
      go_roundw
      case rel =>
        have t : Touch (fun q => q = B) wr (wr.setCell ⟨B, k, none⟩ (U8 ((x >>> (8 * k)).setWidth 8))) := Touch.set wr B k _ rfl
        refine ⟨k + 1, l.set k ((x >>> (8 * k)).setWidth 8), by omega, by go_num, HR.out.set k _, fun j hj => ?_, HB.out.trans (t.below (fun q e => by omega) (HBE.out ▸ HB.out.size))⟩
        rw [byteAt_set _ _ _ _ (by rw [HR.out.2]; exact hlt)]
        split
        · rename_i e; subst e; rfl
        · exact HJ.out j (by omega)
      case measure => simp [intOf]; omega
    · obtain rfl : k = n := by omega
      have e : l = leB x k := list_ext (by rw [hr.2, length_leB]) fun j h => by rw [hr.2] at h; rw [hj j h, leB_at _ _ _ h]
      subst e
      have HR := Lib.hid hr
      have HB := Lib.hid hbw
      clear hr hj hbw
      go_wp2
      go_ret
      rw [HBE.out]
      exact ⟨rfl, HR.out, HB.out⟩
/-- A row is turned about from its ends: what stands where behind k steps. -/
def RevRel (l : List (BitVec 8)) (B g cap : Nat) (w : World) (i j : Value) (wr : World) : Prop :=
  ∃ (k : Nat) (f : List (BitVec 8)), 2 * k ≤ l.length ∧ i = .int .i64 k ∧ j = .int .i64 ((l.length : Int) - 1 - k) ∧ RowAt wr B 5 g cap l.length f ∧
    (∀ q, q < l.length → byteAt f q = if q < k ∨ l.length - k ≤ q then byteAt l (l.length - 1 - q) else byteAt l q) ∧ Touch (fun q => q = g) w wr
theorem reverse_any (l : List (BitVec 8)) (B g cap : Nat) (w : World) (h0 : 1 ≤ l.length) (hl : l.length ≤ 1048576) (hr : RowAt w B 5 g cap l.length l) :
    Calls Tryd.prog 81 #[.slice (some ⟨g, 0, none⟩) l.length cap] w fun e w' => e = .returned (.tuple #[]) ∧ RowAt w' B 5 g cap l.length l.reverse ∧ Touch (fun q => q = g) w w' := by
  have hl0 : (1 : Int) ≤ l.length := by omega
  have hl8 : (l.length : Int) ≤ 1048576 := by omega
  go_enter Tryd.func81, Tryd.ntmps81
  go_wp2
  go_loopw [2, 3] (fun i j wr => RevRel l B g cap w i j wr) (fun i _ _ => l.length - (intOf i).toNat)
  case atStart => exact ⟨0, l, by omega, rfl, by simp, hr, fun q h => by rw [if_neg (by omega)], Touch.refl _ _⟩
  case round =>
    clear hr
    obtain ⟨k, f, hk, rfl, rfl, hr, hq, ht⟩ := hrel
    by_cases hlt : 2 * k + 1 < l.length
    · obtain ⟨m, hm⟩ : ∃ m : Nat, (l.length : Int) - 1 - k = m := ⟨l.length - 1 - k, by omega⟩
      have hm2 : m = l.length - 1 - k := by omega
      rw [hm]
      have c1 := hr.cell k (by omega)
      have c2 := hr.cell m (by omega)
      have f1 := hr.thawed k
      have f2 := hr.thawed m
      have hkm : k ≠ m := by omega
      have hq1 := hq k (by omega)
      have hq2 := hq m (by omega)
      rw [if_neg (by omega)] at hq1 hq2
      rw [hq1] at c1
      rw [hq2] at c2
      have HR := Lib.hid hr
      have HQ := Lib.hid hq
      have HT := Lib.hid ht
      have H1 := Lib.hid hq1
      have H2 := Lib.hid hq2
      clear hr hq ht hq1 hq2
      have hlen : m < l.length := by omega
      have hlen1 : k < l.length := by omega
      have hkm2 : (k : Int) < m := by omega
      have HM := Lib.hid hm2
      clear hm hm2
      generalize e1 : byteAt l k = xk at *
      generalize e2 : byteAt l m = xm at *
      have E1 := Lib.hid e1
      have E2 := Lib.hid e2
      clear e1 e2
      go_wp2_with fail
      go_region
      clear c1 c2 f1 f2
      go_wp2
      go_roundw
      case rel =>
        have hml := HM.out
        have hfl : f.length = l.length := HR.out.2
        have t : Touch (fun q => q = g) wr ((wr.setCell ⟨g, k, none⟩ (U8 xm)).setCell ⟨g, m, none⟩ (U8 xk)).drew := by
          have t1 : Touch (fun q => q = g) wr (wr.setCell ⟨g, k, none⟩ (U8 xm)) := Touch.set wr g k _ rfl
          have t2 : Touch (fun q => q = g) (wr.setCell ⟨g, k, none⟩ (U8 xm)) ((wr.setCell ⟨g, k, none⟩ (U8 xm)).setCell ⟨g, m, none⟩ (U8 xk)) := Touch.set _ g m _ rfl
          exact (t1.trans t2).drewN 1
        have hr2 : RowAt ((wr.setCell ⟨g, k, none⟩ (U8 xm)).setCell ⟨g, m, none⟩ (U8 xk)).drew B 5 g cap l.length ((f.set k xm).set m xk) := ((HR.out.set k xm).set m xk).drewN 1
        refine ⟨k + 1, (f.set k xm).set m xk, by omega, by go_num, by simp only [Value.int.injEq, true_and]; omega, hr2, fun q hq => ?_, HT.out.trans t⟩
        rw [byteAt_set _ _ _ _ (by simp; omega), byteAt_set _ _ _ _ (by omega)]
        by_cases hqm : q = m
        · rw [if_pos hqm, if_pos (by omega), ← E1.out]; congr 1; omega
        · rw [if_neg hqm]
          by_cases hqk : q = k
          · rw [if_pos hqk, if_pos (by omega), ← E2.out]; congr 1; omega
          · rw [if_neg hqk, HQ.out q hq]
            by_cases hq3 : q < k ∨ l.length - k ≤ q
            · rw [if_pos hq3, if_pos (by omega)]
            · rw [if_neg hq3, if_neg (by omega)]
      case measure => simp [intOf]; omega
    · have e : f = l.reverse := list_ext (by rw [hr.2, List.length_reverse]) fun j h => by
        have h2 : j < l.length := by rw [hr.2] at h; exact h
        have h3 : byteAt l.reverse j = byteAt l (l.length - 1 - j) := by
          rw [byteAt_lt (by simpa using h2), List.getElem_reverse, byteAt_lt (by omega)]
        rw [hq j h2, h3]
        by_cases hq3 : j < k ∨ l.length - k ≤ j
        · rw [if_pos hq3]
        · rw [if_neg hq3]; congr 1; omega
      subst e
      have HR := Lib.hid hr
      have HT := Lib.hid ht
      clear hr hq ht
      go_wp2
      exact bodyPost_end (results_none rfl _ _ _) rfl ⟨rfl, HR.out, HT.out⟩
/-- The highest first. -/
def beB (x : BitVec 64) (n : Nat) : List (BitVec 8) := (leB x n).reverse
theorem length_beB (x : BitVec 64) (n : Nat) : (beB x n).length = n := by rw [beB, List.length_reverse, length_leB]
theorem big_any (x : BitVec 64) (n : Nat) (h1 : 1 ≤ n) (h8 : n ≤ 8) (w : World) : Calls Tryd.prog 65 #[U64 x, .int .i64 n] w fun e w' =>
    e = .returned (.slice (some ⟨w.heap.size, 0, none⟩) n n) ∧ RowAt w' w.heap.size 5 w.heap.size n n (beB x n) ∧ Below w.heap.size w w' := by
  have PU := put_any x n h1 h8 w
  have hl := length_leB x n
  have RV : ∀ w', RowAt w' w.heap.size 5 w.heap.size n n (leB x n) → Calls Tryd.prog 81 #[.slice (some ⟨w.heap.size, 0, none⟩) n n] w' fun e w'' => e = .returned (.tuple #[]) ∧ RowAt w'' w.heap.size 5 w.heap.size n n (beB x n) ∧ Touch (fun q => q = w.heap.size) w' w'' := by
    intro w' hr
    have := reverse_any (leB x n) w.heap.size w.heap.size n w' (by omega) (by omega) (by rw [hl]; exact hr)
    rw [hl] at this
    exact this
  go_enter Tryd.func65, Tryd.ntmps65
  go_wp2_with fail
  refine PU.mono ?_
  rintro e w1 ⟨rfl, hr, hb⟩
  go_wp2_with fail
  refine (RV _ hr).mono ?_
  rintro e w2 ⟨rfl, hr2, ht⟩
  go_wp2
  go_ret
  exact ⟨rfl, hr2, hb.trans (ht.below (fun q e => by omega) hb.size)⟩
end Go.Proofs.YtbicafgmfgdckaaDoor
