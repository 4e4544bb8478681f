/- Where a chunk ends, in the document's answer; its first chunk. The first chunk, in the document's answer. The chunks of a stream, in the document's answer. A cutter in memory; what its methods give. A cutter's put: what it gives. -/
import Derived.Test.YtbicafgmfgdckaaGreatDoorMgAj
import Derived.Test.YtbicafgmfgdckaaGreatDoorMgAb
import Derived.StillTailTactics
import Derived.Outline
namespace Go.Proofs.YtbicafgmfgdckaaGreatDoor
open Go Go.RowKit

def shV (h : CutMath.Sh) : Value := shapeV h.L h.M h.K h.W h.s
theorem quiet_same {P : Program} {f : FuncId} {args : Array Value} {v : Value} {w : World} {n : Nat} (h : Calls P f args (w.drewN n) fun e w' => e = .returned v /\ w.drewN n = w') :
  Calls P f args (w.drewN n) fun e w'' => e = .returned v /\ ∃ m, w'' = w.drewN m := h.mono fun _ _ ⟨he, hw⟩ => ⟨he, n, hw.symm⟩
theorem u32_rem (t : TypeId) (x y : BitVec 32) (hy : y ≠ 0#32) : binOp .rem t (U32 x) (U32 y) = pure (U32 (x % y)) := by
 have e : (x % y).toNat = x.toNat % y.toNat := BitVec.toNat_umod
 have h : binOp .rem t (U32 x) (U32 y) = pure (.int .u32 ((x.toNat : Int).tmod y.toNat)) := by
  have hm : ¬ (y.toNat : Int) = 0 := by
   intro e; apply hy; apply BitVec.eq_of_toNat_eq; simpa using e
  show Op.intDiv .rem .u32 x.toNat (y.toNat : Int) = _
  unfold Op.intDiv; rw [if_neg hm]
 rw [h, show ((x.toNat : Int).tmod y.toNat) = ((x.toNat % y.toNat : Nat) : Int) from rfl, <- e]; rfl
def two (i : Nat) : BitVec 32 := 1#32 <<< i
theorem two_succ (i : Nat) : two i * 2#32 = two (i + 1) := by
 unfold two
 apply BitVec.eq_of_toNat_eq
 rw [BitVec.toNat_mul, BitVec.toNat_shiftLeft, BitVec.toNat_shiftLeft, Nat.shiftLeft_eq, Nat.shiftLeft_eq, Nat.pow_succ]
 show 1 * 2 ^ i % 2 ^ 32 * 2 % 2 ^ 32 = 1 * (2 ^ i * 2) % 2 ^ 32
 omega
theorem two_nat (i : Nat) (h : i <= 20) : (two i).toNat = 2 ^ i := by
 have hp : 2 ^ i <= 2 ^ 20 := Nat.pow_le_pow_right (by decide) h
 unfold two
 rw [BitVec.toNat_shiftLeft, Nat.shiftLeft_eq]
 show 1 * 2 ^ i % 2 ^ 32 = 2 ^ i
 rw [Nat.one_mul, Nat.mod_eq_of_lt (by omega)]
theorem two_ne (i : Nat) (h : i <= 20) : two i ≠ 0#32 := by
 intro e
 have h1 := two_nat i h
 have hp : 0 < 2 ^ i := Nat.pow_pos (by decide)
 rw [e] at h1
 simp at h1
 omega
theorem rem_two (x : BitVec 32) (k : Nat) (h : k <= 20) : (x % two k == 0#32) = decide (x &&& CutMath.maskOf k = 0#32) := by
 rw [Bool.eq_iff_iff, beq_iff_eq, decide_eq_true_eq, CutMath.mask_mod x k h, <- BitVec.toNat_inj, BitVec.toNat_umod, two_nat k h]
 exact Iff.rfl
theorem ends_most {h : CutMath.Sh} {l : List (BitVec 8)} (e : l.length = h.M) : CutMath.ends h l = true := by unfold CutMath.ends; rw [if_pos e]
theorem ends_short {h : CutMath.Sh} {l : List (BitVec 8)} (e : l.length ≠ h.M) (e2 : l.length < h.L) : CutMath.ends h l = false := by unfold CutMath.ends; rw [if_neg e, if_pos e2]
theorem ends_sum {h : CutMath.Sh} {l : List (BitVec 8)} (e : l.length ≠ h.M) (e2 : ¬ l.length < h.L) : CutMath.ends h l = decide (RollMath.sum h.s (lastN h.W l) &&& CutMath.maskOf h.K = 0#32) := by unfold CutMath.ends; rw [if_neg e, if_neg e2]; rfl

def EndsRel (K : Nat) (t i : Value) : Prop := ∃ k : Nat, k <= K /\ i = .int .i64 k /\ t = U32 (two k)
set_option maxHeartbeats 400000 in
theorem refEnds_any (h : CutMath.Sh) (g : h.Good) (a : Option Addr) (cap : Nat) (l : List (BitVec 8)) (w : World) (hr : Reads w a cap l) :
  Calls Tryz.prog 46 #[shV h, .slice a l.length cap] w fun e w' => e = .returned (.bool (CutMath.ends h l)) /\ Below w.heap.size w w' := by
 have k1 := hr.fits
 have k2 := hr.room
 unfold shV shapeV
 by_cases hM : l.length = h.M
 ·rw [ends_most hM, hM]
  clear hr hM
  go_enter Tryz.func46, Tryz.ntmps46
  go_wp2
  go_ret
  exact ⟨rfl, (Below.refl _ _).alloc (Nat.le_refl _) _⟩
 ·have hM' : ((l.length : Int) == (h.M : Int)) = false := by rw [beq_eq_false_iff_ne]; omega
  by_cases hL : l.length < h.L
  ·rw [ends_short hM hL]
   clear hr hM
   go_enter Tryz.func46, Tryz.ntmps46
   go_wp2
   go_ret
   exact ⟨rfl, (Below.refl _ _).alloc (Nat.le_refl _) _⟩
  ·rw [ends_sum hM hL]
   have g3 := g.wl
   have g4 := g.k
   have HR := Lib.hid (rem_two (RollMath.sum h.s (lastN h.W l)) h.K g4)
   have hd := hr.drop (l.length - h.W) (by omega)
   have hn : (lastN h.W l).length = l.length - (l.length - h.W) := by unfold lastN; rw [List.length_drop]
   have hwr : IntKind.i64.wrap ((l.length : Int) - (h.W : Int)) = (l.length : Int) - h.W := IntWalk.i64_in _ (by omega)
   have RS := fun v (kv : Keeps w v) => refRollSum_any h.s (dropAddr a cap (l.length - h.W)) (cap - (l.length - h.W)) (lastN h.W l) v (hd.keeps kv)
   rw [hn] at RS
   have sl := fun w => run_slice_from byteSlice w a l.length cap .i64 (l.length - h.W) ((l.length : Int) - h.W) (by omega) (by omega)
   have rm := fun (t : TypeId) (x : BitVec 32) => u32_rem t x (two h.K) (two_ne h.K g4)
   generalize RollMath.sum h.s (lastN h.W l) = X at *
   clear hr hM hd hn g
   obtain ⟨L, M, K, W, s⟩ := h
   simp only at *
   generalize dropAddr a cap (l.length - W) = A at *
   go_enter Tryz.func46, Tryz.ntmps46
   go_wp2
   go_loop [5, 6] (fun t i => EndsRel K t i) (fun _ i => K - (intOf i).toNat)
   case atStart => exact ⟨0, Nat.zero_le _, rfl, rfl⟩
   case round =>
    obtain ⟨k, hk, rfl, rfl⟩ := hrel
    by_cases hlt : k < K
    ·have HT := Lib.hid (two_succ k)
     generalize two k = T at *
     go_wp2
     go_round
     case rel => exact ⟨k + 1, by omega, by go_num, by rw [<- HT.out]⟩
     case measure => simp [intOf]; omega
    ·obtain rfl : k = K := by omega
     generalize two k = T at *
     go_wp2
     go_quiet (exact quiet_same (RS _ (Keeps.alloc _ _)))
     go_wp2
     go_ret
     exact ⟨ret_bool HR.out, below_drewN ((Below.refl _ _).alloc (Nat.le_refl _) _) _⟩
end Go.Proofs.YtbicafgmfgdckaaGreatDoor
namespace Go.Proofs.YtbicafgmfgdckaaGreatDoor
open Go Go.RowKit

def FirstOf (h : CutMath.Sh) (l : List (BitVec 8)) (w : World) (e : Ending) (w' : World) : Prop :=
 ∃ n : Nat, e = .returned (.int .i64 n) /\ n <= l.length /\ Below w.heap.size w w' /\
  ((1 <= n /\ (∀ m, 1 <= m -> m < n -> CutMath.ends h (l.take m) = false) /\ CutMath.ends h (l.take n) = true) \/ (n = l.length /\ ∀ m, 1 <= m -> m <= l.length -> CutMath.ends h (l.take m) = false))
def FirstRel (h : CutMath.Sh) (l : List (BitVec 8)) (w1 : World) (i : Value) (wr : World) : Prop :=
 ∃ n : Nat, 1 <= n /\ n <= l.length + 1 /\ i = .int .i64 n /\ (∀ m, 1 <= m -> m < n -> CutMath.ends h (l.take m) = false) /\ Below w1.heap.size w1 wr
theorem box_cells (w : World) (cs : Array Value) (E : TypeId) (wr : World) (hb : Below (w.alloc (.cells cs E)).heap.size (w.alloc (.cells cs E)) wr) (i : Nat) : wr.cell? ⟨w.heap.size, i, none⟩ = cs[i]? := by
 rw [hb.cell (p := ⟨w.heap.size, i, none⟩) (by simp), alloc_cell]
set_option maxHeartbeats 400000 in
set_option maxRecDepth 100000 in
theorem refFirst_any (h : CutMath.Sh) (g : h.Good) (a : Option Addr) (cap : Nat) (l : List (BitVec 8)) (w : World) (hr : Reads w a cap l) (hl : l.length <= 1048576) :
  Calls Tryz.prog 45 #[shV h, .slice a l.length cap] w (FirstOf h l w) := by
 have k1 := hr.fits
 have k2 := hr.room
 have EN := fun n (v : World) (kv : Keeps w v) (hn : n <= l.length) => refEnds_any h g a cap (l.take n) v ((hr.take n).keeps kv)
 have EN' : ∀ (n : Nat) (v : World), Keeps w v -> n <= l.length -> Calls Tryz.prog 46 #[shV h, .slice a n cap] v fun e w' => e = .returned (.bool (CutMath.ends h (l.take n))) /\ Below v.heap.size v w' := by
  intro n v kv hn
  have := EN n v kv hn
  rwa [List.length_take, Nat.min_eq_left hn] at this
 clear EN hr
 have bx := box_cells w #[.int .i64 h.L, .int .i64 h.M, .int .i64 h.K, .int .i64 h.W, U32 h.s] 24
 have ka := Keeps.alloc w (.cells #[.int .i64 h.L, .int .i64 h.M, .int .i64 h.K, .int .i64 h.W, U32 h.s] 24)
 have hb0 := (Below.refl w.heap.size w).alloc (Nat.le_refl _) (.cells #[.int .i64 h.L, .int .i64 h.M, .int .i64 h.K, .int .i64 h.W, U32 h.s] 24)
 unfold shV shapeV at *
 go_enter Tryz.func45, Tryz.ntmps45
 go_wp2
 generalize w.alloc (.cells #[.int .i64 h.L, .int .i64 h.M, .int .i64 h.K, .int .i64 h.W, U32 h.s] 24) = w1 at *
 go_loopw [5] (fun i wr => FirstRel h l w1 i wr) (fun i _ => l.length + 1 - (intOf i).toNat)
 case atStart => exact ⟨1, Nat.le_refl _, by omega, rfl, fun m _ _ => by omega, Below.refl _ _⟩
 case round =>
  obtain ⟨n, n1, n2, rfl, hn, hb⟩ := hrel
  have HN := Lib.hid hn
  by_cases hlt : n <= l.length
  ·have c0 := bx _ hb 0
   have c1 := bx _ hb 1
   have c2 := bx _ hb 2
   have c3 := bx _ hb 3
   have c4 := bx _ hb 4
   have sl := fun w => run_slice_to byteSlice w a l.length cap .i64 n (n : Int) rfl (by omega)
   clear bx hn
   go_wp2
   go_still_tail 4, (by kernel_rfl)
   change wpList _ _ _ _ _ wr.drew
   have hb2 := hb.drew
   clear hb c0 c1 c2 c3 c4
   generalize wr.drew = w2 at *
   have kk : Keeps w w2 := Keeps.trans ka (Keeps.below hb2)
   go_wp2_with fail
   refine (EN' n _ kk hlt).mono ?_
   rintro e w3 ⟨rfl, hb3⟩
   have hb4 := hb2.trans (hb3.mono hb2.size)
   clear EN' hb3
   cases he : CutMath.ends h (l.take n)
   ·have HE := Lib.hid he; clear he
    go_wp2
    go_roundw
    case rel =>
     refine ⟨n + 1, by omega, by omega, by go_num, fun m m1 m2 => ?_, hb4⟩
     by_cases hm : m = n
     ·rw [hm]; exact HE.out
     ·exact HN.out m m1 (by omega)
    case measure => simp [intOf]; omega
   ·have HE := Lib.hid he; clear he
    go_wp2
    go_ret
    exact ⟨n, rfl, hlt, hb0.trans (hb4.mono hb0.size), .inl ⟨n1, HN.out, HE.out⟩⟩
  ·obtain rfl : n = l.length + 1 := by omega
   clear bx EN' hn
   go_wp2
   go_ret
   exact ⟨l.length, rfl, Nat.le_refl _, hb0.trans (hb.mono hb0.size), .inr ⟨rfl, fun m m1 m2 => HN.out m m1 (by omega)⟩⟩
end Go.Proofs.YtbicafgmfgdckaaGreatDoor
namespace Go.Proofs.YtbicafgmfgdckaaGreatDoor
open Go Go.RowKit

theorem rowsElem : Elem Tryz.prog 25 37 (.slice none 0 0) 24 := ⟨by kernel_rfl, by kernel_rfl, rfl⟩
def OldBut (a : Option Addr) (w : World) (k : Nat) : Prop := k < w.heap.size /\ ∀ ad, a = some ad -> ad.block ≠ k
theorem reads_lt {w : World} {a : Option Addr} {cap : Nat} {l : List (BitVec 8)} (h : Reads w a cap l) (hl : l ≠ []) : ∃ b off, a = some ⟨b, off, none⟩ /\ b < w.heap.size := by
 rcases h.bytes with e | ⟨b, off, e, hb⟩
 ·exact (hl e).elim
 ·have h0 : 0 < l.length := List.length_pos_iff.2 hl
  exact ⟨b, off, e, World.block_lt_of_cell? w _ (hb 0 h0)⟩
theorem reads_addr {w : World} {a : Option Addr} {cap : Nat} {l : List (BitVec 8)} (h : Reads w a cap l) (hl : l ≠ []) : ∀ ad, a = some ad -> ad.block < w.heap.size := fun ad e => by
 obtain ⟨b, off, e2, hb⟩ := reads_lt h hl
 rw [e] at e2; cases e2; exact hb
theorem dropAddr_block {a : Option Addr} {cap n : Nat} {ad : Addr} (h : dropAddr a cap n = some ad) : ∃ ad0, a = some ad0 /\ ad.block = ad0.block := by
 unfold dropAddr at h
 split at h
 ·exact ⟨ad, h, rfl⟩
 ·cases a with
  | none => simp at h
  | some ad0 =>
   simp only [Option.map_some, Option.some.injEq] at h
   refine ⟨ad0, rfl, ?_⟩
   rw [<- h]; unfold Addr.add; split <;> rfl
def Splits (h : CutMath.Sh) (a : Option Addr) (l : List (BitVec 8)) (w : World) (e : Ending) (w' : World) : Prop :=
 ∃ v vs, e = .returned (.tuple #[v, .bool (CutMath.endedB h l)]) /\ OwnsRows (OldBut a w) w' w.heap.size 37 v vs (CutMath.split h l) /\ Below w.heap.size w w'
structure SplitInv (h : CutMath.Sh) (a : Option Addr) (cap : Nat) (l : List (BitVec 8)) (w w1 : World) (s v : Value) (en : Bool) (k : Nat) (vs : List Value) (ls : List (List (BitVec 8))) (wr : World) (A : Option Addr) : Prop where
 le : k <= l.length
 sv : s = .slice A (l.length - k) (cap - k)
 reads : Reads wr A (cap - k) (l.drop k)
 blk : ∀ ad, A = some ad -> ∃ ad0, a = some ad0 /\ ad.block = ad0.block
 rows : OwnsRows (OldBut a w) wr w1.heap.size 37 v vs ls
 splitEq : CutMath.split h l = ls ++ CutMath.split h (l.drop k)
 few : ls.length <= k
 ended : CutMath.endedB h l = if l.drop k = [] then en else CutMath.endedB h (l.drop k)
 below : Below w1.heap.size w1 wr
def SplitRel (h : CutMath.Sh) (a : Option Addr) (cap : Nat) (l : List (BitVec 8)) (w w1 : World) (s v en : Value) (wr : World) : Prop :=
 ∃ k vs ls A b, en = .bool b /\ SplitInv h a cap l w w1 s v b k vs ls wr A
theorem SplitInv.step {h : CutMath.Sh} {a : Option Addr} {cap : Nat} {l : List (BitVec 8)} {w w1 : World} {s v v' : Value} {en : Bool} {k n : Nat} {vs : List Value} {ls : List (List (BitVec 8))} {wr w2 w' : World} {A : Option Addr}
  (i : SplitInv h a cap l w w1 s v en k vs ls wr A) (hlt : k < l.length) (ha : ∀ ad, a = some ad -> ad.block < w.heap.size) (n1 : 1 <= n) (n2 : n <= l.length - k)
  (hn : ((∀ m, 1 <= m -> m < n -> CutMath.ends h ((l.drop k).take m) = false) /\ CutMath.ends h ((l.drop k).take n) = true) \/ (n = l.length - k /\ ∀ m, 1 <= m -> m <= l.length - k -> CutMath.ends h ((l.drop k).take m) = false))
  (hw1 : w.heap.size <= w1.heap.size) (hb2 : Below wr.heap.size wr w2)
  (h1 : w'.ownsRow w1.heap.size 37 1 v' (ls.length + 1) (vs ++ [.slice A n (cap - k)])) (hg : w2.grownBy w' v.ownBlock) (hb : v'.ownBlock = v.ownBlock \/ v'.ownBlock = some w2.heap.size) :
  SplitInv h a cap l w w1 (.slice (dropAddr A (cap - k) n) (l.length - k - n) (cap - k - n)) v' (CutMath.ends h ((l.drop k).take n)) (k + n) (vs ++ [.slice A n (cap - k)]) (ls ++ [(l.drop k).take n]) w' (dropAddr A (cap - k) n) := by
 have hlen : (l.drop k).length = l.length - k := List.length_drop
 have hne : l.drop k ≠ [] := fun e => by rw [e] at hlen; simp at hlen; omega
 have htl : ((l.drop k).take n).length = n := by rw [List.length_take]; omega
 have hr2 : Reads w2 A (cap - k) (l.drop k) := i.reads.keeps (Keeps.below hb2)
 have rows2 := i.rows.touch (.of_below hb2)
 have hblk : ∀ ad, A = some ad -> ad.block < w.heap.size /\ ¬ OldBut a w ad.block := fun ad e => by
  obtain ⟨ad0, e0, e1⟩ := i.blk ad e
  have := ha ad0 e0
  exact ⟨by omega, fun o => o.2 ad0 e0 e1.symm⟩
 have hw : w1.heap.size <= w2.heap.size := Nat.le_trans i.below.size hb2.size
 have ch : Chunk (OldBut a w) w2 (.slice A n (cap - k)) ((l.drop k).take n) := by
  refine ⟨A, cap - k, by rw [htl], hr2.take n, fun ad e => ⟨(hblk ad e).2, ?_⟩⟩
  have := (hblk ad e).1; omega
 have t : Touch (fun b => v.ownBlock = some b) w2 w' := .of_grown hg fun b hb => hb
 have hoff : ∀ ad, A = some ad -> ¬ v.ownBlock = some ad.block := fun ad e hv => by
  have h5 := (row_lt i.rows.row hv).1
  have h6 := (hblk ad e).1
  omega
 have hb3 : Below w1.heap.size w2 w' := t.below (fun b hv => (row_lt i.rows.row hv).1) hw
 refine ⟨by omega, by rw [show l.length - (k + n) = l.length - k - n by omega, show cap - (k + n) = cap - k - n by omega], ?_, ?_, ?_, ?_, by rw [List.length_append, List.length_singleton]; have := i.few; omega, ?_, ?_⟩
 ·rw [<- List.drop_drop, show cap - (k + n) = cap - k - n by omega]
  refine (t.reads hr2 hoff).drop n (by omega)
 ·intro ad e
  obtain ⟨ad0, e0, e1⟩ := dropAddr_block e
  obtain ⟨ad1, e2, e3⟩ := i.blk ad0 e0
  exact ⟨ad1, e2, e1.trans e3⟩
 ·exact rows2.snoc ch (fun b hb => by have := hb.1; omega) h1 hg hb fun ad m c e => by
   injection e with e _ _
   exact hoff ad e
 ·rw [i.splitEq, List.append_assoc, <- List.drop_drop]
  congr 1
  rcases hn with ⟨g1, g2⟩ | ⟨g1, g2⟩
  ·rw [CutMath.split_hit n1 (by omega) g1 g2]; rfl
  ·have e1 : (l.drop k).drop n = [] := List.drop_eq_nil_of_le (by omega)
   rw [CutMath.split_miss (fun m m1 m2 => g2 m m1 (by omega)) hne, e1, List.take_of_length_le (by omega), CutMath.split_nil]; rfl
 ·rw [i.ended, if_neg hne, <- List.drop_drop]
  rcases hn with ⟨g1, g2⟩ | ⟨g1, g2⟩
  ·rw [CutMath.ended_hit n1 (by omega) g1 g2, g2]
   split
   ·rename_i e; rw [e]; rfl
   ·rfl
  ·rw [CutMath.ended_miss (fun m m1 m2 => g2 m m1 (by omega)) hne, if_pos (List.drop_eq_nil_of_le (by omega)), g2 n n1 (by omega)]
 ·exact i.below.trans ((hb2.mono i.below.size).trans hb3)
theorem slice_row (w : World) (A : Option Addr) (len cap n : Nat) (h : n <= cap) : (Instr.slice 37 (.slice A len cap) none (some (.int .i64 (n : Int))) none).run Tryz.prog w = .ok (.slice A n cap) w :=
 run_slice_to byteSlice w A len cap .i64 n (n : Int) rfl h
theorem slice_rest (w : World) (A : Option Addr) (len cap n : Nat) (h : n <= len) : (Instr.slice 37 (.slice A len cap) (some (.int .i64 (n : Int))) none none).run Tryz.prog w = .ok (.slice (dropAddr A cap n) (len - n) (cap - n)) w :=
 run_slice_from byteSlice w A len cap .i64 n (n : Int) rfl h
def lenOf : Value -> Nat | .slice _ n _ => n | _ => 0
set_option maxHeartbeats 800000 in
set_option maxRecDepth 100000 in
theorem refSplit_any (h : CutMath.Sh) (g : h.Good) (a : Option Addr) (cap : Nat) (l : List (BitVec 8)) (w : World) (hr : Reads w a cap l) (hl : l.length <= 1048576) :
  Calls Tryz.prog 26 #[shV h, .slice a l.length cap] w (Splits h a l w) := by
 have k1 := hr.fits
 have k2 := hr.room
 have ha := reads_addr hr
 have FI := fun (k n : Nat) (A : Option Addr) (v : World) (hk : k <= l.length) (hA : Reads v A (cap - k) (l.drop k)) => refFirst_any h g A (cap - k) (l.drop k) v hA (by rw [List.length_drop]; omega)
 have EN := fun (k n : Nat) (A : Option Addr) (v : World) (hA : Reads v A (cap - k) (l.drop k)) => refEnds_any h g A (cap - k) ((l.drop k).take n) v (hA.take n)
 simp only [List.length_drop, List.length_take] at FI EN
 have bx := box_cells w #[.int .i64 h.L, .int .i64 h.M, .int .i64 h.K, .int .i64 h.W, U32 h.s] 24
 have hb0 := (Below.refl w.heap.size w).alloc (Nat.le_refl _) (.cells #[.int .i64 h.L, .int .i64 h.M, .int .i64 h.K, .int .i64 h.W, U32 h.s] 24)
 have hs0 : w.heap.size <= (w.alloc (.cells #[.int .i64 h.L, .int .i64 h.M, .int .i64 h.K, .int .i64 h.W, U32 h.s] 24)).heap.size := hb0.size
 have hr0 := hr.keeps (Keeps.alloc w (.cells #[.int .i64 h.L, .int .i64 h.M, .int .i64 h.K, .int .i64 h.W, U32 h.s] 24))
 unfold shV shapeV at *
 go_enter Tryz.func26, Tryz.ntmps26
 go_wp2
 generalize w.alloc (.cells #[.int .i64 h.L, .int .i64 h.M, .int .i64 h.K, .int .i64 h.W, U32 h.s] 24) = w1 at *
 go_loopw [1, 6, 7] (fun s v en wr => SplitRel h a cap l w w1 s v en wr) (fun s _ _ _ => lenOf s)
 case atStart =>
  refine ⟨0, [], [], a, true, rfl, Nat.zero_le _, rfl, by simpa using hr0, fun ad e => ⟨ad, e, rfl⟩, ownsRows_nil _ _ _ _, rfl, Nat.le_refl _, ?_, Below.refl _ _⟩
  rw [List.drop_zero]
  split
  ·rename_i e; rw [e]; rfl
  ·rfl
 case round =>
  clear hr0 hr
  obtain ⟨k, vs, ls, A, b, rfl, i⟩ := hrel
  obtain rfl := i.sv
  have hbr := i.below
  by_cases hlt : k < l.length
  ·have c0 := bx _ hbr 0
   have c1 := bx _ hbr 1
   have c2 := bx _ hbr 2
   have c3 := bx _ hbr 3
   have c4 := bx _ hbr 4
   have hlt2 : (0 : Int) < ((l.length - k : Nat) : Int) := by omega
   have FI1 := FI k 0 A wr (by omega) i.reads
   have hk1 : l.length - k <= cap - k := by omega
   clear FI
   generalize hq : l.length - k = q at *
   have HQ := Lib.hid hq; clear hq
   go_wp2_with fail
   refine FI1.mono ?_
   rintro e w2 ⟨n, rfl, hn, hb2, hcase⟩
   rw [List.length_drop, HQ.out] at hn
   have hbr2 := hbr.trans (hb2.mono hbr.size)
   clear c0 c1 c2 c3 c4 FI1
   have c0 := bx _ hbr2 0
   have c1 := bx _ hbr2 1
   have c2 := bx _ hbr2 2
   have c3 := bx _ hbr2 3
   have c4 := bx _ hbr2 4
   have sl := fun w => slice_row w A q (cap - k) n (by omega)
   have sl2 := fun w => slice_rest w A q (cap - k) n (by omega)
   have HC := Lib.hid hcase; clear hcase
   go_wp2
   go_still_tail 4, (by kernel_rfl)
   change wpList _ _ _ _ _ w2.drew
   have hb3 := hb2.drew
   have hbr3 := hbr2.drew
   have EN1 := EN k n A _ (i.reads.keeps (Keeps.below hb3))
   rw [HQ.out, Nat.min_eq_left hn] at EN1
   clear c0 c1 c2 c3 c4 EN hb2 hbr2
   generalize w2.drew = w3 at *
   go_wp2_with fail
   refine EN1.mono ?_
   rintro e w4 ⟨rfl, hb4⟩
   have hb5 := hb3.trans (hb4.mono hb3.size)
   have hb6 := hb5.alloc hb5.size (.cells #[.slice A n (cap - k)] 37)
   have hcell : (w4.alloc (.cells #[.slice A n (cap - k)] 37)).cell? ⟨w4.heap.size, 0, none⟩ = some (.slice A n (cap - k)) := alloc_cell w4 _ _ 0
   have hrow := (i.rows.touch (.of_below hb6)).row
   have hsz : w1.heap.size <= (w4.alloc (.cells #[.slice A n (cap - k)] 37)).heap.size := Nat.le_trans hbr.size hb6.size
   have hfew := i.few
   clear EN1 hb3 hb4 hbr3
   generalize hen : CutMath.ends h ((l.drop k).take n) = en at *
   have HE := Lib.hid hen; clear hen
   go_wp2_with (at_builtin; refine wpList_append_elem rowsElem rfl _ _ rfl w1.heap.size u6 ls.length vs rfl hrow ⟨w4.heap.size, 0, none⟩ 1 (.slice A n (cap - k)) rfl hcell rfl (by omega) (by omega) hsz ?_; intro v' w' h1 hg hb)
   have hc := HC.out
   rw [List.length_drop, HQ.out] at hc
   have n1 : 1 <= n := by
    rcases hc with ⟨g1, _⟩ | ⟨g1, _⟩
    ·exact g1
    ·omega
   refine ⟨?_, by show q - n < q; omega⟩
   have hq := HQ.out
   have he := HE.out
   subst hq he
   have hc2 : ((∀ m, 1 <= m -> m < n -> CutMath.ends h ((l.drop k).take m) = false) /\ CutMath.ends h ((l.drop k).take n) = true) \/ (n = l.length - k /\ ∀ m, 1 <= m -> m <= l.length - k -> CutMath.ends h ((l.drop k).take m) = false) := by
    rcases hc with ⟨_, g2, g3⟩ | g
    ·exact .inl ⟨g2, g3⟩
    ·exact .inr g
   exact ⟨_, _, _, _, _, rfl, i.step hlt (ha (fun e => by rw [e] at hlt; simp at hlt)) n1 hn hc2 hs0 hb6 h1 hg hb⟩
  ·have hk := i.le
   obtain rfl : k = l.length := by omega
   clear bx EN FI
   rw [Nat.sub_self]
   go_wp2
   go_ret2
   have h1 := i.splitEq
   have h2 := i.ended
   rw [List.drop_length] at h1 h2
   rw [CutMath.split_nil, List.append_nil] at h1
   rw [if_pos rfl] at h2
   refine ⟨u6, vs, by rw [h2]; rfl, ?_, hb0.trans (hbr.mono hs0)⟩
   rw [h1]
   exact ⟨row_mono i.rows.row (fun b hb => Nat.le_trans hs0 (row_lt i.rows.row hb).1), i.rows.len, i.rows.out, i.rows.chunk, i.rows.apart⟩
end Go.Proofs.YtbicafgmfgdckaaGreatDoor
namespace Go.Proofs.YtbicafgmfgdckaaGreatDoor
open Go Go.RowKit

structure CutterAt (w : World) (b r : Nat) (h : CutMath.Sh) (v : Value) : Prop where
 c0 : w.cell? ⟨b, 0, none⟩ = some (.int .i64 h.L)
 c1 : w.cell? ⟨b, 1, none⟩ = some (.int .i64 h.M)
 c2 : w.cell? ⟨b, 2, none⟩ = some (.int .i64 h.K)
 c3 : w.cell? ⟨b, 3, none⟩ = some (.int .i64 h.W)
 c4 : w.cell? ⟨b, 4, none⟩ = some (U32 h.s)
 c5 : w.cell? ⟨b, 5, none⟩ = some (.pointer (some ⟨r, 0, none⟩))
 c6 : w.cell? ⟨b, 6, none⟩ = some (U32 (CutMath.maskOf h.K))
 c7 : w.cell? ⟨b, 7, none⟩ = some v
 thawed : ∀ o, w.frozen? ⟨b, o, none⟩ = false
def given (h : CutMath.Sh) (held : List (BitVec 8)) : List (BitVec 8) := lastN h.W (held.drop (h.L - h.W))
structure Cutter (w : World) (B b r : Nat) (v : Value) (h : CutMath.Sh) (held : List (BitVec 8)) : Prop where
 at_ : CutterAt w b r h v
 ne : r ≠ b
 roll : Roller w r h.s h.W (given h held)
 own : Owns w B 5 v held
 vb : v.ownBlock ≠ some b
 vr : v.ownBlock ≠ some r
 low : B <= b /\ B <= r
def Foot (b r : Nat) (v : Value) (k : Nat) : Prop := k = b \/ k = r \/ v.ownBlock = some k
section
variable {w w' : World} {B b r : Nat} {v v' : Value} {h : CutMath.Sh} {held : List (BitVec 8)}
theorem CutterAt.lt (c : CutterAt w b r h v) : b < w.heap.size := World.block_lt_of_cell? w _ c.c0
theorem CutterAt.touch {F : Nat -> Prop} (c : CutterAt w b r h v) (t : Touch F w w') (hn : ¬ F b) : CutterAt w' b r h v :=
 ⟨t.cell c.c0 hn, t.cell c.c1 hn, t.cell c.c2 hn, t.cell c.c3 hn, t.cell c.c4 hn, t.cell c.c5 hn, t.cell c.c6 hn, t.cell c.c7 hn, fun o => by rw [t.frozen c.lt hn]; exact c.thawed o⟩
theorem CutterAt.hold (c : CutterAt w b r h v) (u : Value) : CutterAt (w.setCell ⟨b, 7, none⟩ u) b r h u :=
 ⟨set_other c.c0 (by omega), set_other c.c1 (by omega), set_other c.c2 (by omega), set_other c.c3 (by omega), set_other c.c4 (by omega), set_other c.c5 (by omega), set_other c.c6 (by omega), set_same c.c7, fun o => by rw [World.frozen?_setCell]; exact c.thawed o⟩
theorem RollerAt.touch {F : Nat -> Prop} {s x : BitVec 32} {win n at_ : Nat} {ring : Nat -> BitVec 8} (c : RollerAt w r s win n at_ x ring) (t : Touch F w w') (hn : ¬ F r) : RollerAt w' r s win n at_ x ring :=
 ⟨fun i hi => t.cell (c.words i hi) hn, fun i hi => t.cell (c.ring i hi) hn, t.cell c.win hn, t.cell c.n hn, t.cell c.at_ hn, t.cell c.x hn, fun o => (t.frozen (a := ⟨r, o, none⟩) (World.block_lt_of_cell? w ⟨r, 319, none⟩ c.win) hn).trans (c.thawed o)⟩
theorem Roller.touch {F : Nat -> Prop} {s : BitVec 32} {win : Nat} {L : List (BitVec 8)} (c : Roller w r s win L) (t : Touch F w w') (hn : ¬ F r) : Roller w' r s win L := by
 obtain ⟨at_, ring, h1, h2⟩ := c
 exact ⟨at_, ring, h1.touch t hn, h2⟩
theorem Roller.lt {s : BitVec 32} {win : Nat} {L : List (BitVec 8)} (c : Roller w r s win L) : r < w.heap.size := by
 obtain ⟨at_, ring, h1, h2⟩ := c
 exact World.block_lt_of_cell? w _ h1.win
theorem Cutter.touch {F : Nat -> Prop} (c : Cutter w B b r v h held) (t : Touch F w w') (hn : ∀ k, Foot b r v k -> ¬ F k) : Cutter w' B b r v h held :=
 ⟨c.at_.touch t (hn b (.inl rfl)), c.ne, c.roll.touch t (hn r (.inr (.inl rfl))), t.owns c.own fun k hk => hn k (.inr (.inr hk)), c.vb, c.vr, c.low⟩
theorem Cutter.foot_lt (c : Cutter w B b r v h held) {k : Nat} (hk : Foot b r v k) : B <= k /\ k < w.heap.size := by
 rcases hk with rfl | rfl | hk
 ·exact ⟨c.low.1, c.at_.lt⟩
 ·exact ⟨c.low.2, c.roll.lt⟩
 ·exact row_lt c.own hk
end
theorem given_nil (h : CutMath.Sh) (held : List (BitVec 8)) (hl : held.length <= h.L - h.W) : given h held = [] := by
 unfold given; rw [List.drop_eq_nil_of_le hl]; unfold lastN; simp
theorem given_push (h : CutMath.Sh) (g : h.Good) (held : List (BitVec 8)) (c : BitVec 8) (hl : h.L - h.W <= held.length) : given h (held ++ [c]) = pushed h.W (given h held) c := by
 unfold given
 rw [List.drop_append_of_le_length hl, pushed_last _ _ _ g.w1]
theorem given_last (h : CutMath.Sh) (g : h.Good) (held : List (BitVec 8)) (hl : h.L <= held.length) : given h held = lastN h.W held := lastN_drop held (by have := g.wl; omega)

theorem cutOk_any {w : World} {b r : Nat} {h : CutMath.Sh} {v : Value} (c : CutterAt w b r h v) :
  Calls Tryz.prog 74 #[.pointer (some ⟨b, 0, none⟩)] w fun e w' => e = .returned (.bool true) /\ w = w' := by
 have c5 := c.c5
 go_enter Tryz.func74, Tryz.ntmps74
 go_wp2
 go_ret
 exact ⟨rfl, rfl⟩
def Takes (B b r : Nat) (v : Value) (h : CutMath.Sh) (held : List (BitVec 8)) (w : World) (e : Ending) (w' : World) : Prop :=
 e = .returned v /\ Cutter w' B b r (.slice none 0 0) h [] /\ Owns w' B 5 v held /\ Touch (Foot b r (.slice none 0 0)) w w'
theorem cutTake_any {w : World} {B b r : Nat} {v : Value} {h : CutMath.Sh} {held : List (BitVec 8)} (c : Cutter w B b r v h held) :
  Calls Tryz.prog 76 #[.pointer (some ⟨b, 0, none⟩)] w (Takes B b r v h held w) := by
 have c7 := c.at_.c7
 have f7 := c.at_.thawed 7
 have hne := c.ne
 have c5 : (w.setCell ⟨b, 7, none⟩ (.slice none 0 0)).cell? ⟨b, 5, none⟩ = some (.pointer (some ⟨r, 0, none⟩)) := (c.at_.hold _).c5
 have t1 : Touch (fun k => k = b) w (w.setCell ⟨b, 7, none⟩ (.slice none 0 0)) := Touch.set w b 7 _ rfl
 have CL := clear_any _ r h.s h.W _ (c.roll.touch t1 c.ne)
 have hv : ∃ a n cap, v = .slice a n cap := by obtain ⟨a, cap, e, _⟩ := c.own.reads; exact ⟨a, _, cap, e⟩
 obtain ⟨a, n, cap, rfl⟩ := hv
 go_enter Tryz.func76, Tryz.ntmps76
 go_wp2_with fail
 refine CL.mono ?_
 rintro e w2 ⟨rfl, h2, o2⟩
 go_wp2
 go_ret
 have t2 : Touch (fun k => k = r) (w.setCell ⟨b, 7, none⟩ (.slice none 0 0)) w2 := .of_only o2 rfl
 refine ⟨rfl, ⟨((c.at_.hold _).touch t2 (fun e => hne e.symm)), hne, ?_, owns_nil _ _ _, by simp [Value.ownBlock], by simp [Value.ownBlock], c.low⟩, ?_, ?_⟩
 ·rw [given_nil h [] (by simp)]; exact h2
 ·exact t2.owns (t1.owns c.own fun k hk e => c.vb (by rw [hk, e])) fun k hk e => c.vr (by rw [hk, e])
 ·exact (t1.mono fun k e => .inl e).trans (t2.mono fun k e => .inr (.inl e))
theorem cutEnd_any {w : World} {B b r : Nat} {v : Value} {h : CutMath.Sh} {held : List (BitVec 8)} (c : Cutter w B b r v h held) :
  Calls Tryz.prog 41 #[.pointer (some ⟨b, 0, none⟩)] w (Takes B b r v h held w) := by
 have OK := cutOk_any c.at_
 have TK := cutTake_any c
 go_enter Tryz.func41, Tryz.ntmps41
 go_wp2_with fail
 refine OK.mono ?_
 rintro e w' ⟨rfl, rfl⟩
 go_wp2_with fail
 refine TK.mono ?_
 rintro e w' ⟨rfl, h1⟩
 go_wp2
 go_ret
 exact ⟨rfl, h1⟩
end Go.Proofs.YtbicafgmfgdckaaGreatDoor
namespace Go.Proofs.YtbicafgmfgdckaaGreatDoor
open Go Go.RowKit

theorem bytesElem : Elem Tryz.prog 37 5 (.int .u8 0) 1 := ⟨by kernel_rfl, by kernel_rfl, rfl⟩
theorem row_form {w : World} {B : Nat} {E : TypeId} {size n : Nat} {v : Value} {xs : List Value} (h : w.ownsRow B E size v n xs) : ∃ a cap, v = .slice a n cap := by
 rcases h.2 with ⟨rfl, rfl⟩ | ⟨g, cap, cur, rfl, _⟩
 ·exact ⟨none, 0, rfl⟩
 ·exact ⟨_, _, rfl⟩
def PutsC (B b r : Nat) (v : Value) (h : CutMath.Sh) (held : List (BitVec 8)) (c : BitVec 8) (w : World) (e : Ending) (w' : World) : Prop :=
 ∃ v', e = .returned (.bool (CutMath.ends h (held ++ [c]))) /\ Cutter w' B b r v' h (held ++ [c]) /\ Touch (Foot b r v) w w' /\ (v'.ownBlock = v.ownBlock \/ ∃ k, v'.ownBlock = some k /\ w.heap.size <= k)
theorem putsC_end {w w2 w3 : World} {B b r : Nat} {v v' : Value} {h : CutMath.Sh} {held : List (BitVec 8)} {c : BitVec 8} (k : Cutter w B b r v h held) (ca : CutterAt w2 b r h v') (t : Touch (Foot b r v) w w2)
  (ho : Owns w2 B 5 v' (held ++ [c])) (hb : v'.ownBlock = v.ownBlock \/ ∃ k, v'.ownBlock = some k /\ w.heap.size <= k) (o : Touch (fun k => k = r) w2 w3) (hr : Roller w3 r h.s h.W (given h (held ++ [c]))) :
  PutsC B b r v h held c w (.returned (.bool (CutMath.ends h (held ++ [c])))) w3 := by
 have hvb : v'.ownBlock ≠ some b := fun e => by
  rcases hb with e2 | ⟨k', e2, e3⟩
  ·exact k.vb (e2.symm.trans e)
  ·rw [e] at e2; injection e2 with e2; have := k.at_.lt; omega
 have hvr : v'.ownBlock ≠ some r := fun e => by
  rcases hb with e2 | ⟨k', e2, e3⟩
  ·exact k.vr (e2.symm.trans e)
  ·rw [e] at e2; injection e2 with e2; have := k.roll.lt; omega
 exact ⟨v', rfl, ⟨ca.touch o (fun e => k.ne e.symm), k.ne, hr, o.owns ho fun q hq e => hvr (by rw [hq, e]), hvb, hvr, k.low⟩, t.trans (o.mono fun q e => .inr (.inl e)), hb⟩
set_option maxRecDepth 40000 in
set_option maxHeartbeats 2000000 in
theorem cutPut_any {w : World} {B b r : Nat} {v : Value} {h : CutMath.Sh} {held : List (BitVec 8)} (g : h.Good) (k : Cutter w B b r v h held) (hl : held.length <= 1048576) (hB : B <= w.heap.size) (c : BitVec 8) :
  Calls Tryz.prog 75 #[.pointer (some ⟨b, 0, none⟩), U8 c] w (PutsC B b r v h held c w) := by
 have c7 := k.at_.c7
 have t0 : Touch (Foot b r v) w (w.alloc (.cells #[U8 c] 5)) := (Touch.refl _ _).alloc _
 have hrow := (Touch.row (F := fun _ => False) ((Touch.refl _ w).alloc (.cells #[U8 c] 5)) k.own fun _ _ f => f)
 have hcell : (w.alloc (.cells #[U8 c] 5)).cell? ⟨w.heap.size, 0, none⟩ = some (U8 c) := alloc_cell w _ _ 0
 have hB2 : B <= (w.alloc (.cells #[U8 c] 5)).heap.size := by simp; omega
 have TA : ∀ w1, (w.alloc (.cells #[U8 c] 5)).grownBy w1 v.ownBlock -> Touch (fun q => v.ownBlock = some q) w w1 := fun w1 hg => ((Touch.refl _ w).alloc _).trans (.of_grown hg fun _ hk => hk)
 have KA : ∀ w1, Touch (fun q => v.ownBlock = some q) w w1 -> CutterAt w1 b r h v := fun w1 t => k.at_.touch t k.vb
 have hv : ∃ a cap, v = .slice a held.length cap := by obtain ⟨a, cap, e, _⟩ := k.own.reads; exact ⟨a, cap, e⟩
 obtain ⟨a, cap, hv⟩ := hv
 rw [hv] at c7
 have HV := Lib.hid hv; clear hv
 have g1 := g.w1
 have g2 := g.wl
 have g3 := g.lm
 have g4 := g.m
 have hwr : IntKind.i64.wrap ((h.L : Int) - (h.W : Int)) = (h.L : Int) - h.W := IntWalk.i64_in _ (by omega)
 go_enter Tryz.func75, Tryz.ntmps75
 go_wp2_with (at_builtin; refine wpList_append_elem bytesElem rfl _ _ rfl B v held.length (held.map U8) HV.out.symm hrow ⟨w.heap.size, 0, none⟩ 1 (U8 c) rfl hcell rfl (by omega) (by omega) hB2 ?_; intro v' w1 h1 hg hb; have t1 := TA w1 hg; have ca := KA w1 t1; have d7 := ca.c7; have f7 := ca.thawed 7; obtain ⟨a', cap', rfl⟩ := row_form h1)
 have hv2 : (Value.slice a' (held.length + 1) cap').ownBlock ≠ some b := fun e => by
  rcases hb with e2 | e2
  ·exact k.vb (e2.symm.trans e)
  ·rw [e] at e2; injection e2 with e2; have := k.at_.lt; simp at e2; omega
 have hb2 : (Value.slice a' (held.length + 1) cap').ownBlock = v.ownBlock \/ ∃ q, (Value.slice a' (held.length + 1) cap').ownBlock = some q /\ w.heap.size <= q := by
  rcases hb with e2 | e2
  ·exact .inl e2
  ·exact .inr ⟨_, e2, by simp⟩
 have ts : Touch (fun q => q = b) w1 (w1.setCell ⟨b, 7, none⟩ (.slice a' (held.length + 1) cap')) := Touch.set _ _ _ _ rfl
 have ca2 := ca.hold (.slice a' (held.length + 1) cap')
 have tt : Touch (fun q => q = b \/ v.ownBlock = some q) w (w1.setCell ⟨b, 7, none⟩ (.slice a' (held.length + 1) cap')) := (t1.mono fun q e => .inr e).trans (ts.mono fun q e => .inl e)
 have ho2 : Owns (w1.setCell ⟨b, 7, none⟩ (.slice a' (held.length + 1) cap')) B 5 (.slice a' (held.length + 1) cap') (held ++ [c]) :=
  ts.owns (by unfold Owns; rw [List.length_append, List.length_singleton, List.map_append]; exact h1) fun q hq e => hv2 (by rw [hq, e])
 have r2 : Roller (w1.setCell ⟨b, 7, none⟩ (.slice a' (held.length + 1) cap')) r h.s h.W (given h held) := k.roll.touch tt fun e => e.elim k.ne k.vr
 have t2 : Touch (Foot b r v) w (w1.setCell ⟨b, 7, none⟩ (.slice a' (held.length + 1) cap')) := tt.mono fun q e => e.elim .inl fun e => .inr (.inr e)
 have HB := Lib.hid hb2
 clear d7 f7 hv2 hb hb2 ts ca tt h1 hg t1 c7 t0 hrow hcell hB2 TA KA
 generalize w1.setCell ⟨b, 7, none⟩ (.slice a' (held.length + 1) cap') = w2 at *
 have hln : (held ++ [c]).length = held.length + 1 := by simp
 have key : (held.length + 1 = h.M) \/ (held.length + 1 ≠ h.M /\ held.length + 1 < h.L /\ h.L - h.W < held.length + 1) \/ (held.length + 1 ≠ h.M /\ held.length + 1 < h.L /\ held.length + 1 <= h.L - h.W) \/ (held.length + 1 ≠ h.M /\ h.L <= held.length + 1) := by omega
 have c0 := ca2.c0
 have c1 := ca2.c1
 have c3 := ca2.c3
 have c5 := ca2.c5
 have FIN := fun (w3 : World) (o : Touch (fun k => k = r) w2 w3) (hr : Roller w3 r h.s h.W (given h (held ++ [c]))) => putsC_end k ca2 t2 ho2 HB.out o hr
 have PA := fun n => put_any (w2.drewN n) r h.s h.W (given h held) c (r2.drewN n) g.w63
 have hq := fun (hle : h.L - h.W <= held.length) => (given_push h g held c hle).symm
 have KA := fun (w3 : World) (o : Touch (fun k => k = r) w2 w3) => ca2.touch o (fun e => k.ne e.symm)
 rcases key with A | ⟨A, A2, A3⟩ | ⟨A, A2, A3⟩ | ⟨A, A2⟩
 ·have hp : (h.L : Int) - (h.W : Int) < (held.length : Int) + 1 := by omega
  have hm : ((held.length : Int) + 1 == (h.M : Int)) = true := by rw [beq_iff_eq]; omega
  go_quiet (fail)
  go_wp2_with fail
  refine (PA _).mono ?_
  rintro e w3 ⟨rfl, r3, o3⟩
  rw [hq (by omega)] at r3
  have o : Touch (fun k => k = r) w2 w3 := Touch.trans ((Touch.refl _ w2).drewN nq) (.of_only o3 rfl)
  have d1 := (KA w3 o).c1
  generalize RollMath.sum h.s (pushed h.W (given h held) c) = X at *
  clear o3 c0 c1 c3 c5 PA KA hq
  have FIN := fun n => FIN _ (o.drewN n) (r3.drewN n)
  rw [ends_most (hln.trans A)] at FIN
  go_wp2_with fail
  go_quiet (fail)
  go_wp2
  go_ret
  exact FIN _
 ·have hp : (h.L : Int) - (h.W : Int) < (held.length : Int) + 1 := by omega
  have hm : ((held.length : Int) + 1 == (h.M : Int)) = false := by rw [beq_eq_false_iff_ne]; omega
  have hL : decide ((h.L : Int) <= (held.length : Int) + 1) = false := by rw [decide_eq_false_iff_not]; omega
  go_quiet (fail)
  go_wp2_with fail
  refine (PA _).mono ?_
  rintro e w3 ⟨rfl, r3, o3⟩
  rw [hq (by omega)] at r3
  have o : Touch (fun k => k = r) w2 w3 := Touch.trans ((Touch.refl _ w2).drewN nq) (.of_only o3 rfl)
  have d1 := (KA w3 o).c1
  have d0 := (KA w3 o).c0
  generalize RollMath.sum h.s (pushed h.W (given h held) c) = X at *
  clear o3 c0 c1 c3 c5 PA KA hq
  have FIN := fun n => FIN _ (o.drewN n) (r3.drewN n)
  rw [ends_short (fun e => A (hln.symm.trans e)) (by omega)] at FIN
  go_wp2_with fail
  go_quiet (fail)
  go_wp2
  go_ret
  exact FIN _
 ·have hp : ¬ (h.L : Int) - (h.W : Int) < (held.length : Int) + 1 := by omega
  have hm : ((held.length : Int) + 1 == (h.M : Int)) = false := by rw [beq_eq_false_iff_ne]; omega
  have hL : decide ((h.L : Int) <= (held.length : Int) + 1) = false := by rw [decide_eq_false_iff_not]; omega
  have r3 : Roller w2 r h.s h.W (given h (held ++ [c])) := by
   rw [given_nil h _ (by omega)]; rw [given_nil h _ (by omega)] at r2; exact r2
  clear PA KA hq
  have FIN := fun n m => FIN _ (((Touch.refl _ w2).drewN n).drewN m) ((r3.drewN n).drewN m)
  rw [ends_short (fun e => A (hln.symm.trans e)) (by omega)] at FIN
  go_quiet (fail)
  go_wp2_with fail
  go_quiet (fail)
  go_wp2
  go_ret
  exact FIN _ _
 ·have hp : (h.L : Int) - (h.W : Int) < (held.length : Int) + 1 := by omega
  have hm : ((held.length : Int) + 1 == (h.M : Int)) = false := by rw [beq_eq_false_iff_ne]; omega
  have hL : decide ((h.L : Int) <= (held.length : Int) + 1) = true := by rw [decide_eq_true_eq]; omega
  go_quiet (fail)
  go_wp2_with fail
  refine (PA _).mono ?_
  rintro e w3 ⟨rfl, r3, o3⟩
  rw [hq (by omega)] at r3
  have o : Touch (fun k => k = r) w2 w3 := Touch.trans ((Touch.refl _ w2).drewN nq) (.of_only o3 rfl)
  have d1 := (KA w3 o).c1
  have d0 := (KA w3 o).c0
  have d5 := (KA w3 o).c5
  have d6 := (KA w3 o).c6
  generalize RollMath.sum h.s (pushed h.W (given h held) c) = X at *
  clear o3 c0 c1 c3 c5 PA KA hq
  have FIN := fun n => FIN _ (o.drewN n) (r3.drewN n)
  have VA := fun n => value_any (w3.drewN n) r h.s h.W _ (r3.drewN n)
  rw [ends_sum (fun e => A (hln.symm.trans e)) (by omega), <- given_last h g _ (by omega)] at FIN
  generalize RollMath.sum h.s (given h (held ++ [c])) = Y at *
  go_wp2_with fail
  go_quiet (exact quiet_same (VA _))
  go_wp2
  go_ret
  exact FIN _
end Go.Proofs.YtbicafgmfgdckaaGreatDoor
