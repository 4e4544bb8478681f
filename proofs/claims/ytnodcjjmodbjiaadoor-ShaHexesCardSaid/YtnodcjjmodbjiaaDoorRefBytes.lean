/- The reference's Put, Back, Get. -/
import Derived.Test.YtnodcjjmodbjiaaDoorSSum
namespace Go.Proofs.YtnodcjjmodbjiaaDoor
open Go Go.RowKit

theorem leB_snoc (x : BitVec 64) (k : Nat) : leB x (k + 1) = leB x k ++ [(x >>> (8 * k)).setWidth 8] := by simp [leB, List.range_succ]
theorem mod256 (y : BitVec 64) : (y % 256#64).setWidth 8 = y.setWidth 8 := by
  apply BitVec.eq_of_toNat_eq
  simp [BitVec.toNat_setWidth, BitVec.toNat_umod]
theorem div256 (y : BitVec 64) : y / 256#64 = y >>> 8 := by
  apply BitVec.eq_of_toNat_eq
  simp [BitVec.toNat_udiv, BitVec.toNat_ushiftRight, Nat.shiftRight_eq_div_pow]
def RPutRel (x : BitVec 64) (n B : Nat) (w : World) (x0 s i : Value) (wr : World) : Prop :=
  ∃ k : Nat, k ≤ n ∧ x0 = U64 (x >>> (8 * k)) ∧ Owns wr B 5 s (leB x k) ∧ i = .int .i64 k ∧ Below B w wr
theorem rput_any (x : BitVec 64) (n : Nat) (h1 : 1 ≤ n) (h8 : n ≤ 8) (w : World) : Calls Tryd.prog 29 #[U64 x, .int .i64 n] w fun e w' =>
    ∃ v, e = .returned v ∧ Owns w' w.heap.size 5 v (leB x n) ∧ Below w.heap.size w w' := by
  have hb1 : (1 : Int) ≤ n := by omega
  have hb2 : (n : Int) ≤ 8 := by omega
  obtain ⟨B, hB⟩ : ∃ B, w.heap.size = B := ⟨_, rfl⟩
  rw [hB]
  go_enter Tryd.func29, Tryd.ntmps29
  go_wp2
  go_loopw [0, 5, 6] (fun x0 s i wr => RPutRel x n B w x0 s i wr) (fun _ _ i _ => n - (intOf i).toNat)
  case atStart => exact ⟨0, by omega, by simp, owns_nil _ _ _, rfl, hB ▸ Below.refl _ _⟩
  case round =>
    obtain ⟨k, hk, rfl, ho, rfl, hbw⟩ := hrel
    have hlk := length_leB x k
    have hsn := leB_snoc x k
    generalize hll : leB x k = l at *
    have HLL := Lib.hid hll
    clear hll
    generalize hy : x >>> (8 * k) = y at *
    have HY := Lib.hid hy
    have HSN := Lib.hid hsn
    clear hy hsn
    obtain ⟨a, cap, rfl, _⟩ := ho.reads
    by_cases hlt : k < n
    · have hbs := hbw.size
      have hrz := reads_lit wr #[U8 (y.setWidth 8)] 5 (0, 0) [y.setWidth 8] rfl (by simp)
      have ho' := ho.below (w' := wr.alloc (.cells #[U8 (y.setWidth 8)] 5)) ((Below.refl _ _).alloc (Nat.le_refl _) _)
      have hz' : B ≤ (wr.alloc (.cells #[U8 (y.setWidth 8)] 5)).heap.size := by simp; omega
      have hlen : l.length + 1 ≤ 140737488355328 := by omega
      have hm := mod256 y
      have hd := div256 y
      clear hlk
      go_wp2_with (at_builtin; refine wpList_append_bytes_at byteSlice rfl _ _ rfl B (.slice a l.length cap) l rfl ho' (some ⟨wr.heap.size, 0, none⟩) 1 [y.setWidth 8] rfl hrz hlen hz' ?_; intro v5 w5 ho5 hg5 _)
      go_roundw
      case rel =>
        refine ⟨k + 1, by omega, ?_, ?_, by go_num, below_append hbw (by omega) ho' hg5⟩
        · rw [← HY.out, ← BitVec.shiftRight_add]; rfl
        · rw [HSN.out]; exact ho5
      case measure => simp [intOf]; omega
    · obtain rfl : k = n := by omega
      go_wp2
      go_ret
      exact ⟨_, rfl, HLL.out ▸ ho, hbw⟩
theorem rev_snoc (l : List (BitVec 8)) (k m : Nat) (h : k + m + 1 = l.length) : l.reverse.take (k + 1) = l.reverse.take k ++ [byteAt l m] := by
  rw [List.take_succ_eq_append_getElem (by simp; omega), List.getElem_reverse, byteAt_lt (by omega)]
  congr 3
  omega
def RBackRel (l : List (BitVec 8)) (B : Nat) (w : World) (s i : Value) (wr : World) : Prop :=
  ∃ (k : Nat), k ≤ l.length ∧ Owns wr B 5 s (l.reverse.take k) ∧ i = .int .i64 ((l.length : Int) - 1 - k) ∧ Below B w wr
theorem rback_any (a : Option Addr) (cap : Nat) (l : List (BitVec 8)) (w : World) (hr : Reads w a cap l) (hl : l.length ≤ 1000) : Calls Tryd.prog 37 #[.slice a l.length cap] w fun e w' =>
    ∃ v, e = .returned v ∧ Owns w' w.heap.size 5 v l.reverse ∧ Below w.heap.size w w' := by
  obtain ⟨B, hB⟩ : ∃ B, w.heap.size = B := ⟨_, rfl⟩
  rw [hB]
  have hlN : (l.length : Int) ≤ 1000 := by omega
  go_enter Tryd.func37, Tryd.ntmps37
  go_wp2
  go_loopw [3, 4] (fun s i wr => RBackRel l B w s i wr) (fun _ i _ => (intOf i + 1).toNat)
  case atStart => exact ⟨0, by omega, owns_nil _ _ _, by simp, hB ▸ Below.refl _ _⟩
  case round =>
    obtain ⟨k, hk, ho, rfl, hbw⟩ := hrel
    by_cases hlt : k < l.length
    · obtain ⟨m, hm⟩ : ∃ m : Nat, (l.length : Int) - 1 - k = m := ⟨l.length - 1 - k, by omega⟩
      have hkm : k + m + 1 = l.length := by omega
      rw [hm]
      obtain ⟨b, off, rfl, hby⟩ := hr.bytes.resolve_left (fun e => by rw [e] at hlt; simp at hlt)
      have hc : wr.cell? ⟨b, off + m, none⟩ = some (U8 (byteAt l m)) := (hby.mono (Keeps.below (hB ▸ hbw) ⟨b, ·, none⟩)) m (by omega)
      have hsn := rev_snoc l k m hkm
      have hlk : (l.reverse.take k).length ≤ 1000 := by rw [List.length_take, List.length_reverse]; omega
      generalize l.reverse.take k = t at *
      obtain ⟨a5, c5, rfl, _⟩ := ho.reads
      have HSN := Lib.hid hsn
      have HM := Lib.hid hm
      have hml : m < l.length := by omega
      have HKM := Lib.hid hkm
      clear hsn hm hkm hby hr
      generalize byteAt l m = c at *
      have hbs := hbw.size
      have hrz := reads_lit wr #[U8 c] 5 (0, 0) [c] rfl (by simp)
      have ho' := ho.below (w' := wr.alloc (.cells #[U8 c] 5)) ((Below.refl _ _).alloc (Nat.le_refl _) _)
      have hz' : B ≤ (wr.alloc (.cells #[U8 c] 5)).heap.size := by simp; omega
      have hlen : t.length + 1 ≤ 140737488355328 := by omega
      go_wp2_with (at_builtin; refine wpList_append_bytes_at byteSlice rfl _ _ rfl B (.slice a5 t.length c5) t rfl ho' (some ⟨wr.heap.size, 0, none⟩) 1 [c] rfl hrz hlen hz' ?_; intro v6 w5 ho5 hg5 _)
      go_roundw
      case rel =>
        have h2 := HM.out
        refine ⟨k + 1, by omega, ?_, by simp only [Value.int.injEq, true_and]; omega, below_append hbw (by omega) ho' hg5⟩
        rw [HSN.out]; exact ho5
      case measure => simp [intOf] <;> omega
    · obtain rfl : k = l.length := by omega
      rw [show (l.length : Int) - 1 - (l.length : Nat) = -1 by omega]
      rw [List.take_of_length_le (by simp)] at ho
      clear hr
      go_wp2
      go_ret
      exact ⟨_, rfl, ho, hbw⟩
theorem shl_or (x : BitVec 64) (c : BitVec 8) : x * 256#64 + c.setWidth 64 = x <<< 8 ||| c.setWidth 64 := by
  have h1 : x * 256#64 = x <<< 8 := by
    apply BitVec.eq_of_toNat_eq
    simp [BitVec.toNat_mul, BitVec.toNat_shiftLeft, Nat.shiftLeft_eq]
  rw [h1]
  apply BitVec.add_eq_or_of_and_eq_zero
  apply BitVec.eq_of_getLsbD_eq
  intro i hi
  simp only [BitVec.getLsbD_and, BitVec.getLsbD_shiftLeft, BitVec.getLsbD_setWidth, hi, decide_true, Bool.true_and, BitVec.getLsbD_zero]
  by_cases h : i < 8
  · simp [h]
  · rw [BitVec.getLsbD_of_ge c _ (by omega)]; simp
def RGetRel (l : List (BitVec 8)) (w : World) (x i : Value) (wr : World) : Prop :=
  ∃ (k : Nat), k ≤ l.length ∧ x = U64 (bigOf (l.reverse.take k)) ∧ i = .int .i64 ((l.length : Int) - 1 - k) ∧ wr = w
theorem rget_any (b off cap : Nat) (l : List (BitVec 8)) (w : World) (h1 : 1 ≤ l.length) (h8 : l.length ≤ 8) (hb : BytesAt w b off l) :
    Calls Tryd.prog 39 #[.slice (some ⟨b, off, none⟩) l.length cap] w fun e w' => e = .returned (.tuple #[U64 (bigOf l.reverse), .bool true]) ∧ w = w' := by
  have hl0 : ¬ ((l.length : Int) = 0) := by omega
  have hl1 : ((l.length : Int) == 0) = false := by simpa using hl0
  have hl8 : (l.length : Int) ≤ 8 := by omega
  go_enter Tryd.func39, Tryd.ntmps39
  go_wp2
  go_loopw [4, 5] (fun x i wr => RGetRel l w x i wr) (fun _ i _ => (intOf i + 1).toNat)
  case atStart => exact ⟨0, Nat.zero_le _, rfl, by simp, rfl⟩
  case round =>
    obtain ⟨k, hk, rfl, rfl, hw⟩ := hrel
    by_cases hlt : k < l.length
    · obtain ⟨m, hm⟩ : ∃ m : Nat, (l.length : Int) - 1 - k = m := ⟨l.length - 1 - k, by omega⟩
      have hkm : k + m + 1 = l.length := by omega
      rw [hm]
      have hc : wr.cell? ⟨b, off + m, none⟩ = some (U8 (byteAt l m)) := hw ▸ hb m (by omega)
      have hsn := rev_snoc l k m hkm
      have hbg : bigOf (l.reverse.take (k + 1)) = bigOf (l.reverse.take k) * 256#64 + (byteAt l m).setWidth 64 := by
        rw [shl_or, hsn]; unfold bigOf; rw [List.foldl_append]; rfl
      have HM := Lib.hid hm
      have HG := Lib.hid hbg
      have hml : m < l.length := by omega
      have HW := Lib.hid hw
      have HKM := Lib.hid hkm
      clear hsn hm hbg hkm hb hw
      generalize byteAt l m = c at *
      generalize bigOf (l.reverse.take k) = x at *
      go_wp2
      go_roundw
      case rel =>
        have h2 := HM.out
        exact ⟨k + 1, by omega, by rw [HG.out], by simp only [Value.int.injEq, true_and]; omega, HW.out⟩
      case measure => simp [intOf] <;> omega
    · obtain rfl : k = l.length := by omega
      rw [show (l.length : Int) - 1 - (l.length : Nat) = -1 by omega]
      rw [List.take_of_length_le (by simp)]
      have HW := Lib.hid hw
      clear hw hb
      go_wp2
      go_ret2
      exact ⟨rfl, HW.out.symm⟩
end Go.Proofs.YtnodcjjmodbjiaaDoor
