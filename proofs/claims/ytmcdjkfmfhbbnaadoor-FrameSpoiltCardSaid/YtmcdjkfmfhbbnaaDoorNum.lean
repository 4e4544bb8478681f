/- Numbers as bytes: the program's Put and Get, the reference's. -/
import Derived.Test.YtmcdjkfmfhbbnaaDoorNumMath
import Derived.Test.YtmcdjkfmfhbbnaaDoorR01
import Derived.Test.YtmcdjkfmfhbbnaaDoorE
import Derived.OwnWalk
namespace Go.Proofs.YtmcdjkfmfhbbnaaDoor
open Go Go.RowKit

theorem below_drewN {B : Nat} {w w' : World} (h : Below B w w') (n : Nat) : Below B w (w'.drewN n) := ⟨h.os, h.tape, h.output, h.size, h.block⟩
theorem below_append {B : Nat} {E : TypeId} {w w2 w3 : World} {o : Obj} {v : Value} {l : List (BitVec 8)} (hb : Below B w w2) (hB : B ≤ w.heap.size) (ho : Owns (w2.alloc o) B E v l) (hg : (w2.alloc o).grownBy w3 v.ownBlock) : Below B w w3 := by
  have h1 := hb.size
  have h2 : B ≤ (w2.alloc o).heap.size := by simp; omega
  exact (hb.alloc (by omega) o).trans ((Touch.of_grown (F := fun k => v.ownBlock = some k) hg fun k hk => hk).below (fun k hk => (row_lt ho hk).1) h2)
/-- 'make([]byte, n)' -/
theorem wpList_make_bytes {P : Program} (w : World) {ops : Array Oper} {rest : List Oper} {o : Oper} {a : Act} {Q : Exit → Act → World → Prop} {t e : TypeId} (T : ByteSlice P t e)
    (hg : o.guard = none) (l c : Operand) (hop : o.op = Op.makeSlice t l c) (n : Nat) (hl : a.eval l = .int .i64 n) (hc : a.eval c = .int .i64 n) (hn : n ≤ 1048576)
    (hK : ∀ w', RowAt w' w.heap.size e w.heap.size n n (List.replicate n 0#8) → Below w.heap.size w w' → wpList P ops Q rest (a.put o.dst (.slice (some ⟨w.heap.size, 0, none⟩) n n)) w') :
    wpList P ops Q (o :: rest) a w := by
  obtain ⟨i, hi, hz0, hz1, hz2⟩ := info_parts T.info
  refine wpList_make_full w hg l c t hop w.heap.size e i (.int .u8 0) 1 T.slice hi hz0 hz1 .i64 .i64 n n n hl hc rfl rfl (by rw [hz2]; omega) (by unfold maxLen; omega) (Nat.le_refl _) ?_
  intro w' h1 h2
  refine hK w' ⟨?_, by simp⟩ ⟨h2.os, h2.tape, h2.output, h2.size, fun k hk => h2.block k hk (by simp)⟩
  rw [show (Value.int IntKind.u8 0).cells = #[.int .u8 0] from rfl, toList_madeCells_one, Nat.mul_one] at h1
  rw [List.map_replicate]
  exact h1
def PutRel (x : BitVec 64) (n B : Nat) (w : World) (i : Value) (wr : World) : Prop :=
  ∃ (k : Nat) (l : List (BitVec 8)), k ≤ n ∧ i = .int .i64 k ∧ RowAt wr B 5 B n n l ∧ (∀ j, j < k → byteAt l j = (x >>> (8 * j)).setWidth 8) ∧ Below B w wr
theorem put_any (x : BitVec 64) (n : Nat) (h1 : 1 ≤ n) (h8 : n ≤ 8) (w : World) : Calls Tryd.prog 30 #[U64 x, .int .i64 n] w fun e w' =>
    e = .returned (.slice (some ⟨w.heap.size, 0, none⟩) n n) ∧ RowAt w' w.heap.size 5 w.heap.size n n (leB x n) ∧ Below w.heap.size w w' := by
  have hb1 : (1 : Int) ≤ n := by omega
  have hb2 : (n : Int) ≤ 8 := by omega
  go_enter Tryd.func30, Tryd.ntmps30
  go_wp2_with (at_make; refine wpList_make_bytes w byteSlice rfl _ _ rfl n rfl rfl (by omega) ?_; intro w1 hr hbl)
  generalize hbe : w.heap.size = B at *
  have HBE := Lib.hid hbe
  clear hbe
  go_loopw [17] (fun i wr => PutRel x n B w i wr) (fun i _ => n - (intOf i).toNat)
  case atStart => exact ⟨0, _, by omega, rfl, hr, fun j h => by omega, hbl⟩
  case round =>
    clear hr hbl
    obtain ⟨k, l, hk, rfl, hr, hj, hbw⟩ := hrel
    by_cases hlt : k < n
    · have hth := hr.thawed k
      have hc := hr.cell k hlt
      have HR := Lib.hid hr
      have HJ := Lib.hid hj
      have HB := Lib.hid hbw
      clear hr hj hbw
      have h0 : (0 : Int) ≤ 8 * (k : Int) := by omega
      have ht : (8 * (k : Int)).toNat = 8 * k := by omega
      go_wp2
      go_roundw
      case rel =>
        have t : Touch (fun q => q = B) wr (wr.setCell ⟨B, k, none⟩ (U8 ((x >>> (8 * k)).setWidth 8))) := Touch.set wr B k _ rfl
        refine ⟨k + 1, l.set k ((x >>> (8 * k)).setWidth 8), by omega, by go_num, HR.out.set k _, fun j hj => ?_, HB.out.trans (t.below (fun q e => by omega) (HBE.out ▸ HB.out.size))⟩
        rw [byteAt_set _ _ _ _ (by rw [HR.out.2]; exact hlt)]
        split
        · rename_i e; subst e; rfl
        · exact HJ.out j (by omega)
      case measure => simp [intOf]; omega
    · obtain rfl : k = n := by omega
      have e : l = leB x k := list_ext (by rw [hr.2, length_leB]) fun j h => by rw [hr.2] at h; rw [hj j h, leB_at _ _ _ h]
      subst e
      have HR := Lib.hid hr
      have HB := Lib.hid hbw
      clear hr hj hbw
      go_wp2
      go_ret
      rw [HBE.out]
      exact ⟨rfl, HR.out, HB.out⟩
def RPutRel (x : BitVec 64) (n B : Nat) (w : World) (x0 s i : Value) (wr : World) : Prop :=
  ∃ k : Nat, k ≤ n ∧ x0 = U64 (x >>> (8 * k)) ∧ Owns wr B 5 s (leB x k) ∧ i = .int .i64 k ∧ Below B w wr
theorem rput_any (x : BitVec 64) (n : Nat) (h1 : 1 ≤ n) (h8 : n ≤ 8) (w : World) : Calls Tryd.prog 32 #[U64 x, .int .i64 n] w fun e w' =>
    ∃ v, e = .returned v ∧ Owns w' w.heap.size 5 v (leB x n) ∧ Below w.heap.size w w' := by
  have hb1 : (1 : Int) ≤ n := by omega
  have hb2 : (n : Int) ≤ 8 := by omega
  obtain ⟨B, hB⟩ : ∃ B, w.heap.size = B := ⟨_, rfl⟩
  rw [hB]
  go_enter Tryd.func32, Tryd.ntmps32
  go_wp2
  go_loopw [0, 5, 6] (fun x0 s i wr => RPutRel x n B w x0 s i wr) (fun _ _ i _ => n - (intOf i).toNat)
  case atStart => exact ⟨0, by omega, by simp, owns_nil _ _ _, rfl, hB ▸ Below.refl _ _⟩
  case round =>
    obtain ⟨k, hk, rfl, ho, rfl, hbw⟩ := hrel
    have hlk := length_leB x k
    have hsn := leB_snoc x k
    generalize hll : leB x k = l at *
    have HLL := Lib.hid hll
    clear hll
    generalize hy : x >>> (8 * k) = y at *
    have HY := Lib.hid hy
    have HSN := Lib.hid hsn
    clear hy hsn
    obtain ⟨a, cap, rfl, _⟩ := ho.reads
    by_cases hlt : k < n
    · have hbs := hbw.size
      have hrz := reads_lit wr #[U8 (y.setWidth 8)] 5 (0, 0) [y.setWidth 8] rfl (by simp)
      have ho' := ho.below (w' := wr.alloc (.cells #[U8 (y.setWidth 8)] 5)) ((Below.refl _ _).alloc (Nat.le_refl _) _)
      have hz' : B ≤ (wr.alloc (.cells #[U8 (y.setWidth 8)] 5)).heap.size := by simp; omega
      have hlen : l.length + 1 ≤ 140737488355328 := by omega
      have hm := mod256 y
      have hd := div256 y
      clear hlk
      go_wp2_with (at_builtin; refine wpList_append_bytes_at byteSlice rfl _ _ rfl B (.slice a l.length cap) l rfl ho' (some ⟨wr.heap.size, 0, none⟩) 1 [y.setWidth 8] rfl hrz hlen hz' ?_; intro v5 w5 ho5 hg5 _)
      go_roundw
      case rel =>
        refine ⟨k + 1, by omega, ?_, ?_, by go_num, below_append hbw (by omega) ho' hg5⟩
        · rw [← HY.out, ← BitVec.shiftRight_add]; rfl
        · rw [HSN.out]; exact ho5
      case measure => simp [intOf]; omega
    · obtain rfl : k = n := by omega
      go_wp2
      go_ret
      exact ⟨_, rfl, HLL.out ▸ ho, hbw⟩
def GetRel (l : List (BitVec 8)) (w : World) (x i : Value) (wr : World) : Prop := ∃ k : Nat, k ≤ l.length ∧ i = .int .i64 k ∧ x = U64 (leOf (l.take k)) ∧ wr = w
theorem leOf_take (l : List (BitVec 8)) (k : Nat) (h : k < l.length) (h8 : l.length ≤ 8) : leOf (l.take (k + 1)) = leOf (l.take k) ||| (byteAt l k).setWidth 64 <<< (8 * k) := by
  rw [take_snoc l k h, leOf_snoc _ _ (by rw [List.length_take]; omega), List.length_take, Nat.min_eq_left (by omega)]
theorem get_any (b off cap : Nat) (l : List (BitVec 8)) (w : World) (h1 : 1 ≤ l.length) (h8 : l.length ≤ 8) (hb : BytesAt w b off l) :
    Calls Tryd.prog 42 #[.slice (some ⟨b, off, none⟩) l.length cap] w fun e w' => e = .returned (.tuple #[U64 (leOf l), .bool true]) ∧ w = w' := by
  have hl0 : (1 : Int) ≤ l.length := by omega
  have hl8 : (l.length : Int) ≤ 8 := by omega
  go_enter Tryd.func42, Tryd.ntmps42
  go_wp2
  go_loopw [4, 17] (fun x i wr => GetRel l w x i wr) (fun _ i _ => l.length - (intOf i).toNat)
  case atStart => exact ⟨0, Nat.zero_le _, rfl, rfl, rfl⟩
  case round =>
    obtain ⟨k, hk, rfl, rfl, hw⟩ := hrel
    by_cases hlt : k < l.length
    · have hc : wr.cell? ⟨b, off + k, none⟩ = some (U8 (byteAt l k)) := hw ▸ hb k hlt
      have HW := Lib.hid hw
      have HS := Lib.hid (leOf_take l k hlt h8)
      clear hw hb
      generalize byteAt l k = c at *
      have h0 : (0 : Int) ≤ 8 * (k : Int) := by omega
      have ht : (8 * (k : Int)).toNat = 8 * k := by omega
      generalize leOf (l.take k) = x at *
      go_wp2
      go_roundw
      case rel => exact ⟨k + 1, by omega, by go_num, by rw [HS.out], HW.out⟩
      case measure => simp [intOf]; omega
    · obtain rfl : k = l.length := by omega
      have HW := Lib.hid hw
      clear hw hb
      go_wp2
      go_ret2
      exact ⟨by rw [List.take_length]; rfl, HW.out.symm⟩
def RGetRel (l : List (BitVec 8)) (w : World) (x i : Value) (wr : World) : Prop :=
  ∃ (k : Nat), k ≤ l.length ∧ x = U64 (leOf (l.drop k)) ∧ i = .int .i64 ((k : Int) - 1) ∧ wr = w
theorem rget_any (b off cap : Nat) (l : List (BitVec 8)) (w : World) (h1 : 1 ≤ l.length) (h8 : l.length ≤ 8) (hb : BytesAt w b off l) :
    Calls Tryd.prog 37 #[.slice (some ⟨b, off, none⟩) l.length cap] w fun e w' => e = .returned (.tuple #[U64 (leOf l), .bool true]) ∧ w = w' := by
  have hl0 : ¬ ((l.length : Int) = 0) := by omega
  have hl1 : ((l.length : Int) == 0) = false := by simpa using hl0
  have hl8 : (l.length : Int) ≤ 8 := by omega
  go_enter Tryd.func37, Tryd.ntmps37
  go_wp2
  go_loopw [4, 5] (fun x i wr => RGetRel l w x i wr) (fun _ i _ => (intOf i + 1).toNat)
  case atStart => exact ⟨l.length, Nat.le_refl _, by simp [leOf, leN]; rfl, rfl, rfl⟩
  case round =>
    obtain ⟨k, hk, rfl, rfl, hw⟩ := hrel
    by_cases hlt : 0 < k
    · obtain ⟨m, rfl⟩ : ∃ m, k = m + 1 := ⟨k - 1, by omega⟩
      have hm : ((m + 1 : Nat) : Int) - 1 = m := by omega
      rw [hm]
      have hml : m < l.length := by omega
      have hc : wr.cell? ⟨b, off + m, none⟩ = some (U8 (byteAt l m)) := hw ▸ hb m hml
      have hbg : leOf (l.drop m) = leOf (l.drop (m + 1)) * 256#64 + (byteAt l m).setWidth 64 := by
        rw [List.drop_eq_getElem_cons hml, leOf_cons, byteAt_lt hml]
      have HG := Lib.hid hbg
      have HW := Lib.hid hw
      clear hbg hb hw hm
      generalize byteAt l m = c at *
      generalize leOf (l.drop (m + 1)) = x at *
      go_wp2
      go_roundw
      case rel => exact ⟨m, by omega, by rw [HG.out], rfl, HW.out⟩
      case measure => simp [intOf]
    · obtain rfl : k = 0 := by omega
      have HW := Lib.hid hw
      clear hw hb
      go_wp2
      go_ret2
      exact ⟨rfl, HW.out.symm⟩
end Go.Proofs.YtmcdjkfmfhbbnaaDoor
