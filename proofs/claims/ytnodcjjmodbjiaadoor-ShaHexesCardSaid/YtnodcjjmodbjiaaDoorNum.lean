/- Numbers as bytes: the program's Put, Reverse, Big. -/
import Derived.Test.YtnodcjjmodbjiaaDoorShaBytes
import Derived.OwnWalk
namespace Go.Proofs.YtnodcjjmodbjiaaDoor
open Go Go.RowKit

/-- The lowest first. -/
def leB (x : BitVec 64) (n : Nat) : List (BitVec 8) := (List.range n).map fun i => (x >>> (8 * i)).setWidth 8
theorem length_leB (x : BitVec 64) (n : Nat) : (leB x n).length = n := by simp [leB]
theorem leB_at (x : BitVec 64) (n i : Nat) (h : i < n) : byteAt (leB x n) i = (x >>> (8 * i)).setWidth 8 := by
  simp [byteAt, leB, List.getD_eq_getElem?_getD, h]
theorem byteAt_set (l : List (BitVec 8)) (i j : Nat) (x : BitVec 8) (h : i < l.length) : byteAt (l.set i x) j = if j = i then x else byteAt l j := by
  unfold byteAt
  rw [List.getD_eq_getElem?_getD, List.getElem?_set, List.getD_eq_getElem?_getD]
  by_cases e : i = j
  · subst e; simp [h]
  · rw [if_neg e, if_neg (fun e2 => e e2.symm)]
/-- 'make([]byte, n)' -/
theorem wpList_make_bytes {P : Program} (w : World) {ops : Array Oper} {rest : List Oper} {o : Oper} {a : Act} {Q : Exit → Act → World → Prop} {t e : TypeId} (T : ByteSlice P t e)
    (hg : o.guard = none) (l c : Operand) (hop : o.op = Op.makeSlice t l c) (n : Nat) (hl : a.eval l = .int .i64 n) (hc : a.eval c = .int .i64 n) (hn : n ≤ 1048576)
    (hK : ∀ w', RowAt w' w.heap.size e w.heap.size n n (List.replicate n 0#8) → Below w.heap.size w w' → wpList P ops Q rest (a.put o.dst (.slice (some ⟨w.heap.size, 0, none⟩) n n)) w') :
    wpList P ops Q (o :: rest) a w := by
  obtain ⟨i, hi, hz0, hz1, hz2⟩ := info_parts T.info
  refine wpList_make_full w hg l c t hop w.heap.size e i (.int .u8 0) 1 T.slice hi hz0 hz1 .i64 .i64 n n n hl hc rfl rfl (by rw [hz2]; omega) (by unfold maxLen; omega) (Nat.le_refl _) ?_
  intro w' h1 h2
  refine hK w' ⟨?_, by simp⟩ ⟨h2.os, h2.tape, h2.output, h2.size, fun k hk => h2.block k hk (by simp)⟩
  rw [show (Value.int IntKind.u8 0).cells = #[.int .u8 0] from rfl, toList_madeCells_one, Nat.mul_one] at h1
  rw [List.map_replicate]
  exact h1
def PutRel (x : BitVec 64) (n B : Nat) (w : World) (i : Value) (wr : World) : Prop :=
  ∃ (k : Nat) (l : List (BitVec 8)), k ≤ n ∧ i = .int .i64 k ∧ RowAt wr B 5 B n n l ∧ (∀ j, j < k → byteAt l j = (x >>> (8 * j)).setWidth 8) ∧ Below B w wr
theorem put_any (x : BitVec 64) (n : Nat) (h1 : 1 ≤ n) (h8 : n ≤ 8) (w : World) : Calls Tryd.prog 42 #[U64 x, .int .i64 n] w fun e w' =>
    e = .returned (.slice (some ⟨w.heap.size, 0, none⟩) n n) ∧ RowAt w' w.heap.size 5 w.heap.size n n (leB x n) ∧ Below w.heap.size w w' := by
  have hb1 : (1 : Int) ≤ n := by omega
  have hb2 : (n : Int) ≤ 8 := by omega
  go_enter Tryd.func42, Tryd.ntmps42
  go_wp2_with (at_make; refine wpList_make_bytes w byteSlice rfl _ _ rfl n rfl rfl (by omega) ?_; intro w1 hr hbl)
  have hB : w.heap.size ≤ w.heap.size := Nat.le_refl _
  generalize hbe : w.heap.size = B at *
  have HBE := Lib.hid hbe
  clear hbe
  go_loopw [17] (fun i wr => PutRel x n B w i wr) (fun i _ => n - (intOf i).toNat)
  case atStart => exact ⟨0, _, by omega, rfl, hr, fun j h => by omega, hbl⟩
  case round =>
    clear hr hbl
    obtain ⟨k, l, hk, rfl, hr, hj, hbw⟩ := hrel
    by_cases hlt : k < n
    · have hth := hr.thawed k
      have hc := hr.cell k hlt
      have HR := Lib.hid hr
      have HJ := Lib.hid hj
      have HB := Lib.hid hbw
      clear hr hj hbw
      have h0 : (0 : Int) ≤ 8 * (k : Int) := by omega
      have ht : (8 * (k : Int)).toNat = 8 * k := by omega
      go_wp2
      go_roundw
      case rel =>
        have t : Touch (fun q => q = B) wr (wr.setCell ⟨B, k, none⟩ (U8 ((x >>> (8 * k)).setWidth 8))) := Touch.set wr B k _ rfl
        refine ⟨k + 1, l.set k ((x >>> (8 * k)).setWidth 8), by omega, by go_num, HR.out.set k _, fun j hj => ?_, HB.out.trans (t.below (fun q e => by omega) (HBE.out ▸ HB.out.size))⟩
        rw [byteAt_set _ _ _ _ (by rw [HR.out.2]; exact hlt)]
        split
        · rename_i e; subst e; rfl
        · exact HJ.out j (by omega)
      case measure => simp [intOf]; omega
    · obtain rfl : k = n := by omega
      have e : l = leB x k := list_ext (by rw [hr.2, length_leB]) fun j h => by rw [hr.2] at h; rw [hj j h, leB_at _ _ _ h]
      subst e
      have HR := Lib.hid hr
      have HB := Lib.hid hbw
      clear hr hj hbw
      go_wp2
      go_ret
      rw [HBE.out]
      exact ⟨rfl, HR.out, HB.out⟩
/-- A row is turned about from its ends: what stands where behind k steps. -/
def RevRel (l : List (BitVec 8)) (B g cap : Nat) (w : World) (i j : Value) (wr : World) : Prop :=
  ∃ (k : Nat) (f : List (BitVec 8)), 2 * k ≤ l.length ∧ i = .int .i64 k ∧ j = .int .i64 ((l.length : Int) - 1 - k) ∧ RowAt wr B 5 g cap l.length f ∧
    (∀ q, q < l.length → byteAt f q = if q < k ∨ l.length - k ≤ q then byteAt l (l.length - 1 - q) else byteAt l q) ∧ Touch (fun q => q = g) w wr
theorem reverse_any (l : List (BitVec 8)) (B g cap : Nat) (w : World) (h0 : 1 ≤ l.length) (hl : l.length ≤ 1048576) (hr : RowAt w B 5 g cap l.length l) :
    Calls Tryd.prog 43 #[.slice (some ⟨g, 0, none⟩) l.length cap] w fun e w' => e = .returned (.tuple #[]) ∧ RowAt w' B 5 g cap l.length l.reverse ∧ Touch (fun q => q = g) w w' := by
  have hl0 : (1 : Int) ≤ l.length := by omega
  have hl8 : (l.length : Int) ≤ 1048576 := by omega
  go_enter Tryd.func43, Tryd.ntmps43
  go_wp2
  go_loopw [2, 3] (fun i j wr => RevRel l B g cap w i j wr) (fun i _ _ => l.length - (intOf i).toNat)
  case atStart => exact ⟨0, l, by omega, rfl, by simp, hr, fun q h => by rw [if_neg (by omega)], Touch.refl _ _⟩
  case round =>
    clear hr
    obtain ⟨k, f, hk, rfl, rfl, hr, hq, ht⟩ := hrel
    by_cases hlt : 2 * k + 1 < l.length
    · obtain ⟨m, hm⟩ : ∃ m : Nat, (l.length : Int) - 1 - k = m := ⟨l.length - 1 - k, by omega⟩
      have hm2 : m = l.length - 1 - k := by omega
      rw [hm]
      have c1 := hr.cell k (by omega)
      have c2 := hr.cell m (by omega)
      have f1 := hr.thawed k
      have f2 := hr.thawed m
      have hkm : k ≠ m := by omega
      have hq1 := hq k (by omega)
      have hq2 := hq m (by omega)
      rw [if_neg (by omega)] at hq1 hq2
      rw [hq1] at c1
      rw [hq2] at c2
      have HR := Lib.hid hr
      have HQ := Lib.hid hq
      have HT := Lib.hid ht
      have H1 := Lib.hid hq1
      have H2 := Lib.hid hq2
      clear hr hq ht hq1 hq2
      have hlen : m < l.length := by omega
      have hlen1 : k < l.length := by omega
      have hkm2 : (k : Int) < m := by omega
      have HM := Lib.hid hm2
      clear hm hm2
      generalize e1 : byteAt l k = xk at *
      generalize e2 : byteAt l m = xm at *
      have E1 := Lib.hid e1
      have E2 := Lib.hid e2
      clear e1 e2
      go_wp2_with fail
      go_region
      clear c1 c2 f1 f2
      go_wp2
      go_roundw
      case rel =>
        have hml := HM.out
        have hfl : f.length = l.length := HR.out.2
        have t : Touch (fun q => q = g) wr ((wr.setCell ⟨g, k, none⟩ (U8 xm)).setCell ⟨g, m, none⟩ (U8 xk)).drew := by
          have t1 : Touch (fun q => q = g) wr (wr.setCell ⟨g, k, none⟩ (U8 xm)) := Touch.set wr g k _ rfl
          have t2 : Touch (fun q => q = g) (wr.setCell ⟨g, k, none⟩ (U8 xm)) ((wr.setCell ⟨g, k, none⟩ (U8 xm)).setCell ⟨g, m, none⟩ (U8 xk)) := Touch.set _ g m _ rfl
          exact (t1.trans t2).drewN 1
        have hr2 : RowAt ((wr.setCell ⟨g, k, none⟩ (U8 xm)).setCell ⟨g, m, none⟩ (U8 xk)).drew B 5 g cap l.length ((f.set k xm).set m xk) := ((HR.out.set k xm).set m xk).drewN 1
        refine ⟨k + 1, (f.set k xm).set m xk, by omega, by go_num, by simp only [Value.int.injEq, true_and]; omega, hr2, fun q hq => ?_, HT.out.trans t⟩
        rw [byteAt_set _ _ _ _ (by simp; omega), byteAt_set _ _ _ _ (by omega)]
        by_cases hqm : q = m
        · rw [if_pos hqm, if_pos (by omega), ← E1.out]; congr 1; omega
        · rw [if_neg hqm]
          by_cases hqk : q = k
          · rw [if_pos hqk, if_pos (by omega), ← E2.out]; congr 1; omega
          · rw [if_neg hqk, HQ.out q hq]
            by_cases hq3 : q < k ∨ l.length - k ≤ q
            · rw [if_pos hq3, if_pos (by omega)]
            · rw [if_neg hq3, if_neg (by omega)]
      case measure => simp [intOf]; omega
    · have e : f = l.reverse := list_ext (by rw [hr.2, List.length_reverse]) fun j h => by
        have h2 : j < l.length := by rw [hr.2] at h; exact h
        have h3 : byteAt l.reverse j = byteAt l (l.length - 1 - j) := by
          rw [byteAt_lt (by simpa using h2), List.getElem_reverse, byteAt_lt (by omega)]
        rw [hq j h2, h3]
        by_cases hq3 : j < k ∨ l.length - k ≤ j
        · rw [if_pos hq3]
        · rw [if_neg hq3]; congr 1; omega
      subst e
      have HR := Lib.hid hr
      have HT := Lib.hid ht
      clear hr hq ht
      go_wp2
      exact bodyPost_end (results_none rfl _ _ _) rfl ⟨rfl, HR.out, HT.out⟩
/-- The highest first. -/
def beB (x : BitVec 64) (n : Nat) : List (BitVec 8) := (leB x n).reverse
theorem length_beB (x : BitVec 64) (n : Nat) : (beB x n).length = n := by rw [beB, List.length_reverse, length_leB]
theorem big_any (x : BitVec 64) (n : Nat) (h1 : 1 ≤ n) (h8 : n ≤ 8) (w : World) : Calls Tryd.prog 34 #[U64 x, .int .i64 n] w fun e w' =>
    e = .returned (.slice (some ⟨w.heap.size, 0, none⟩) n n) ∧ RowAt w' w.heap.size 5 w.heap.size n n (beB x n) ∧ Below w.heap.size w w' := by
  have PU := put_any x n h1 h8 w
  have hl := length_leB x n
  have RV : ∀ w', RowAt w' w.heap.size 5 w.heap.size n n (leB x n) → Calls Tryd.prog 43 #[.slice (some ⟨w.heap.size, 0, none⟩) n n] w' fun e w'' => e = .returned (.tuple #[]) ∧ RowAt w'' w.heap.size 5 w.heap.size n n (beB x n) ∧ Touch (fun q => q = w.heap.size) w' w'' := by
    intro w' hr
    have := reverse_any (leB x n) w.heap.size w.heap.size n w' (by omega) (by omega) (by rw [hl]; exact hr)
    rw [hl] at this
    exact this
  go_enter Tryd.func34, Tryd.ntmps34
  go_wp2_with fail
  refine PU.mono ?_
  rintro e w1 ⟨rfl, hr, hb⟩
  go_wp2_with fail
  refine (RV _ hr).mono ?_
  rintro e w2 ⟨rfl, hr2, ht⟩
  go_wp2
  go_ret
  exact ⟨rfl, hr2, hb.trans (ht.below (fun q e => by omega) hb.size)⟩
end Go.Proofs.YtnodcjjmodbjiaaDoor
