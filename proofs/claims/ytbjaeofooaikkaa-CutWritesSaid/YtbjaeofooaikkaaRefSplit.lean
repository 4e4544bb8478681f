/- The chunks of a stream, in the document's answer. -/
import Derived.Test.YtbjaeofooaikkaaFirst
namespace Go.Proofs.Ytbjaeofooaikkaa
open Go Go.RowKit

theorem rowsElem : Elem Try.prog 28 25 (.slice none 0 0) 24 := ⟨by kernel_rfl, by kernel_rfl, rfl⟩
/-- What was there, but for one slice's block. -/
def OldBut (a : Option Addr) (w : World) (k : Nat) : Prop := k < w.heap.size ∧ ∀ ad, a = some ad → ad.block ≠ k
theorem reads_lt {w : World} {a : Option Addr} {cap : Nat} {l : List (BitVec 8)} (h : Reads w a cap l) (hl : l ≠ []) : ∃ b off, a = some ⟨b, off, none⟩ ∧ b < w.heap.size := by
  rcases h.bytes with e | ⟨b, off, e, hb⟩
  · exact (hl e).elim
  · have h0 : 0 < l.length := List.length_pos_iff.2 hl
    exact ⟨b, off, e, World.block_lt_of_cell? w _ (hb 0 h0)⟩
theorem reads_addr {w : World} {a : Option Addr} {cap : Nat} {l : List (BitVec 8)} (h : Reads w a cap l) (hl : l ≠ []) : ∀ ad, a = some ad → ad.block < w.heap.size := fun ad e => by
  obtain ⟨b, off, e2, hb⟩ := reads_lt h hl
  rw [e] at e2; cases e2; exact hb
theorem dropAddr_block {a : Option Addr} {cap n : Nat} {ad : Addr} (h : dropAddr a cap n = some ad) : ∃ ad0, a = some ad0 ∧ ad.block = ad0.block := by
  unfold dropAddr at h
  split at h
  · exact ⟨ad, h, rfl⟩
  · cases a with
    | none => simp at h
    | some ad0 =>
      simp only [Option.map_some, Option.some.injEq] at h
      refine ⟨ad0, rfl, ?_⟩
      rw [← h]; unfold Addr.add; split <;> rfl
/-- What the document's Split gives. -/
def Splits (h : CutMath.Sh) (a : Option Addr) (l : List (BitVec 8)) (w : World) (e : Ending) (w' : World) : Prop :=
  ∃ v vs, e = .returned (.tuple #[v, .bool (CutMath.endedB h l)]) ∧ OwnsRows (OldBut a w) w' w.heap.size 25 v vs (CutMath.split h l) ∧ Below w.heap.size w w'
structure SplitInv (h : CutMath.Sh) (a : Option Addr) (cap : Nat) (l : List (BitVec 8)) (w w1 : World) (s v : Value) (en : Bool) (k : Nat) (vs : List Value) (ls : List (List (BitVec 8))) (wr : World) (A : Option Addr) : Prop where
  le : k ≤ l.length
  sv : s = .slice A (l.length - k) (cap - k)
  reads : Reads wr A (cap - k) (l.drop k)
  blk : ∀ ad, A = some ad → ∃ ad0, a = some ad0 ∧ ad.block = ad0.block
  rows : OwnsRows (OldBut a w) wr w1.heap.size 25 v vs ls
  splitEq : CutMath.split h l = ls ++ CutMath.split h (l.drop k)
  few : ls.length ≤ k
  ended : CutMath.endedB h l = if l.drop k = [] then en else CutMath.endedB h (l.drop k)
  below : Below w1.heap.size w1 wr
def SplitRel (h : CutMath.Sh) (a : Option Addr) (cap : Nat) (l : List (BitVec 8)) (w w1 : World) (s v en : Value) (wr : World) : Prop :=
  ∃ k vs ls A b, en = .bool b ∧ SplitInv h a cap l w w1 s v b k vs ls wr A
/-- A chunk more. -/
theorem SplitInv.step {h : CutMath.Sh} {a : Option Addr} {cap : Nat} {l : List (BitVec 8)} {w w1 : World} {s v v' : Value} {en : Bool} {k n : Nat} {vs : List Value} {ls : List (List (BitVec 8))} {wr w2 w' : World} {A : Option Addr}
    (i : SplitInv h a cap l w w1 s v en k vs ls wr A) (hlt : k < l.length) (ha : ∀ ad, a = some ad → ad.block < w.heap.size) (n1 : 1 ≤ n) (n2 : n ≤ l.length - k)
    (hn : ((∀ m, 1 ≤ m → m < n → CutMath.ends h ((l.drop k).take m) = false) ∧ CutMath.ends h ((l.drop k).take n) = true) ∨ (n = l.length - k ∧ ∀ m, 1 ≤ m → m ≤ l.length - k → CutMath.ends h ((l.drop k).take m) = false))
    (hw1 : w.heap.size ≤ w1.heap.size) (hb2 : Below wr.heap.size wr w2)
    (h1 : w'.ownsRow w1.heap.size 25 1 v' (ls.length + 1) (vs ++ [.slice A n (cap - k)])) (hg : w2.grownBy w' v.ownBlock) (hb : v'.ownBlock = v.ownBlock ∨ v'.ownBlock = some w2.heap.size) :
    SplitInv h a cap l w w1 (.slice (dropAddr A (cap - k) n) (l.length - k - n) (cap - k - n)) v' (CutMath.ends h ((l.drop k).take n)) (k + n) (vs ++ [.slice A n (cap - k)]) (ls ++ [(l.drop k).take n]) w' (dropAddr A (cap - k) n) := by
  have hlen : (l.drop k).length = l.length - k := List.length_drop
  have hne : l.drop k ≠ [] := fun e => by rw [e] at hlen; simp at hlen; omega
  have htl : ((l.drop k).take n).length = n := by rw [List.length_take]; omega
  have hr2 : Reads w2 A (cap - k) (l.drop k) := i.reads.keeps (Keeps.below hb2)
  have rows2 := i.rows.touch (.of_below hb2)
  have hblk : ∀ ad, A = some ad → ad.block < w.heap.size ∧ ¬ OldBut a w ad.block := fun ad e => by
    obtain ⟨ad0, e0, e1⟩ := i.blk ad e
    have := ha ad0 e0
    exact ⟨by omega, fun o => o.2 ad0 e0 e1.symm⟩
  have hw : w1.heap.size ≤ w2.heap.size := Nat.le_trans i.below.size hb2.size
  have ch : Chunk (OldBut a w) w2 (.slice A n (cap - k)) ((l.drop k).take n) := by
    refine ⟨A, cap - k, by rw [htl], hr2.take n, fun ad e => ⟨(hblk ad e).2, ?_⟩⟩
    have := (hblk ad e).1; omega
  have t : Touch (fun b => v.ownBlock = some b) w2 w' := .of_grown hg fun b hb => hb
  have hoff : ∀ ad, A = some ad → ¬ v.ownBlock = some ad.block := fun ad e hv => by
    have h5 := (row_lt i.rows.row hv).1
    have h6 := (hblk ad e).1
    omega
  have hb3 : Below w1.heap.size w2 w' := t.below (fun b hv => (row_lt i.rows.row hv).1) hw
  refine ⟨by omega, by rw [show l.length - (k + n) = l.length - k - n by omega, show cap - (k + n) = cap - k - n by omega], ?_, ?_, ?_, ?_, by rw [List.length_append, List.length_singleton]; have := i.few; omega, ?_, ?_⟩
  · rw [← List.drop_drop, show cap - (k + n) = cap - k - n by omega]
    refine (t.reads hr2 hoff).drop n (by omega)
  · intro ad e
    obtain ⟨ad0, e0, e1⟩ := dropAddr_block e
    obtain ⟨ad1, e2, e3⟩ := i.blk ad0 e0
    exact ⟨ad1, e2, e1.trans e3⟩
  · exact rows2.snoc ch (fun b hb => by have := hb.1; omega) h1 hg hb fun ad m c e => by
      injection e with e _ _
      exact hoff ad e
  · rw [i.splitEq, List.append_assoc, ← List.drop_drop]
    congr 1
    rcases hn with ⟨g1, g2⟩ | ⟨g1, g2⟩
    · rw [CutMath.split_hit n1 (by omega) g1 g2]; rfl
    · have e1 : (l.drop k).drop n = [] := List.drop_eq_nil_of_le (by omega)
      rw [CutMath.split_miss (fun m m1 m2 => g2 m m1 (by omega)) hne, e1, List.take_of_length_le (by omega), CutMath.split_nil]; rfl
  · rw [i.ended, if_neg hne, ← List.drop_drop]
    rcases hn with ⟨g1, g2⟩ | ⟨g1, g2⟩
    · rw [CutMath.ended_hit n1 (by omega) g1 g2, g2]
      split
      · rename_i e; rw [e]; rfl
      · rfl
    · rw [CutMath.ended_miss (fun m m1 m2 => g2 m m1 (by omega)) hne, if_pos (List.drop_eq_nil_of_le (by omega)), g2 n n1 (by omega)]
  · exact i.below.trans ((hb2.mono i.below.size).trans hb3)
theorem slice_row (w : World) (A : Option Addr) (len cap n : Nat) (h : n ≤ cap) : (Instr.slice 25 (.slice A len cap) none (some (.int .i64 (n : Int))) none).run Try.prog w = .ok (.slice A n cap) w :=
  run_slice_to byteSlice w A len cap .i64 n (n : Int) rfl h
theorem slice_rest (w : World) (A : Option Addr) (len cap n : Nat) (h : n ≤ len) : (Instr.slice 25 (.slice A len cap) (some (.int .i64 (n : Int))) none none).run Try.prog w = .ok (.slice (dropAddr A cap n) (len - n) (cap - n)) w :=
  run_slice_from byteSlice w A len cap .i64 n (n : Int) rfl h
def lenOf : Value → Nat | .slice _ n _ => n | _ => 0
set_option maxHeartbeats 800000 in
theorem refSplit_any (h : CutMath.Sh) (g : h.Good) (a : Option Addr) (cap : Nat) (l : List (BitVec 8)) (w : World) (hr : Reads w a cap l) (hl : l.length ≤ 1048576) :
    Calls Try.prog 17 #[shV h, .slice a l.length cap] w (Splits h a l w) := by
  have k1 := hr.fits
  have k2 := hr.room
  have ha := reads_addr hr
  have FI := fun (k n : Nat) (A : Option Addr) (v : World) (hk : k ≤ l.length) (hA : Reads v A (cap - k) (l.drop k)) => refFirst_any h g A (cap - k) (l.drop k) v hA (by rw [List.length_drop]; omega)
  have EN := fun (k n : Nat) (A : Option Addr) (v : World) (hA : Reads v A (cap - k) (l.drop k)) => refEnds_any h g A (cap - k) ((l.drop k).take n) v (hA.take n)
  simp only [List.length_drop, List.length_take] at FI EN
  have bx := box_cells w #[.int .i64 h.L, .int .i64 h.M, .int .i64 h.K, .int .i64 h.W, U32 h.s] 24
  have hb0 := (Below.refl w.heap.size w).alloc (Nat.le_refl _) (.cells #[.int .i64 h.L, .int .i64 h.M, .int .i64 h.K, .int .i64 h.W, U32 h.s] 24)
  have hs0 : w.heap.size ≤ (w.alloc (.cells #[.int .i64 h.L, .int .i64 h.M, .int .i64 h.K, .int .i64 h.W, U32 h.s] 24)).heap.size := hb0.size
  have hr0 := hr.keeps (Keeps.alloc w (.cells #[.int .i64 h.L, .int .i64 h.M, .int .i64 h.K, .int .i64 h.W, U32 h.s] 24))
  unfold shV shapeV at *
  go_enter Try.func17, Try.ntmps17
  go_wp2
  generalize w.alloc (.cells #[.int .i64 h.L, .int .i64 h.M, .int .i64 h.K, .int .i64 h.W, U32 h.s] 24) = w1 at *
  go_loopw [1, 6, 7] (fun s v en wr => SplitRel h a cap l w w1 s v en wr) (fun s _ _ _ => lenOf s)
  case atStart =>
    refine ⟨0, [], [], a, true, rfl, Nat.zero_le _, rfl, by simpa using hr0, fun ad e => ⟨ad, e, rfl⟩, ownsRows_nil _ _ _ _, rfl, Nat.le_refl _, ?_, Below.refl _ _⟩
    rw [List.drop_zero]
    split
    · rename_i e; rw [e]; rfl
    · rfl
  case round =>
    clear hr0 hr
    obtain ⟨k, vs, ls, A, b, rfl, i⟩ := hrel
    obtain rfl := i.sv
    have hbr := i.below
    by_cases hlt : k < l.length
    · have c0 := bx _ hbr 0
      have c1 := bx _ hbr 1
      have c2 := bx _ hbr 2
      have c3 := bx _ hbr 3
      have c4 := bx _ hbr 4
      have hlt2 : (0 : Int) < ((l.length - k : Nat) : Int) := by omega
      have FI1 := FI k 0 A wr (by omega) i.reads
      have hk1 : l.length - k ≤ cap - k := by omega
      clear FI
      generalize hq : l.length - k = q at *
      have HQ := Lib.hid hq; clear hq
      go_wp2_with fail
      refine FI1.mono ?_
      rintro e w2 ⟨n, rfl, hn, hb2, hcase⟩
      rw [List.length_drop, HQ.out] at hn
      have hbr2 := hbr.trans (hb2.mono hbr.size)
      clear c0 c1 c2 c3 c4 FI1
      have c0 := bx _ hbr2 0
      have c1 := bx _ hbr2 1
      have c2 := bx _ hbr2 2
      have c3 := bx _ hbr2 3
      have c4 := bx _ hbr2 4
      have sl := fun w => slice_row w A q (cap - k) n (by omega)
      have sl2 := fun w => slice_rest w A q (cap - k) n (by omega)
      have HC := Lib.hid hcase; clear hcase
      go_wp2
      go_still_tail 4, (by kernel_rfl)
      change wpList _ _ _ _ _ w2.drew
      have hb3 := hb2.drew
      have hbr3 := hbr2.drew
      have EN1 := EN k n A _ (i.reads.keeps (Keeps.below hb3))
      rw [HQ.out, Nat.min_eq_left hn] at EN1
      clear c0 c1 c2 c3 c4 EN hb2 hbr2
      generalize w2.drew = w3 at *
      go_wp2_with fail
      refine EN1.mono ?_
      rintro e w4 ⟨rfl, hb4⟩
      have hb5 := hb3.trans (hb4.mono hb3.size)
      have hb6 := hb5.alloc hb5.size (.cells #[.slice A n (cap - k)] 25)
      have hcell : (w4.alloc (.cells #[.slice A n (cap - k)] 25)).cell? ⟨w4.heap.size, 0, none⟩ = some (.slice A n (cap - k)) := alloc_cell w4 _ _ 0
      have hrow := (i.rows.touch (.of_below hb6)).row
      have hsz : w1.heap.size ≤ (w4.alloc (.cells #[.slice A n (cap - k)] 25)).heap.size := Nat.le_trans hbr.size hb6.size
      have hfew := i.few
      clear EN1 hb3 hb4 hbr3
      generalize hen : CutMath.ends h ((l.drop k).take n) = en at *
      have HE := Lib.hid hen; clear hen
      go_wp2_with (at_builtin; refine wpList_append_elem rowsElem rfl _ _ rfl w1.heap.size u6 ls.length vs rfl hrow ⟨w4.heap.size, 0, none⟩ 1 (.slice A n (cap - k)) rfl hcell rfl (by omega) (by omega) hsz ?_; intro v' w' h1 hg hb)
      have hc := HC.out
      rw [List.length_drop, HQ.out] at hc
      have n1 : 1 ≤ n := by
        rcases hc with ⟨g1, _⟩ | ⟨g1, _⟩
        · exact g1
        · omega
      refine ⟨?_, by show q - n < q; omega⟩
      have hq := HQ.out
      have he := HE.out
      subst hq he
      have hc2 : ((∀ m, 1 ≤ m → m < n → CutMath.ends h ((l.drop k).take m) = false) ∧ CutMath.ends h ((l.drop k).take n) = true) ∨ (n = l.length - k ∧ ∀ m, 1 ≤ m → m ≤ l.length - k → CutMath.ends h ((l.drop k).take m) = false) := by
        rcases hc with ⟨_, g2, g3⟩ | g
        · exact .inl ⟨g2, g3⟩
        · exact .inr g
      exact ⟨_, _, _, _, _, rfl, i.step hlt (ha (fun e => by rw [e] at hlt; simp at hlt)) n1 hn hc2 hs0 hb6 h1 hg hb⟩
    · have hk := i.le
      obtain rfl : k = l.length := by omega
      clear bx EN FI
      rw [Nat.sub_self]
      go_wp2
      go_ret2
      have h1 := i.splitEq
      have h2 := i.ended
      rw [List.drop_length] at h1 h2
      rw [CutMath.split_nil, List.append_nil] at h1
      rw [if_pos rfl] at h2
      refine ⟨u6, vs, by rw [h2]; rfl, ?_, hb0.trans (hbr.mono hs0)⟩
      rw [h1]
      exact ⟨row_mono i.rows.row (fun b hb => Nat.le_trans hs0 (row_lt i.rows.row hb).1), i.rows.len, i.rows.out, i.rows.chunk, i.rows.apart⟩
end Go.Proofs.Ytbjaeofooaikkaa
