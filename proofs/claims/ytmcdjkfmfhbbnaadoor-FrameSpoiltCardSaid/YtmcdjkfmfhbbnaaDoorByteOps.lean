/- More operations on rows of bytes of the call's own: make with room, copy to the head. -/
import Derived.Test.YtmcdjkfmfhbbnaaDoorNum
import Derived.Test.YtmcdjkfmfhbbnaaDoorM
import Derived.Laws.CopyOwn
namespace Go.Proofs.YtmcdjkfmfhbbnaaDoor
open Go Go.RowKit

/-- 'make([]byte, n, c)' -/
theorem wpList_make_room {P : Program} (w : World) {ops : Array Oper} {rest : List Oper} {o : Oper} {a : Act} {Q : Exit → Act → World → Prop} {t e : TypeId} (T : ByteSlice P t e)
    (hg : o.guard = none) (l c : Operand) (hop : o.op = Op.makeSlice t l c) (n m : Nat) (hl : a.eval l = .int .i64 n) (hc : a.eval c = .int .i64 m) (hnm : n ≤ m) (hm : m ≤ 1048576)
    (hK : ∀ w', Owns w' w.heap.size e (.slice (some ⟨w.heap.size, 0, none⟩) n m) (List.replicate n 0#8) → Below w.heap.size w w' → wpList P ops Q rest (a.put o.dst (.slice (some ⟨w.heap.size, 0, none⟩) n m)) w') :
    wpList P ops Q (o :: rest) a w := by
  obtain ⟨i, hi, hz0, hz1, hz2⟩ := info_parts T.info
  refine wpList_plain hg fun K hK' => ?_
  have hr := run_make (P := P) w t e i (.int .u8 0) T.slice hi hz0 .i64 .i64 n m (by omega) (by omega) (by rw [hz2]; omega) (by omega)
  unfold Oper.wp
  simp [execOp, hop, hl, hc, hr, Result.andThen]
  refine hK' _ _ (hK _ ?_ ((Below.refl _ _).alloc (Nat.le_refl _) _))
  unfold Owns World.ownsRow
  refine ⟨by simp, .inr ⟨w.heap.size, m, _, by simp, Nat.le_refl _, heap_alloc_new w _, by simpa using hnm, by unfold maxLen; omega, by rw [size_madeCells, hz1], ?_⟩⟩
  rw [hz1, Nat.mul_one, show (Value.int IntKind.u8 0).cells = #[.int .u8 0] from rfl, toList_madeCells_one, List.length_replicate, Nat.mul_one, List.take_replicate, Nat.min_eq_left hnm, List.map_replicate]
  rfl
/-- 'copy(b, m)', m no longer than b. -/
theorem wpList_copy_head {P : Program} {w : World} {ops : Array Oper} {rest : List Oper} {o : Oper} {a : Act} {Q : Exit → Act → World → Prop} {t e : TypeId} (T : ByteSlice P t e)
    (hgd : o.guard = none) (d s : Operand) (ho : o.op = .call { callee := .builtin .copy, args := #[d, s], argTypes := #[t, t] })
    (B : Nat) (g n cap : Nat) (l : List (BitVec 8)) (hd : a.eval d = .slice (some ⟨g, 0, none⟩) n cap) (hn : n = l.length) (hown : Owns w B e (.slice (some ⟨g, 0, none⟩) l.length cap) l)
    (b off k c : Nat) (m : List (BitVec 8)) (hs : a.eval s = .slice (some ⟨b, off, none⟩) k c) (hk : k = m.length) (hm : BytesAt w b off m) (hml : m.length ≤ l.length)
    (h : ∀ w', Owns w' B e (.slice (some ⟨g, 0, none⟩) l.length cap) (m ++ l.drop m.length) → Touch (fun x => x = g) w w' → wpList P ops Q rest (a.put o.dst (goInt m.length)) w') : wpList P ops Q (o :: rest) a w := by
  subst hn hk
  obtain ⟨i, hi, hz0, hz1, hz2⟩ := info_parts T.info
  rcases hown.2 with ⟨h0, _⟩ | ⟨g', cap', cur, hv, hB, hg, hnc, hcm, hcs, ht⟩
  · cases h0
  · injection hv with e1 _ e3
    injection e1 with e1
    injection e1 with e1
    subst e1 e3
    have hcs' : cur.size = cap := by rw [hcs, Nat.mul_one]
    refine wpList_copy_own hgd d s t t ho e T.slice (by rw [hi]; exact congrArg some hz1) g 0 l.length cap ⟨b, off, none⟩ m.length c hd hs cur e hg (m.map U8) (by rw [List.length_map]; exact (Nat.min_eq_left hml).symm) ?_ ?_ ?_ ?_
    · intro j v hv
      rw [List.getElem?_map] at hv
      obtain ⟨x, hx, rfl⟩ := Option.map_eq_some_iff.1 hv
      obtain ⟨hj, hx'⟩ := List.getElem?_eq_some_iff.1 hx
      rw [Addr.add_lit, hm j hj, byteAt_lt hj, hx']
    · rw [List.length_map]; omega
    · intro v hv
      obtain ⟨x, _, rfl⟩ := List.mem_map.1 hv
      rfl
    · rw [List.length_map]
      have hl : (m ++ l.drop m.length).length = l.length := by rw [List.length_append, List.length_drop]; omega
      rw [Nat.mul_one] at ht
      have hcl : cur.toList.length = cap := by rw [Array.length_toList]; exact hcs'
      refine h _ ⟨by rw [List.length_map, hl, Nat.mul_one], .inr ⟨g, cap, _, by rw [hl], hB, setRow_heap w g cur _ e (0, 0) hg, by rw [hl]; exact hnc, hcm, ?_, ?_⟩⟩ (Touch.setRow _ _ _ rfl)
      · rw [List.size_toArray, List.take_zero, List.nil_append, List.length_append, List.length_map, List.length_drop, hcl]; omega
      · rw [hl, Nat.mul_one, List.toList_toArray, List.take_zero, List.nil_append, Nat.zero_add, List.take_append, List.length_map, List.take_of_length_le (by rw [List.length_map]; exact hml), List.map_append]
        congr 1
        rw [List.map_drop, ← ht, List.drop_take]
/-- 'append(s, x...)', the length of x written otherwise. -/
theorem wpList_append_n {P : Program} {w : World} {ops : Array Oper} {rest : List Oper} {o : Oper} {act : Act} {Q : Exit → Act → World → Prop} {t e : TypeId} (T : ByteSlice P t e)
    (hgd : o.guard = none) (s x : Operand) (ho : o.op = .call { callee := .builtin .append, args := #[s, x], argTypes := #[t, t] })
    (B : Nat) (v : Value) (l : List (BitVec 8)) (hs : act.eval s = v) (hown : Owns w B e v l)
    (a : Option Addr) (n cap : Nat) (m : List (BitVec 8)) (hx : act.eval x = .slice a n cap) (hn : n = m.length) (hm : Reads w a cap m)
    (hlen : l.length + m.length ≤ 140737488355328) (hbase : B ≤ w.heap.size)
    (h : ∀ v' w', Owns w' B e v' (l ++ m) → w.grownBy w' v.ownBlock → wpList P ops Q rest (act.put o.dst v') w') : wpList P ops Q (o :: rest) act w := by
  subst hn
  exact wpList_append_bytes T hgd s x ho B v l hs hown a cap m hx hm hlen hbase h
theorem u64_nat (n : Nat) (h : n < 18446744073709551616) : Value.int .u64 (n : Int) = U64 (BitVec.ofNat 64 n) := by
  unfold U64
  rw [BitVec.toNat_ofNat, Nat.mod_eq_of_lt h]
theorem put_reads (x : BitVec 64) (w : World) : Calls Tryd.prog 30 #[U64 x, .int .i64 4] w fun en w' =>
    en = .returned (.slice (some ⟨w.heap.size, 0, none⟩) (leB x 4).length 4) ∧ Reads w' (some ⟨w.heap.size, 0, none⟩) 4 (leB x 4) ∧ BytesAt w' w.heap.size 0 (leB x 4) ∧ Below w.heap.size w w' := by
  refine (put_any x 4 (by decide) (by decide) w).mono ?_
  rintro en w' ⟨h1, h2, h3⟩
  refine ⟨by rw [length_leB]; exact h1, h2.reads, fun i hi => ?_, h3⟩
  rw [length_leB] at hi
  rw [Nat.zero_add]
  exact h2.cell i hi
end Go.Proofs.YtmcdjkfmfhbbnaaDoor
