/- Rows of bytes in memory, as lists of words of 8 bits: for any program. -/
import Derived.Test.YtahmnpbfjfllmaaW
import Derived.Laws.AppendOwnNone
import Derived.WalkSmall
namespace Go.Proofs.Ytahmnpbfjfllmaa
open Go Go.RowKit

/-- The k-th byte: under a name of its own, so that nothing turns it. -/
def byteAt (l : List (BitVec 8)) (k : Nat) : BitVec 8 := l.getD k 0#8
/-- The cells from a place on hold these bytes. -/
def BytesAt (w : World) (b off : Nat) (l : List (BitVec 8)) : Prop := ∀ i, i < l.length → w.cell? ⟨b, off + i, none⟩ = some (U8 (byteAt l i))
/-- A slice of these bytes, by its address and its capacity. -/
structure Reads (w : World) (a : Option Addr) (cap : Nat) (l : List (BitVec 8)) : Prop where
  fits : l.length ≤ cap
  room : cap ≤ 9223372036854775807
  null : a = none → cap = 0
  bytes : l = [] ∨ ∃ b off, a = some ⟨b, off, none⟩ ∧ BytesAt w b off l
/-- A slice of the call's own, of these bytes. -/
def Owns (w : World) (B : Nat) (E : TypeId) (v : Value) (l : List (BitVec 8)) : Prop := w.ownsRow B E 1 v l.length (l.map U8)

theorem byteAt_lt {l : List (BitVec 8)} {k : Nat} (h : k < l.length) : byteAt l k = l[k] := by simp [byteAt, List.getD_eq_getElem?_getD, List.getElem?_eq_getElem h]
theorem take_snoc (l : List (BitVec 8)) (k : Nat) (h : k < l.length) : l.take (k + 1) = l.take k ++ [byteAt l k] := by
  rw [List.take_succ_eq_append_getElem h, byteAt_lt h]
theorem list_ext {l m : List (BitVec 8)} (hl : l.length = m.length) (h : ∀ i, i < l.length → byteAt l i = byteAt m i) : l = m := by
  refine List.ext_getElem hl fun i h1 h2 => ?_
  rw [← byteAt_lt h1, ← byteAt_lt h2, h i h1]
theorem byteAt_take {l : List (BitVec 8)} {n i : Nat} (h : i < n) : byteAt (l.take n) i = byteAt l i := by simp [byteAt, List.getD_eq_getElem?_getD, h]
theorem byteAt_drop (l : List (BitVec 8)) (n i : Nat) : byteAt (l.drop n) i = byteAt l (n + i) := by simp [byteAt, List.getD_eq_getElem?_getD]

theorem BytesAt.take {w : World} {b off : Nat} {l : List (BitVec 8)} (h : BytesAt w b off l) (n : Nat) : BytesAt w b off (l.take n) := by
  intro i hi
  have h1 : i < l.length ∧ i < n := by rw [List.length_take] at hi; omega
  rw [h i h1.1, byteAt_take h1.2]
theorem BytesAt.drop {w : World} {b off : Nat} {l : List (BitVec 8)} (h : BytesAt w b off l) (n : Nat) : BytesAt w b (off + n) (l.drop n) := by
  intro i hi
  rw [List.length_drop] at hi
  have := h (n + i) (by omega)
  rw [show off + n + i = off + (n + i) by omega, this, byteAt_drop]
theorem BytesAt.mono {w w' : World} {b off : Nat} {l : List (BitVec 8)} (h : BytesAt w b off l) (hw : ∀ o v, w.cell? ⟨b, o, none⟩ = some v → w'.cell? ⟨b, o, none⟩ = some v) : BytesAt w' b off l :=
  fun i hi => hw _ _ (h i hi)

/-- All that a world holds stays. -/
def Keeps (w w' : World) : Prop := ∀ a v, w.cell? a = some v → w'.cell? a = some v
theorem Keeps.refl (w : World) : Keeps w w := fun _ _ h => h
theorem Keeps.trans {a b c : World} (h : Keeps a b) (k : Keeps b c) : Keeps a c := fun p v e => k p v (h p v e)
theorem Keeps.drewN (w : World) (n : Nat) : Keeps w (w.drewN n) := fun _ _ h => h
theorem Keeps.alloc (w : World) (o : Obj) : Keeps w (w.alloc o) := fun p v h => by
  rw [World.cell?_of_block (w := w) (Below.heap_alloc w o p.block (World.block_lt_of_cell? w p h))]; exact h
theorem Keeps.below {w w' : World} (h : Below w.heap.size w w') : Keeps w w' := fun p v e => by
  rw [h.cell (World.block_lt_of_cell? w p e)]; exact e

section
variable {w w' : World} {a : Option Addr} {cap : Nat} {l : List (BitVec 8)}
theorem Reads.keeps (h : Reads w a cap l) (k : Keeps w w') : Reads w' a cap l := by
  refine ⟨h.fits, h.room, h.null, ?_⟩
  rcases h.bytes with e | ⟨b, off, e, hb⟩
  · exact .inl e
  · exact .inr ⟨b, off, e, hb.mono fun o v hv => k _ _ hv⟩
theorem Reads.take (h : Reads w a cap l) (n : Nat) : Reads w a cap (l.take n) := by
  refine ⟨Nat.le_trans (by rw [List.length_take]; omega) h.fits, h.room, h.null, ?_⟩
  rcases h.bytes with rfl | ⟨b, off, e, hb⟩
  · exact .inl (by simp)
  · exact .inr ⟨b, off, e, hb.take n⟩
theorem Reads.len (h : Reads w a cap l) : l.length ≤ 9223372036854775807 := Nat.le_trans h.fits h.room
theorem Reads.cases (h : Reads w a cap l) : l = [] ∨ ∃ b off, a = some ⟨b, off, none⟩ ∧ BytesAt w b off l := h.bytes
end

theorem reads_nil (w : World) : Reads w none 0 [] := ⟨by simp, by omega, fun _ => rfl, .inl rfl⟩

section
variable {w w' : World} {B : Nat} {E : TypeId} {v : Value} {l : List (BitVec 8)}
theorem owns_nil (w : World) (B : Nat) (E : TypeId) : Owns w B E (.slice none 0 0) [] := World.ownsRow_nil w B E 1
theorem Owns.reads (h : Owns w B E v l) : ∃ a cap, v = .slice a l.length cap ∧ Reads w a cap l := by
  rcases h.2 with ⟨rfl, h0⟩ | ⟨g, cap, cur, rfl, _, hg, hn, hc, hs, ht⟩
  · have : l = [] := List.eq_nil_of_length_eq_zero h0
    subst this
    exact ⟨none, 0, rfl, reads_nil w⟩
  · refine ⟨some ⟨g, 0, none⟩, cap, rfl, hn, by unfold maxLen at hc; omega, (by intro e; cases e), .inr ⟨g, 0, rfl, fun i hi => ?_⟩⟩
    have := h.cells (g := g) rfl i (U8 (byteAt l i)) (by rw [List.getElem?_map, List.getElem?_eq_getElem hi, byteAt_lt hi]; rfl)
    simpa [Addr.add_lit] using this
theorem Owns.below (h : Owns w B E v l) (hb : Below w.heap.size w w') : Owns w' B E v l :=
  h.kept (row := none) ⟨hb.os, hb.tape, hb.output, hb.size, fun k hk _ => hb.block k hk⟩ (by cases hv : v.ownBlock <;> simp)
theorem Owns.drewN (h : Owns w B E v l) (n : Nat) : Owns (w.drewN n) B E v l := h
theorem Owns.mono {B' : Nat} (h : Owns w B E v l) (hB : B' ≤ B) : Owns w B' E v l := by
  refine ⟨h.1, ?_⟩
  rcases h.2 with e | ⟨g, cap, cur, e, hb, r⟩
  · exact .inl e
  · exact .inr ⟨g, cap, cur, e, Nat.le_trans hB hb, r⟩
end

/-- A type of slices of bytes. -/
structure ByteSlice (P : Program) (t e : TypeId) : Prop where
  slice : P.underlying t = some (.slice e)
  info : (P.info? e).map (fun i => (i.zero, i.size, i.bytes)) = some (some (.int .u8 0), 1, 1)

/-- 'append(s, x...)', s of the call's own, x any slice of bytes. -/
theorem wpList_append_bytes {P : Program} {w : World} {ops : Array Oper} {rest : List Oper} {o : Oper} {act : Act} {Q : Exit → Act → World → Prop} {t e : TypeId} (T : ByteSlice P t e)
    (hgd : o.guard = none) (s x : Operand) (ho : o.op = .call { callee := .builtin .append, args := #[s, x], argTypes := #[t, t] })
    (B : Nat) (v : Value) (l : List (BitVec 8)) (hs : act.eval s = v) (hown : Owns w B e v l)
    (a : Option Addr) (cap : Nat) (m : List (BitVec 8)) (hx : act.eval x = .slice a m.length cap) (hm : Reads w a cap m)
    (hlen : l.length + m.length ≤ 140737488355328) (hbase : B ≤ w.heap.size)
    (h : ∀ v' w', Owns w' B e v' (l ++ m) → w.grownBy w' v.ownBlock → wpList P ops Q rest (act.put o.dst v') w') : wpList P ops Q (o :: rest) act w := by
  obtain ⟨i, hi, hz0, hz1, hz2⟩ := info_parts T.info
  have fin : ∀ v' w', w'.ownsRow B e 1 v' (l.length + m.length) (l.map U8 ++ m.map U8) → w.grownBy w' v.ownBlock → wpList P ops Q rest (act.put o.dst v') w' := by
    intro v' w' h1 h2
    exact h v' w' (by unfold Owns; rw [List.length_append, List.map_append]; exact h1) h2
  by_cases hn : a = none
  · subst hn
    have hc := hm.null rfl
    have hm0 : m = [] := List.eq_nil_of_length_eq_zero (by have := hm.fits; omega)
    subst hc hm0
    refine wpList_append_own_none hgd s x t ho B e i 1 T.slice hi v l.length (l.map U8) hs hown (by simpa using hx) ?_
    exact fin v w (by simpa [Owns] using hown) ⟨rfl, rfl, rfl, Nat.le_refl _, fun _ _ _ => rfl⟩
  · obtain ⟨ad, rfl⟩ := Option.ne_none_iff_exists'.1 hn
    refine wpList_append_own w hgd s x t ho B e i (.int .u8 0) 1 1 T.slice hi hz0 hz1 hz2 rfl (by decide) v l.length (l.map U8) hs hown ad m.length cap (m.map U8) hx (by simp) ?_ ?_ ?_ ?_ hbase ?_
    · intro j u hu
      rcases hm.bytes with rfl | ⟨b, off, e1, hb⟩
      · simp at hu
      · obtain rfl := Option.some.inj e1
        rw [List.getElem?_map] at hu
        obtain ⟨c, hc, rfl⟩ := Option.map_eq_some_iff.1 hu
        obtain ⟨hj, hc'⟩ := List.getElem?_eq_some_iff.1 hc
        rw [Addr.add_lit, hb j hj, byteAt_lt hj, hc']
    · intro u hu
      obtain ⟨c, _, rfl⟩ := List.mem_map.1 hu
      rfl
    · unfold maxLen; omega
    · omega
    · intro v' w' h1 h2 _
      exact fin v' w' h1 h2

/-- '[]byte(..)' of a row that was just written out: the same row; its place is marked behind its end. -/
theorem conv_lit {P : Program} (w : World) (t e : TypeId) (cs : Array Value) (E : TypeId) (len cap : Nat) (hs : P.underlying t = some (.slice e)) (he : P.underlying e = some (.int .u8)) :
    (convert t t (.slice (some ⟨w.heap.size, 0, none⟩) len cap)).run P (w.alloc (.cells cs E)) =
      .ok (.slice (some ⟨w.heap.size, 0, none⟩) len cap) (w.alloc (.cells cs E (cs.size, cs.size + 1))) := by
  have hsh : (w.alloc (.cells cs E)).shape? w.heap.size = some (E, cs.size) := by
    unfold World.shape?; rw [heap_alloc_new]
  have hf : (w.alloc (.cells cs E)).freeze ⟨w.heap.size, cs.size, none⟩ 1 = w.alloc (.cells cs E (cs.size, cs.size + 1)) := by
    have : (w.heap.push (.cells cs E)).modify w.heap.size (fun | .cells c elem (lo, hi) => .cells c elem (if lo == hi then (cs.size, cs.size + 1) else (min lo cs.size, max hi (cs.size + 1))) | o => o) = w.heap.push (.cells cs E (cs.size, cs.size + 1)) := by
      apply Array.ext_getElem?
      intro i
      rw [Array.getElem?_modify, Array.getElem?_push, Array.getElem?_push]
      by_cases h : i = w.heap.size
      · subst h; simp
      · simp [h, Ne.symm h]
    unfold World.freeze World.alloc
    rw [if_neg (by decide)]
    exact congrArg (fun h => ({ w with heap := h } : World)) this
  simp [convert, run_underlying hs, run_underlying he, markStringish, hsh, hf]
theorem bytes_lit (w : World) (cs : Array Value) (E : TypeId) (fr : Nat × Nat) (l : List (BitVec 8)) (h : cs.toList = l.map U8) : BytesAt (w.alloc (.cells cs E fr)) w.heap.size 0 l := by
  intro i hi
  have : (w.alloc (.cells cs E fr)).cell? ⟨w.heap.size, 0 + i, none⟩ = cs[i]? := by
    unfold World.cell?; rw [heap_alloc_new]; simp
  rw [this, ← Array.getElem?_toList, h, List.getElem?_map, List.getElem?_eq_getElem hi, byteAt_lt hi]; rfl
theorem reads_lit (w : World) (cs : Array Value) (E : TypeId) (fr : Nat × Nat) (l : List (BitVec 8)) (h : cs.toList = l.map U8) (hl : l.length ≤ 9223372036854775807) :
    Reads (w.alloc (.cells cs E fr)) (some ⟨w.heap.size, 0, none⟩) l.length l :=
  ⟨Nat.le_refl _, hl, (by intro e; cases e), .inr ⟨_, _, rfl, bytes_lit w cs E fr l h⟩⟩

/-- A slice of n bytes of the call's own, at the head of block g: its bytes may be written. -/
def RowAt (w : World) (B : Nat) (E : TypeId) (g cap n : Nat) (l : List (BitVec 8)) : Prop :=
  w.ownsRow B E 1 (.slice (some ⟨g, 0, none⟩) n cap) n (l.map U8) ∧ l.length = n
section
variable {w w' : World} {B : Nat} {E : TypeId} {g cap n : Nat} {l : List (BitVec 8)} {v : Value}
theorem Owns.row (h : Owns w B E v l) (hl : l.length ≠ 0) : ∃ g cap, v = .slice (some ⟨g, 0, none⟩) l.length cap ∧ RowAt w B E g cap l.length l ∧ B ≤ g ∧ g < w.heap.size := by
  rcases h.2 with ⟨_, h0⟩ | ⟨g, cap, cur, rfl, hb, _⟩
  · exact (hl h0).elim
  · exact ⟨g, cap, rfl, ⟨h, rfl⟩, hb, (h.lt g rfl).2⟩
theorem RowAt.owns (h : RowAt w B E g cap n l) : Owns w B E (.slice (some ⟨g, 0, none⟩) n cap) l := by
  obtain ⟨h1, rfl⟩ := h; exact h1
theorem RowAt.reads (h : RowAt w B E g cap n l) : Reads w (some ⟨g, 0, none⟩) cap l := by
  obtain ⟨h1, rfl⟩ := h
  obtain ⟨a, c, e, r⟩ := Owns.reads (v := .slice (some ⟨g, 0, none⟩) l.length cap) h1
  simp only [Value.slice.injEq, true_and] at e
  obtain ⟨rfl, rfl⟩ := e
  exact r
theorem RowAt.cell (h : RowAt w B E g cap n l) (j : Nat) (hj : j < n) : w.cell? ⟨g, j, none⟩ = some (U8 (byteAt l j)) := by
  rw [h.1.cellAt j (by omega), List.getElem?_map, List.getElem?_eq_getElem (by rw [h.2]; exact hj), byteAt_lt (by rw [h.2]; exact hj)]; rfl
theorem RowAt.thawed (h : RowAt w B E g cap n l) (j : Nat) : w.frozen? ⟨g, j, none⟩ = false := h.1.frozenAt j
theorem RowAt.set (h : RowAt w B E g cap n l) (j : Nat) (x : BitVec 8) : RowAt (w.setCell ⟨g, j, none⟩ (U8 x)) B E g cap n (l.set j x) := by
  have := (h.1.stored j (U8 x)).1
  exact ⟨by rw [List.map_set]; exact this, by rw [List.length_set]; exact h.2⟩
theorem RowAt.drewN (h : RowAt w B E g cap n l) (m : Nat) : RowAt (w.drewN m) B E g cap n l := h
theorem RowAt.lt (h : RowAt w B E g cap n l) : B ≤ g ∧ g < w.heap.size := h.1.lt g rfl
theorem RowAt.below (h : RowAt w B E g cap n l) (hb : Below w.heap.size w w') : RowAt w' B E g cap n l :=
  ⟨h.1.kept (row := none) ⟨hb.os, hb.tape, hb.output, hb.size, fun k hk _ => hb.block k hk⟩ (.inr (by simp [Value.ownBlock])), h.2⟩
/-- Another block is written: this row stays. -/
theorem RowAt.other (h : RowAt w B E g cap n l) {row : Option Nat} (hg : w.grownBy w' row) (hne : some g ≠ row) : RowAt w' B E g cap n l :=
  ⟨h.1.kept hg (.inr (by simpa [Value.ownBlock] using hne)), h.2⟩
end
end Go.Proofs.Ytahmnpbfjfllmaa
