/- Worlds that part in some blocks alone; slices whose elements have one cell each, of the call's own: append, with the place of the new slice. For any program. -/
import Derived.Test.YtahmnpbfjfllmaaS
import Derived.Maps.AppendAt
namespace Go.Proofs.Ytahmnpbfjfllmaa
open Go Go.RowKit

/-- Nothing has turned but in these blocks, and in new ones. -/
structure Touch (F : Nat → Prop) (w w' : World) : Prop where
  os : w'.os = w.os
  tape : w'.tape = w.tape
  output : w'.output = w.output
  size : w.heap.size ≤ w'.heap.size
  block : ∀ k, k < w.heap.size → ¬ F k → w'.heap[k]? = w.heap[k]?
theorem Touch.refl (F : Nat → Prop) (w : World) : Touch F w w := ⟨rfl, rfl, rfl, Nat.le_refl _, fun _ _ _ => rfl⟩
theorem Touch.trans {F : Nat → Prop} {a b c : World} (h : Touch F a b) (k : Touch F b c) : Touch F a c :=
  ⟨k.os.trans h.os, k.tape.trans h.tape, k.output.trans h.output, Nat.le_trans h.size k.size, fun i hi hn => (k.block i (Nat.lt_of_lt_of_le hi h.size) hn).trans (h.block i hi hn)⟩
/-- The second's blocks are the first's, or new. -/
theorem Touch.trans' {F G : Nat → Prop} {a b c : World} (h : Touch F a b) (k : Touch G b c) (hG : ∀ i, G i → F i ∨ a.heap.size ≤ i) : Touch F a c :=
  ⟨k.os.trans h.os, k.tape.trans h.tape, k.output.trans h.output, Nat.le_trans h.size k.size, fun i hi hn => (k.block i (Nat.lt_of_lt_of_le hi h.size) (fun g => (hG i g).elim hn (by omega))).trans (h.block i hi hn)⟩
theorem Touch.mono {F G : Nat → Prop} {w w' : World} (h : Touch F w w') (hG : ∀ i, F i → G i) : Touch G w w' :=
  ⟨h.os, h.tape, h.output, h.size, fun i hi hn => h.block i hi (fun f => hn (hG i f))⟩
theorem Touch.below {F : Nat → Prop} {B : Nat} {w w' : World} (h : Touch F w w') (hF : ∀ k, F k → B ≤ k) (hB : B ≤ w.heap.size) : Below B w w' :=
  ⟨h.os, h.tape, h.output, h.size, fun k hk => h.block k (by omega) (fun f => by have := hF k f; omega)⟩
theorem Touch.of_below {F : Nat → Prop} {w w' : World} (h : Below w.heap.size w w') : Touch F w w' := ⟨h.os, h.tape, h.output, h.size, fun k hk _ => h.block k hk⟩
theorem Touch.of_grown {F : Nat → Prop} {row : Option Nat} {w w' : World} (h : w.grownBy w' row) (hb : ∀ k, row = some k → F k) : Touch F w w' :=
  ⟨h.os, h.tape, h.output, h.size, fun k hk hn => h.block k hk (fun e => hn (hb k e.symm))⟩
theorem Touch.drewN {F : Nat → Prop} {a w : World} (h : Touch F a w) (n : Nat) : Touch F a (w.drewN n) := ⟨h.os, h.tape, h.output, h.size, h.block⟩
theorem Touch.alloc {F : Nat → Prop} {a w : World} (h : Touch F a w) (o : Obj) : Touch F a (w.alloc o) :=
  ⟨h.os, h.tape, h.output, Nat.le_trans h.size (by simp), fun k hk hn => (Below.heap_alloc w o k (Nat.lt_of_lt_of_le hk h.size)).trans (h.block k hk hn)⟩
theorem Touch.set {F : Nat → Prop} (w : World) (b o : Nat) (v : Value) (hb : F b) : Touch F w (w.setCell ⟨b, o, none⟩ v) :=
  ⟨rfl, rfl, rfl, by simp [World.setCell], fun k _ hk => Below.heap_setCell w ⟨b, o, none⟩ v k (fun e => hk (by rw [e]; exact hb))⟩
theorem Touch.cell {F : Nat → Prop} {w w' : World} (h : Touch F w w') {a : Addr} {v : Value} (hc : w.cell? a = some v) (hn : ¬ F a.block) : w'.cell? a = some v := by
  rw [World.cell?_of_block (w := w) (h.block a.block (World.block_lt_of_cell? w a hc) hn)]; exact hc
theorem Touch.frozen {F : Nat → Prop} {w w' : World} (h : Touch F w w') {a : Addr} (hl : a.block < w.heap.size) (hn : ¬ F a.block) : w'.frozen? a = w.frozen? a :=
  World.frozen?_of_block (w := w) (h.block a.block hl hn)
theorem Touch.bytes {F : Nat → Prop} {w w' : World} (h : Touch F w w') {b off : Nat} {l : List (BitVec 8)} (hb : BytesAt w b off l) (hn : ¬ F b) : BytesAt w' b off l :=
  hb.mono fun _ _ hc => h.cell hc hn
theorem Touch.reads {F : Nat → Prop} {w w' : World} (h : Touch F w w') {a : Option Addr} {cap : Nat} {l : List (BitVec 8)} (hr : Reads w a cap l) (hn : ∀ ad, a = some ad → ¬ F ad.block) : Reads w' a cap l := by
  refine ⟨hr.fits, hr.room, hr.null, ?_⟩
  rcases hr.bytes with e | ⟨b, off, e, hb⟩
  · exact .inl e
  · exact .inr ⟨b, off, e, h.bytes hb (hn _ e)⟩
theorem heap_lt {w : World} {g : Nat} {x : Obj} (h : w.heap[g]? = some x) : g < w.heap.size := by
  rcases Nat.lt_or_ge g w.heap.size with h' | h'
  · exact h'
  · rw [Array.getElem?_eq_none h'] at h; cases h
/-- A row of the call's own stays. -/
theorem Touch.row {F : Nat → Prop} {w w' : World} (h : Touch F w w') {B : Nat} {E : TypeId} {size n : Nat} {v : Value} {xs : List Value} (hr : w.ownsRow B E size v n xs) (hn : ∀ k, v.ownBlock = some k → ¬ F k) : w'.ownsRow B E size v n xs := by
  obtain ⟨h1, h2⟩ := hr
  refine ⟨h1, ?_⟩
  rcases h2 with h2 | ⟨g, cap, cur, hv, hg, hh, r⟩
  · exact .inl h2
  · refine .inr ⟨g, cap, cur, hv, hg, ?_, r⟩
    rw [h.block g (heap_lt hh) (hn g (by rw [hv]; rfl))]; exact hh
theorem Touch.owns {F : Nat → Prop} {w w' : World} (h : Touch F w w') {B : Nat} {E : TypeId} {v : Value} {l : List (BitVec 8)} (ho : Owns w B E v l) (hn : ∀ k, v.ownBlock = some k → ¬ F k) : Owns w' B E v l := h.row ho hn
theorem row_lt {w : World} {B : Nat} {E : TypeId} {size n : Nat} {v : Value} {xs : List Value} (h : w.ownsRow B E size v n xs) {k : Nat} (hk : v.ownBlock = some k) : B ≤ k ∧ k < w.heap.size := by
  rcases h.2 with ⟨rfl, _⟩ | ⟨g, cap, cur, rfl, hg, hh, _⟩
  · simp [Value.ownBlock] at hk
  · simp only [Value.ownBlock, Option.some.injEq] at hk
    subst hk
    exact ⟨hg, heap_lt hh⟩
theorem row_mono {w : World} {B B' : Nat} {E : TypeId} {size n : Nat} {v : Value} {xs : List Value} (h : w.ownsRow B E size v n xs) (hB : ∀ k, v.ownBlock = some k → B' ≤ k) : w.ownsRow B' E size v n xs := by
  refine ⟨h.1, ?_⟩
  rcases h.2 with e | ⟨g, cap, cur, e, hb, r⟩
  · exact .inl e
  · exact .inr ⟨g, cap, cur, e, hB g (by rw [e]; rfl), r⟩

/-- A type of slices whose elements have one cell. -/
structure Elem (P : Program) (t e : TypeId) (z : Value) (bytes : Nat) : Prop where
  slice : P.underlying t = some (.slice e)
  info : (P.info? e).map (fun i => (i.zero, i.size, i.bytes)) = some (some z, 1, bytes)
  one : z.cells.size = 1
section
variable {P : Program} {t e : TypeId} {z : Value} {bytes : Nat} (T : Elem P t e z bytes) (w : World) (a : Option Addr) (len cap : Nat)
include T
theorem run_from_elem (k : IntKind) (n : Nat) (N : Int) (hN : N = n) (hn : n ≤ len) : (Instr.slice t (.slice a len cap) (some (.int k N)) none none).run P w = .ok (.slice (dropAddr a cap n) (len - n) (cap - n)) w := by
  obtain ⟨i, hi, _, hz1, _⟩ := info_parts T.info
  subst hN
  have hn' : (n : Int) ≤ (len : Int) := by omega
  simp [Instr.slice, run_underlying T.slice, Instr.sliceBounds, Instr.sliceBound, asIntOf, hn, sizeOf, typeInfo, hi, hz1, dropAddr]
theorem run_to_elem (k : IntKind) (n : Nat) (N : Int) (hN : N = n) (hn : n ≤ cap) : (Instr.slice t (.slice a len cap) none (some (.int k N)) none).run P w = .ok (.slice a n cap) w := by
  obtain ⟨i, hi, _, _, _⟩ := info_parts T.info
  subst hN
  simp [Instr.slice, run_underlying T.slice, Instr.sliceBounds, Instr.sliceBound, asIntOf, hn, sizeOf, typeInfo, hi, map_add_zero]
end
/-- 'append(s, x)', s of the call's own; x stands in memory. -/
theorem wpList_append_elem {P : Program} {w : World} {ops : Array Oper} {rest : List Oper} {o : Oper} {act : Act} {Q : Exit → Act → World → Prop} {t e : TypeId} {z : Value} {bytes : Nat} (T : Elem P t e z bytes)
    (hgd : o.guard = none) (s x : Operand) (ho : o.op = .call { callee := .builtin .append, args := #[s, x], argTypes := #[t, t] })
    (B : Nat) (v : Value) (n : Nat) (xs : List Value) (hs : act.eval s = v) (hown : w.ownsRow B e 1 v n xs)
    (ad : Addr) (c : Nat) (u : Value) (hx : act.eval x = .slice (some ad) 1 c) (hu : w.cell? ad = some u) (h1 : u.oneCell' = true)
    (hlen : n + 1 ≤ 9223372036854775807) (hby : (n + 1) * bytes ≤ 140737488355328) (hbase : B ≤ w.heap.size)
    (h : ∀ v' w', w'.ownsRow B e 1 v' (n + 1) (xs ++ [u]) → w.grownBy w' v.ownBlock → (v'.ownBlock = v.ownBlock ∨ v'.ownBlock = some w.heap.size) → wpList P ops Q rest (act.put o.dst v') w') : wpList P ops Q (o :: rest) act w := by
  obtain ⟨i, hi, hz0, hz1, hz2⟩ := info_parts T.info
  refine wpList_append_own_at w hgd s x t ho B e i z 1 bytes T.slice hi hz0 hz1 hz2 T.one (by decide) v n xs hs hown ad 1 c [u] hx rfl ?_ ?_ ?_ hby hbase ?_
  · intro j y hj
    cases j with
    | zero => simp at hj; subst hj; simpa [Addr.add] using hu
    | succ j => simp at hj
  · intro y hy; simp at hy; subst hy; exact h1
  · unfold maxLen; omega
  · intro v' w' h2 h3 _ h5
    exact h v' w' h2 h3 h5
/-- 'append(s, x...)' of bytes, with the place of the new slice. -/
theorem wpList_append_bytes_at {P : Program} {w : World} {ops : Array Oper} {rest : List Oper} {o : Oper} {act : Act} {Q : Exit → Act → World → Prop} {t e : TypeId} (T : ByteSlice P t e)
    (hgd : o.guard = none) (s x : Operand) (ho : o.op = .call { callee := .builtin .append, args := #[s, x], argTypes := #[t, t] })
    (B : Nat) (v : Value) (l : List (BitVec 8)) (hs : act.eval s = v) (hown : Owns w B e v l)
    (a : Option Addr) (cap : Nat) (m : List (BitVec 8)) (hx : act.eval x = .slice a m.length cap) (hm : Reads w a cap m)
    (hlen : l.length + m.length ≤ 140737488355328) (hbase : B ≤ w.heap.size)
    (h : ∀ v' w', Owns w' B e v' (l ++ m) → w.grownBy w' v.ownBlock → (v'.ownBlock = v.ownBlock ∨ v'.ownBlock = some w.heap.size) → wpList P ops Q rest (act.put o.dst v') w') : wpList P ops Q (o :: rest) act w := by
  obtain ⟨i, hi, hz0, hz1, hz2⟩ := info_parts T.info
  have fin : ∀ v' w', w'.ownsRow B e 1 v' (l.length + m.length) (l.map U8 ++ m.map U8) → w.grownBy w' v.ownBlock → (v'.ownBlock = v.ownBlock ∨ v'.ownBlock = some w.heap.size) → wpList P ops Q rest (act.put o.dst v') w' := by
    intro v' w' h1 h2 h3
    exact h v' w' (by unfold Owns; rw [List.length_append, List.map_append]; exact h1) h2 h3
  by_cases hn : a = none
  · subst hn
    have hc := hm.null rfl
    have hm0 : m = [] := List.eq_nil_of_length_eq_zero (by have := hm.fits; omega)
    subst hc hm0
    refine wpList_append_own_none hgd s x t ho B e i 1 T.slice hi v l.length (l.map U8) hs hown (by simpa using hx) ?_
    exact fin v w (by simpa [Owns] using hown) ⟨rfl, rfl, rfl, Nat.le_refl _, fun _ _ _ => rfl⟩ (.inl rfl)
  · obtain ⟨ad, rfl⟩ := Option.ne_none_iff_exists'.1 hn
    refine wpList_append_own_at w hgd s x t ho B e i (.int .u8 0) 1 1 T.slice hi hz0 hz1 hz2 rfl (by decide) v l.length (l.map U8) hs hown ad m.length cap (m.map U8) hx (by simp) ?_ ?_ ?_ ?_ hbase ?_
    · intro j u hu
      rcases hm.bytes with rfl | ⟨b, off, e1, hb⟩
      · simp at hu
      · obtain rfl := Option.some.inj e1
        rw [List.getElem?_map] at hu
        obtain ⟨c, hc, rfl⟩ := Option.map_eq_some_iff.1 hu
        obtain ⟨hj, hc'⟩ := List.getElem?_eq_some_iff.1 hc
        rw [Addr.add_lit, hb j hj, byteAt_lt hj, hc']
    · intro u hu
      obtain ⟨c, _, rfl⟩ := List.mem_map.1 hu
      rfl
    · unfold maxLen; omega
    · omega
    · intro v' w' h1 h2 _ h3
      exact fin v' w' h1 h2 h3

/-! Slices of slices of bytes, none of whose blocks is in F. -/
def Chunk (F : Nat → Prop) (w : World) (v : Value) (l : List (BitVec 8)) : Prop := ∃ a cap, v = .slice a l.length cap ∧ Reads w a cap l ∧ ∀ ad, a = some ad → ¬ F ad.block ∧ ad.block < w.heap.size
theorem Chunk.touch {F : Nat → Prop} {w w' : World} {v : Value} {l : List (BitVec 8)} (h : Chunk F w v l) (t : Touch F w w') : Chunk F w' v l := by
  obtain ⟨a, cap, e, r, f⟩ := h
  exact ⟨a, cap, e, t.reads r fun ad e => (f ad e).1, fun ad e => ⟨(f ad e).1, Nat.lt_of_lt_of_le (f ad e).2 t.size⟩⟩
theorem Chunk.less {F G : Nat → Prop} {w : World} {v : Value} {l : List (BitVec 8)} (h : Chunk F w v l) (hG : ∀ k, G k → F k ∨ w.heap.size ≤ k) : Chunk G w v l := by
  obtain ⟨a, cap, e, r, f⟩ := h
  exact ⟨a, cap, e, r, fun ad e => ⟨fun g => by have := f ad e; rcases hG _ g with h1 | h1; exact this.1 h1; omega, (f ad e).2⟩⟩
structure OwnsRows (F : Nat → Prop) (w : World) (B : Nat) (E : TypeId) (v : Value) (vs : List Value) (ls : List (List (BitVec 8))) : Prop where
  row : w.ownsRow B E 1 v ls.length vs
  len : vs.length = ls.length
  out : ∀ k, v.ownBlock = some k → ¬ F k
  chunk : ∀ i, i < ls.length → Chunk F w (vs.getD i undef) (ls.getD i [])
  apart : ∀ i ad n c, i < ls.length → vs.getD i undef = .slice (some ad) n c → v.ownBlock ≠ some ad.block
theorem ownsRows_nil (F : Nat → Prop) (w : World) (B : Nat) (E : TypeId) : OwnsRows F w B E (.slice none 0 0) [] [] :=
  ⟨World.ownsRow_nil w B E 1, rfl, fun k h => by simp [Value.ownBlock] at h, fun i hi => by simp at hi, fun i _ _ _ hi => by simp at hi⟩
section
variable {F : Nat → Prop} {w w' : World} {B : Nat} {E : TypeId} {v : Value} {vs : List Value} {ls : List (List (BitVec 8))}
theorem OwnsRows.touch (h : OwnsRows F w B E v vs ls) (t : Touch F w w') : OwnsRows F w' B E v vs ls :=
  ⟨t.row h.row h.out, h.len, h.out, fun i hi => (h.chunk i hi).touch t, h.apart⟩
theorem OwnsRows.less {G : Nat → Prop} (h : OwnsRows F w B E v vs ls) (hG : ∀ k, G k → F k ∨ w.heap.size ≤ k) : OwnsRows G w B E v vs ls :=
  ⟨h.row, h.len, fun k hk g => by have := row_lt h.row hk; rcases hG k g with h1 | h1; exact h.out k hk h1; omega, fun i hi => (h.chunk i hi).less hG, h.apart⟩
theorem OwnsRows.drewN (h : OwnsRows F w B E v vs ls) (n : Nat) : OwnsRows F (w.drewN n) B E v vs ls := h.touch ((Touch.refl _ _).drewN n)
theorem OwnsRows.form (h : OwnsRows F w B E v vs ls) : ∃ a cap, v = .slice a ls.length cap ∧ (a = none → cap = 0 ∧ ls = []) ∧ ls.length ≤ cap ∧ cap ≤ 9223372036854775807 := by
  rcases h.row.2 with ⟨rfl, h0⟩ | ⟨g, cap, cur, rfl, _, _, hn, hc, _⟩
  · exact ⟨none, 0, by rw [h0], fun _ => ⟨rfl, List.eq_nil_of_length_eq_zero h0⟩, by omega, by omega⟩
  · refine ⟨_, cap, rfl, fun e => (by cases e), hn, ?_⟩
    unfold maxLen at hc; omega
/-- The i-th: where it stands, and what it is. -/
theorem OwnsRows.at_ (h : OwnsRows F w B E v vs ls) {i : Nat} (hi : i < ls.length) :
    ∃ g cap a c, v = .slice (some ⟨g, 0, none⟩) ls.length cap ∧ w.cell? ⟨g, i, none⟩ = some (.slice a (ls.getD i []).length c) ∧ Reads w a c (ls.getD i []) ∧ ∀ ad, a = some ad → ¬ F ad.block ∧ ad.block < w.heap.size := by
  rcases h.row.2 with ⟨_, h0⟩ | ⟨g, cap, cur, rfl, _, hg, hn, hc, hs, ht⟩
  · omega
  · obtain ⟨a, c, e, r, f⟩ := h.chunk i hi
    refine ⟨g, cap, a, c, rfl, ?_, r, f⟩
    have := h.row.cells (g := g) rfl i (vs.getD i undef) (by rw [List.getElem?_eq_getElem (by rw [h.len]; exact hi), List.getD_eq_getElem?_getD, List.getElem?_eq_getElem (by rw [h.len]; exact hi)]; rfl)
    rw [Addr.add_lit, Nat.zero_add] at this
    rw [this, e]
/-- One row more. -/
theorem OwnsRows.snoc {x v' : Value} {l : List (BitVec 8)} (h : OwnsRows F w B E v vs ls) (hx : Chunk F w x l) (hF : ∀ k, F k → k < w.heap.size)
    (h1 : w'.ownsRow B E 1 v' (ls.length + 1) (vs ++ [x])) (hg : w.grownBy w' v.ownBlock) (hb : v'.ownBlock = v.ownBlock ∨ v'.ownBlock = some w.heap.size) (hnx : ∀ ad n c, x = .slice (some ad) n c → v.ownBlock ≠ some ad.block) :
    OwnsRows F w' B E v' (vs ++ [x]) (ls ++ [l]) := by
  have keep : ∀ (u : Value) (m : List (BitVec 8)), Chunk F w u m → (∀ ad n c, u = .slice (some ad) n c → v.ownBlock ≠ some ad.block) → Chunk F w' u m := by
    intro u m hc hn
    obtain ⟨a, cap, e, r, f⟩ := hc
    refine ⟨a, cap, e, ?_, fun ad e => ⟨(f ad e).1, Nat.lt_of_lt_of_le (f ad e).2 hg.size⟩⟩
    have t : Touch (fun k => v.ownBlock = some k) w w' := .of_grown hg fun k hk => hk
    exact t.reads r fun ad e2 => by subst e2; exact hn ad _ _ e
  have e1 : ∀ i, i < ls.length → (vs ++ [x]).getD i undef = vs.getD i undef := fun i hlt => by simp [List.getD_eq_getElem?_getD, List.getElem?_append_left (show i < vs.length by rw [h.len]; exact hlt)]
  have e3 : (vs ++ [x]).getD ls.length undef = x := by rw [← h.len]; simp [List.getD_eq_getElem?_getD]
  refine ⟨by rw [List.length_append, List.length_singleton]; exact h1, by simp [h.len], ?_, ?_, ?_⟩
  · intro k hk hf
    rcases hb with e | e
    · exact h.out k (by rw [← e]; exact hk) hf
    · rw [e] at hk; injection hk with hk; subst hk; have := hF _ hf; omega
  · intro i hi
    rw [List.length_append, List.length_singleton] at hi
    by_cases hlt : i < ls.length
    · have e2 : (ls ++ [l]).getD i [] = ls.getD i [] := by simp [List.getD_eq_getElem?_getD, List.getElem?_append_left hlt]
      rw [e1 i hlt, e2]
      exact keep _ _ (h.chunk i hlt) fun ad n c e => h.apart i ad n c hlt e
    · have e0 : i = ls.length := by omega
      subst e0
      have e2 : (ls ++ [l]).getD ls.length [] = l := by simp [List.getD_eq_getElem?_getD]
      rw [e3, e2]
      exact keep _ _ hx hnx
  · intro i ad n c hi he hv
    rw [List.length_append, List.length_singleton] at hi
    have hold : ad.block < w.heap.size := by
      by_cases hlt : i < ls.length
      · rw [e1 i hlt] at he
        obtain ⟨a, cap, e, _, f⟩ := h.chunk i hlt
        rw [he] at e; injection e with e4; exact (f ad e4.symm).2
      · have e0 : i = ls.length := by omega
        subst e0
        rw [e3] at he
        obtain ⟨a, cap, e, _, f⟩ := hx
        rw [he] at e; injection e with e4; exact (f ad e4.symm).2
    rcases hb with e | e
    · rw [e] at hv
      by_cases hlt : i < ls.length
      · rw [e1 i hlt] at he; exact h.apart i ad n c hlt he hv
      · have e0 : i = ls.length := by omega
        subst e0
        rw [e3] at he; exact hnx ad n c he hv
    · rw [e] at hv; injection hv with hv; omega
end
end Go.Proofs.Ytahmnpbfjfllmaa
