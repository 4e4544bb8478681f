/- Worlds that part in some blocks alone; slices whose elements have one cell each, of the call's own: append, with the place of the new slice. For any program. Regions that draw their order, whose operations only read and whose callees may also add memory of their own (Below): walked once. For any program. A region that draws its order, all of whose operations but the last only read, and whose last one comes behind all others: walked once. For any program. -/
import Derived.Test.YtbicafgmfgdckaaGreatDoorMgAa
import Derived.Maps.AppendAt
import Derived.Deep.QuietTactic
import Derived.BigQuiet
import Derived.Deep.Draws
namespace Go.Proofs.YtbicafgmfgdckaaGreatDoor
open Go Go.RowKit

structure Touch (F : Nat -> Prop) (w w' : World) : Prop where
 os : w'.os = w.os
 tape : w'.tape = w.tape
 output : w'.output = w.output
 size : w.heap.size <= w'.heap.size
 block : ∀ k, k < w.heap.size -> ¬ F k -> w'.heap[k]? = w.heap[k]?
theorem Touch.refl (F : Nat -> Prop) (w : World) : Touch F w w := ⟨rfl, rfl, rfl, Nat.le_refl _, fun _ _ _ => rfl⟩
theorem Touch.trans {F : Nat -> Prop} {a b c : World} (h : Touch F a b) (k : Touch F b c) : Touch F a c :=
 ⟨k.os.trans h.os, k.tape.trans h.tape, k.output.trans h.output, Nat.le_trans h.size k.size, fun i hi hn => (k.block i (Nat.lt_of_lt_of_le hi h.size) hn).trans (h.block i hi hn)⟩
theorem Touch.trans' {F G : Nat -> Prop} {a b c : World} (h : Touch F a b) (k : Touch G b c) (hG : ∀ i, G i -> F i \/ a.heap.size <= i) : Touch F a c :=
 ⟨k.os.trans h.os, k.tape.trans h.tape, k.output.trans h.output, Nat.le_trans h.size k.size, fun i hi hn => (k.block i (Nat.lt_of_lt_of_le hi h.size) (fun g => (hG i g).elim hn (by omega))).trans (h.block i hi hn)⟩
theorem Touch.mono {F G : Nat -> Prop} {w w' : World} (h : Touch F w w') (hG : ∀ i, F i -> G i) : Touch G w w' :=
 ⟨h.os, h.tape, h.output, h.size, fun i hi hn => h.block i hi (fun f => hn (hG i f))⟩
theorem Touch.below {F : Nat -> Prop} {B : Nat} {w w' : World} (h : Touch F w w') (hF : ∀ k, F k -> B <= k) (hB : B <= w.heap.size) : Below B w w' :=
 ⟨h.os, h.tape, h.output, h.size, fun k hk => h.block k (by omega) (fun f => by have := hF k f; omega)⟩
theorem Touch.of_below {F : Nat -> Prop} {w w' : World} (h : Below w.heap.size w w') : Touch F w w' := ⟨h.os, h.tape, h.output, h.size, fun k hk _ => h.block k hk⟩
theorem Touch.of_grown {F : Nat -> Prop} {row : Option Nat} {w w' : World} (h : w.grownBy w' row) (hb : ∀ k, row = some k -> F k) : Touch F w w' :=
 ⟨h.os, h.tape, h.output, h.size, fun k hk hn => h.block k hk (fun e => hn (hb k e.symm))⟩
theorem Touch.drewN {F : Nat -> Prop} {a w : World} (h : Touch F a w) (n : Nat) : Touch F a (w.drewN n) := ⟨h.os, h.tape, h.output, h.size, h.block⟩
theorem Touch.alloc {F : Nat -> Prop} {a w : World} (h : Touch F a w) (o : Obj) : Touch F a (w.alloc o) :=
 ⟨h.os, h.tape, h.output, Nat.le_trans h.size (by simp), fun k hk hn => (Below.heap_alloc w o k (Nat.lt_of_lt_of_le hk h.size)).trans (h.block k hk hn)⟩
theorem Touch.set {F : Nat -> Prop} (w : World) (b o : Nat) (v : Value) (hb : F b) : Touch F w (w.setCell ⟨b, o, none⟩ v) :=
 ⟨rfl, rfl, rfl, by simp [World.setCell], fun k _ hk => Below.heap_setCell w ⟨b, o, none⟩ v k (fun e => hk (by rw [e]; exact hb))⟩
theorem Touch.cell {F : Nat -> Prop} {w w' : World} (h : Touch F w w') {a : Addr} {v : Value} (hc : w.cell? a = some v) (hn : ¬ F a.block) : w'.cell? a = some v := by
 rw [World.cell?_of_block (w := w) (h.block a.block (World.block_lt_of_cell? w a hc) hn)]; exact hc
theorem Touch.frozen {F : Nat -> Prop} {w w' : World} (h : Touch F w w') {a : Addr} (hl : a.block < w.heap.size) (hn : ¬ F a.block) : w'.frozen? a = w.frozen? a :=
 World.frozen?_of_block (w := w) (h.block a.block hl hn)
theorem Touch.bytes {F : Nat -> Prop} {w w' : World} (h : Touch F w w') {b off : Nat} {l : List (BitVec 8)} (hb : BytesAt w b off l) (hn : ¬ F b) : BytesAt w' b off l :=
 hb.mono fun _ _ hc => h.cell hc hn
theorem Touch.reads {F : Nat -> Prop} {w w' : World} (h : Touch F w w') {a : Option Addr} {cap : Nat} {l : List (BitVec 8)} (hr : Reads w a cap l) (hn : ∀ ad, a = some ad -> ¬ F ad.block) : Reads w' a cap l := by
 refine ⟨hr.fits, hr.room, hr.null, ?_⟩
 rcases hr.bytes with e | ⟨b, off, e, hb⟩
 ·exact .inl e
 ·exact .inr ⟨b, off, e, h.bytes hb (hn _ e)⟩
theorem heap_lt {w : World} {g : Nat} {x : Obj} (h : w.heap[g]? = some x) : g < w.heap.size := by
 rcases Nat.lt_or_ge g w.heap.size with h' | h'
 ·exact h'
 ·rw [Array.getElem?_eq_none h'] at h; cases h
theorem Touch.row {F : Nat -> Prop} {w w' : World} (h : Touch F w w') {B : Nat} {E : TypeId} {size n : Nat} {v : Value} {xs : List Value} (hr : w.ownsRow B E size v n xs) (hn : ∀ k, v.ownBlock = some k -> ¬ F k) : w'.ownsRow B E size v n xs := by
 obtain ⟨h1, h2⟩ := hr
 refine ⟨h1, ?_⟩
 rcases h2 with h2 | ⟨g, cap, cur, hv, hg, hh, r⟩
 ·exact .inl h2
 ·refine .inr ⟨g, cap, cur, hv, hg, ?_, r⟩
  rw [h.block g (heap_lt hh) (hn g (by rw [hv]; rfl))]; exact hh
theorem Touch.owns {F : Nat -> Prop} {w w' : World} (h : Touch F w w') {B : Nat} {E : TypeId} {v : Value} {l : List (BitVec 8)} (ho : Owns w B E v l) (hn : ∀ k, v.ownBlock = some k -> ¬ F k) : Owns w' B E v l := h.row ho hn
theorem row_lt {w : World} {B : Nat} {E : TypeId} {size n : Nat} {v : Value} {xs : List Value} (h : w.ownsRow B E size v n xs) {k : Nat} (hk : v.ownBlock = some k) : B <= k /\ k < w.heap.size := by
 rcases h.2 with ⟨rfl, _⟩ | ⟨g, cap, cur, rfl, hg, hh, _⟩
 ·simp [Value.ownBlock] at hk
 ·simp only [Value.ownBlock, Option.some.injEq] at hk
  subst hk
  exact ⟨hg, heap_lt hh⟩
theorem row_mono {w : World} {B B' : Nat} {E : TypeId} {size n : Nat} {v : Value} {xs : List Value} (h : w.ownsRow B E size v n xs) (hB : ∀ k, v.ownBlock = some k -> B' <= k) : w.ownsRow B' E size v n xs := by
 refine ⟨h.1, ?_⟩
 rcases h.2 with e | ⟨g, cap, cur, e, hb, r⟩
 ·exact .inl e
 ·exact .inr ⟨g, cap, cur, e, hB g (by rw [e]; rfl), r⟩

structure Elem (P : Program) (t e : TypeId) (z : Value) (bytes : Nat) : Prop where
 slice : P.underlying t = some (.slice e)
 info : (P.info? e).map (fun i => (i.zero, i.size, i.bytes)) = some (some z, 1, bytes)
 one : z.cells.size = 1
section
variable {P : Program} {t e : TypeId} {z : Value} {bytes : Nat} (T : Elem P t e z bytes) (w : World) (a : Option Addr) (len cap : Nat)
include T
end
theorem wpList_append_elem {P : Program} {w : World} {ops : Array Oper} {rest : List Oper} {o : Oper} {act : Act} {Q : Exit -> Act -> World -> Prop} {t e : TypeId} {z : Value} {bytes : Nat} (T : Elem P t e z bytes)
  (hgd : o.guard = none) (s x : Operand) (ho : o.op = .call { callee := .builtin .append, args := #[s, x], argTypes := #[t, t] })
  (B : Nat) (v : Value) (n : Nat) (xs : List Value) (hs : act.eval s = v) (hown : w.ownsRow B e 1 v n xs)
  (ad : Addr) (c : Nat) (u : Value) (hx : act.eval x = .slice (some ad) 1 c) (hu : w.cell? ad = some u) (h1 : u.oneCell' = true)
  (hlen : n + 1 <= 9223372036854775807) (hby : (n + 1) * bytes <= 140737488355328) (hbase : B <= w.heap.size)
  (h : ∀ v' w', w'.ownsRow B e 1 v' (n + 1) (xs ++ [u]) -> w.grownBy w' v.ownBlock -> (v'.ownBlock = v.ownBlock \/ v'.ownBlock = some w.heap.size) -> wpList P ops Q rest (act.put o.dst v') w') : wpList P ops Q (o :: rest) act w := by
 obtain ⟨i, hi, hz0, hz1, hz2⟩ := info_parts T.info
 refine wpList_append_own_at w hgd s x t ho B e i z 1 bytes T.slice hi hz0 hz1 hz2 T.one (by decide) v n xs hs hown ad 1 c [u] hx rfl ?_ ?_ ?_ hby hbase ?_
 ·intro j y hj
  cases j with
  | zero => simp at hj; subst hj; simpa [Addr.add] using hu
  | succ j => simp at hj
 ·intro y hy; simp at hy; subst hy; exact h1
 ·unfold maxLen; omega
 ·intro v' w' h2 h3 _ h5
  exact h v' w' h2 h3 h5
theorem wpList_append_bytes_at {P : Program} {w : World} {ops : Array Oper} {rest : List Oper} {o : Oper} {act : Act} {Q : Exit -> Act -> World -> Prop} {t e : TypeId} (T : ByteSlice P t e)
  (hgd : o.guard = none) (s x : Operand) (ho : o.op = .call { callee := .builtin .append, args := #[s, x], argTypes := #[t, t] })
  (B : Nat) (v : Value) (l : List (BitVec 8)) (hs : act.eval s = v) (hown : Owns w B e v l)
  (a : Option Addr) (cap : Nat) (m : List (BitVec 8)) (hx : act.eval x = .slice a m.length cap) (hm : Reads w a cap m)
  (hlen : l.length + m.length <= 140737488355328) (hbase : B <= w.heap.size)
  (h : ∀ v' w', Owns w' B e v' (l ++ m) -> w.grownBy w' v.ownBlock -> (v'.ownBlock = v.ownBlock \/ v'.ownBlock = some w.heap.size) -> wpList P ops Q rest (act.put o.dst v') w') : wpList P ops Q (o :: rest) act w := by
 obtain ⟨i, hi, hz0, hz1, hz2⟩ := info_parts T.info
 have fin : ∀ v' w', w'.ownsRow B e 1 v' (l.length + m.length) (l.map U8 ++ m.map U8) -> w.grownBy w' v.ownBlock -> (v'.ownBlock = v.ownBlock \/ v'.ownBlock = some w.heap.size) -> wpList P ops Q rest (act.put o.dst v') w' := by
  intro v' w' h1 h2 h3
  exact h v' w' (by unfold Owns; rw [List.length_append, List.map_append]; exact h1) h2 h3
 by_cases hn : a = none
 ·subst hn
  have hc := hm.null rfl
  have hm0 : m = [] := List.eq_nil_of_length_eq_zero (by have := hm.fits; omega)
  subst hc hm0
  refine wpList_append_own_none hgd s x t ho B e i 1 T.slice hi v l.length (l.map U8) hs hown (by simpa using hx) ?_
  exact fin v w (by simpa [Owns] using hown) ⟨rfl, rfl, rfl, Nat.le_refl _, fun _ _ _ => rfl⟩ (.inl rfl)
 ·obtain ⟨ad, rfl⟩ := Option.ne_none_iff_exists'.1 hn
  refine wpList_append_own_at w hgd s x t ho B e i (.int .u8 0) 1 1 T.slice hi hz0 hz1 hz2 rfl (by decide) v l.length (l.map U8) hs hown ad m.length cap (m.map U8) hx (by simp) ?_ ?_ ?_ ?_ hbase ?_
  ·intro j u hu
   rcases hm.bytes with rfl | ⟨b, off, e1, hb⟩
   ·simp at hu
   ·obtain rfl := Option.some.inj e1
    rw [List.getElem?_map] at hu
    obtain ⟨c, hc, rfl⟩ := Option.map_eq_some_iff.1 hu
    obtain ⟨hj, hc'⟩ := List.getElem?_eq_some_iff.1 hc
    rw [Addr.add_lit, hb j hj, byteAt_lt hj, hc']
  ·intro u hu
   obtain ⟨c, _, rfl⟩ := List.mem_map.1 hu
   rfl
  ·unfold maxLen; omega
  ·omega
  ·intro v' w' h1 h2 _ h3
   exact fin v' w' h1 h2 h3

def Chunk (F : Nat -> Prop) (w : World) (v : Value) (l : List (BitVec 8)) : Prop := ∃ a cap, v = .slice a l.length cap /\ Reads w a cap l /\ ∀ ad, a = some ad -> ¬ F ad.block /\ ad.block < w.heap.size
theorem Chunk.touch {F : Nat -> Prop} {w w' : World} {v : Value} {l : List (BitVec 8)} (h : Chunk F w v l) (t : Touch F w w') : Chunk F w' v l := by
 obtain ⟨a, cap, e, r, f⟩ := h
 exact ⟨a, cap, e, t.reads r fun ad e => (f ad e).1, fun ad e => ⟨(f ad e).1, Nat.lt_of_lt_of_le (f ad e).2 t.size⟩⟩
theorem Chunk.less {F G : Nat -> Prop} {w : World} {v : Value} {l : List (BitVec 8)} (h : Chunk F w v l) (hG : ∀ k, G k -> F k \/ w.heap.size <= k) : Chunk G w v l := by
 obtain ⟨a, cap, e, r, f⟩ := h
 exact ⟨a, cap, e, r, fun ad e => ⟨fun g => by have := f ad e; rcases hG _ g with h1 | h1; exact this.1 h1; omega, (f ad e).2⟩⟩
structure OwnsRows (F : Nat -> Prop) (w : World) (B : Nat) (E : TypeId) (v : Value) (vs : List Value) (ls : List (List (BitVec 8))) : Prop where
 row : w.ownsRow B E 1 v ls.length vs
 len : vs.length = ls.length
 out : ∀ k, v.ownBlock = some k -> ¬ F k
 chunk : ∀ i, i < ls.length -> Chunk F w (vs.getD i undef) (ls.getD i [])
 apart : ∀ i ad n c, i < ls.length -> vs.getD i undef = .slice (some ad) n c -> v.ownBlock ≠ some ad.block
theorem ownsRows_nil (F : Nat -> Prop) (w : World) (B : Nat) (E : TypeId) : OwnsRows F w B E (.slice none 0 0) [] [] :=
 ⟨World.ownsRow_nil w B E 1, rfl, fun k h => by simp [Value.ownBlock] at h, fun i hi => by simp at hi, fun i _ _ _ hi => by simp at hi⟩
section
variable {F : Nat -> Prop} {w w' : World} {B : Nat} {E : TypeId} {v : Value} {vs : List Value} {ls : List (List (BitVec 8))}
theorem OwnsRows.touch (h : OwnsRows F w B E v vs ls) (t : Touch F w w') : OwnsRows F w' B E v vs ls :=
 ⟨t.row h.row h.out, h.len, h.out, fun i hi => (h.chunk i hi).touch t, h.apart⟩
theorem OwnsRows.less {G : Nat -> Prop} (h : OwnsRows F w B E v vs ls) (hG : ∀ k, G k -> F k \/ w.heap.size <= k) : OwnsRows G w B E v vs ls :=
 ⟨h.row, h.len, fun k hk g => by have := row_lt h.row hk; rcases hG k g with h1 | h1; exact h.out k hk h1; omega, fun i hi => (h.chunk i hi).less hG, h.apart⟩
theorem OwnsRows.form (h : OwnsRows F w B E v vs ls) : ∃ a cap, v = .slice a ls.length cap /\ (a = none -> cap = 0 /\ ls = []) /\ ls.length <= cap /\ cap <= 9223372036854775807 := by
 rcases h.row.2 with ⟨rfl, h0⟩ | ⟨g, cap, cur, rfl, _, _, hn, hc, _⟩
 ·exact ⟨none, 0, by rw [h0], fun _ => ⟨rfl, List.eq_nil_of_length_eq_zero h0⟩, by omega, by omega⟩
 ·refine ⟨_, cap, rfl, fun e => (by cases e), hn, ?_⟩
  unfold maxLen at hc; omega
theorem OwnsRows.at_ (h : OwnsRows F w B E v vs ls) {i : Nat} (hi : i < ls.length) :
  ∃ g cap a c, v = .slice (some ⟨g, 0, none⟩) ls.length cap /\ w.cell? ⟨g, i, none⟩ = some (.slice a (ls.getD i []).length c) /\ Reads w a c (ls.getD i []) /\ ∀ ad, a = some ad -> ¬ F ad.block /\ ad.block < w.heap.size := by
 rcases h.row.2 with ⟨_, h0⟩ | ⟨g, cap, cur, rfl, _, hg, hn, hc, hs, ht⟩
 ·omega
 ·obtain ⟨a, c, e, r, f⟩ := h.chunk i hi
  refine ⟨g, cap, a, c, rfl, ?_, r, f⟩
  have := h.row.cells (g := g) rfl i (vs.getD i undef) (by rw [List.getElem?_eq_getElem (by rw [h.len]; exact hi), List.getD_eq_getElem?_getD, List.getElem?_eq_getElem (by rw [h.len]; exact hi)]; rfl)
  rw [Addr.add_lit, Nat.zero_add] at this
  rw [this, e]
theorem OwnsRows.snoc {x v' : Value} {l : List (BitVec 8)} (h : OwnsRows F w B E v vs ls) (hx : Chunk F w x l) (hF : ∀ k, F k -> k < w.heap.size)
  (h1 : w'.ownsRow B E 1 v' (ls.length + 1) (vs ++ [x])) (hg : w.grownBy w' v.ownBlock) (hb : v'.ownBlock = v.ownBlock \/ v'.ownBlock = some w.heap.size) (hnx : ∀ ad n c, x = .slice (some ad) n c -> v.ownBlock ≠ some ad.block) :
  OwnsRows F w' B E v' (vs ++ [x]) (ls ++ [l]) := by
 have keep : ∀ (u : Value) (m : List (BitVec 8)), Chunk F w u m -> (∀ ad n c, u = .slice (some ad) n c -> v.ownBlock ≠ some ad.block) -> Chunk F w' u m := by
  intro u m hc hn
  obtain ⟨a, cap, e, r, f⟩ := hc
  refine ⟨a, cap, e, ?_, fun ad e => ⟨(f ad e).1, Nat.lt_of_lt_of_le (f ad e).2 hg.size⟩⟩
  have t : Touch (fun k => v.ownBlock = some k) w w' := .of_grown hg fun k hk => hk
  exact t.reads r fun ad e2 => by subst e2; exact hn ad _ _ e
 have e1 : ∀ i, i < ls.length -> (vs ++ [x]).getD i undef = vs.getD i undef := fun i hlt => by simp [List.getD_eq_getElem?_getD, List.getElem?_append_left (show i < vs.length by rw [h.len]; exact hlt)]
 have e3 : (vs ++ [x]).getD ls.length undef = x := by rw [<- h.len]; simp [List.getD_eq_getElem?_getD]
 refine ⟨by rw [List.length_append, List.length_singleton]; exact h1, by simp [h.len], ?_, ?_, ?_⟩
 ·intro k hk hf
  rcases hb with e | e
  ·exact h.out k (by rw [<- e]; exact hk) hf
  ·rw [e] at hk; injection hk with hk; subst hk; have := hF _ hf; omega
 ·intro i hi
  rw [List.length_append, List.length_singleton] at hi
  by_cases hlt : i < ls.length
  ·have e2 : (ls ++ [l]).getD i [] = ls.getD i [] := by simp [List.getD_eq_getElem?_getD, List.getElem?_append_left hlt]
   rw [e1 i hlt, e2]
   exact keep _ _ (h.chunk i hlt) fun ad n c e => h.apart i ad n c hlt e
  ·have e0 : i = ls.length := by omega
   subst e0
   have e2 : (ls ++ [l]).getD ls.length [] = l := by simp [List.getD_eq_getElem?_getD]
   rw [e3, e2]
   exact keep _ _ hx hnx
 ·intro i ad n c hi he hv
  rw [List.length_append, List.length_singleton] at hi
  have hold : ad.block < w.heap.size := by
   by_cases hlt : i < ls.length
   ·rw [e1 i hlt] at he
    obtain ⟨a, cap, e, _, f⟩ := h.chunk i hlt
    rw [he] at e; injection e with e4; exact (f ad e4.symm).2
   ·have e0 : i = ls.length := by omega
    subst e0
    rw [e3] at he
    obtain ⟨a, cap, e, _, f⟩ := hx
    rw [he] at e; injection e with e4; exact (f ad e4.symm).2
  rcases hb with e | e
  ·rw [e] at hv
   by_cases hlt : i < ls.length
   ·rw [e1 i hlt] at he; exact h.apart i ad n c hlt he hv
   ·have e0 : i = ls.length := by omega
    subst e0
    rw [e3] at he; exact hnx ad n c he hv
  ·rw [e] at hv; injection hv with hv; omega
end
end Go.Proofs.YtbicafgmfgdckaaGreatDoor
namespace Go.Proofs.YtbicafgmfgdckaaGreatDoor
open Go Go.RowKit

structure Later (w : World) where
 to : World
 below : Below w.heap.size w to
/- At a region, written out (a macro of one's own is refused in a claim):
 refine wp_region_later (by kernel_rfl) (by kernel_rfl) ?_
 repeat (first | go_big_quiet_step (tac) | quiet_step (tac))
 refine wpQuiet_nil ?_
 rintro _ ⟨x, rfl⟩
-/
end Go.Proofs.YtbicafgmfgdckaaGreatDoor
namespace Go.Proofs.YtbicafgmfgdckaaGreatDoor
open Go

section
variable {P : Program} {md : Region.Mode} {C : World -> Prop}

def idle (o : Oper) : Oper := { o with op := .move (.const undef) }

theorem wpQuiet_mono {ops : Array Oper} {Q Q' : Act -> Prop} (hQ : ∀ a, Q a -> Q' a) : ∀ (l : List Oper) (a : Act), wpQuiet P ops C Q l a -> wpQuiet P ops C Q' l a
 | [], _, h => hQ _ h
 | o :: l, a, h => by
  unfold wpQuiet at h ⊢
  split
  ·rename_i hw; rw [if_pos hw] at h
   exact Oper.quiet_mono (fun a' h' => wpQuiet_mono hQ l a' h') h
  ·rename_i hw; rw [if_neg hw] at h
   exact wpQuiet_mono hQ l _ h
def backB (ops : Array Oper) : Bool := (List.range ops.size).all fun i => ((ops[i]?).map fun o => o.after.all fun e => decide (e.on < i)).getD true
def afters (ops : Array Oper) (i : Nat) : List Nat := ((ops[i]?).map fun o => ((o.after.toList.filter fun e => Region.binds .any e).map (·.on))).getD []
def marks (ops : Array Oper) (n : Nat) : Nat -> List Nat
 | 0 => afters ops n
 | t + 1 => if (marks ops n t).contains (n - 1 - t) then afters ops (n - 1 - t) ++ marks ops n t else marks ops n t
def lastB (ops : Array Oper) (n : Nat) : Bool := (List.range n).all fun j => (marks ops n n).contains j
def Closed (ops : Array Oper) (listed : Array Bool) : Prop := ∀ i o, ops[i]? = some o -> listed.getD i false = true -> ∀ e ∈ o.after, Region.binds .any e = true -> listed.getD e.on false = true
theorem Closed.step {ops : Array Oper} {listed : Array Bool} {i : Nat} (h : Closed ops listed) (hi : i ∈ Region.ready .any ops listed) : Closed ops (listed.setIfInBounds i true) := by
 intro j o ho hj e he hb
 refine getD_set_true ?_
 by_cases hji : j = i
 ·subst hji
  obtain ⟨_, o', ho', hall⟩ := mem_ready.1 hi
  rw [ho] at ho'
  obtain rfl := Option.some.inj ho'
  exact hall e he hb
 ·refine h j o ho ?_ e he hb
  simp only [Array.getD_eq_getD_getElem?] at hj ⊢
  rw [Array.getElem?_setIfInBounds_ne (Ne.symm hji)] at hj
  exact hj
theorem marks_listed {ops : Array Oper} {listed : Array Bool} {n : Nat} (hc : Closed ops listed) (hn : n ∈ Region.ready .any ops listed) : ∀ t, ∀ j ∈ marks ops n t, listed.getD j false = true := by
 intro t
 induction t with
 | zero =>
  intro j hj
  obtain ⟨_, o, ho, hall⟩ := mem_ready.1 hn
  unfold marks afters at hj
  rw [ho] at hj
  simp only [Option.map_some, Option.getD_some, List.mem_map, List.mem_filter, Array.mem_toList_iff] at hj
  obtain ⟨e, ⟨he, hb⟩, rfl⟩ := hj
  exact hall e he hb
 | succ t ih =>
  intro j hj
  unfold marks at hj
  split at hj
  ·rename_i hcon
   rcases List.mem_append.1 hj with hj | hj
   ·have hi := ih (n - 1 - t) (by simpa using hcon)
    unfold afters at hj
    cases ho : ops[n - 1 - t]? with
    | none => rw [ho] at hj; simp at hj
    | some o =>
     rw [ho] at hj
     simp only [Option.map_some, Option.getD_some, List.mem_map, List.mem_filter, Array.mem_toList_iff] at hj
     obtain ⟨e, ⟨he, hb⟩, rfl⟩ := hj
     exact hc _ o ho hi e he hb
   ·exact ih j hj
  ·exact ih j hj
theorem last_all {ops : Array Oper} {listed : Array Bool} {n : Nat} (hl : lastB ops n = true) (hc : Closed ops listed) (hn : n ∈ Region.ready .any ops listed) : ∀ j, j < n -> listed.getD j false = true := by
 intro j hj
 have h1 := List.all_eq_true.1 hl j (List.mem_range.2 hj)
 exact marks_listed hc hn n j (by simpa using h1)

theorem ready_open {ops : Array Oper} (hb : backB ops = true) (listed : Array Bool) (hs : listed.size = ops.size) : ∀ n, n < ops.size -> listed.getD n true = false -> Region.ready md ops listed ≠ [] := by
 intro n
 induction n using Nat.strongRecOn with
 | _ n ih =>
  intro hn hl h0
  have hnot : n ∉ Region.ready md ops listed := by rw [h0]; simp
  rw [mem_ready] at hnot
  obtain ⟨o, ho⟩ : ∃ o, ops[n]? = some o := ⟨ops[n], Array.getElem?_eq_getElem hn⟩
  have hex : ∃ e ∈ o.after, Region.binds md e = true /\ listed.getD e.on false ≠ true := by
   apply Classical.byContradiction
   intro hc
   refine hnot ⟨hl, o, ho, fun e he hbd => ?_⟩
   apply Classical.byContradiction
   intro hx
   exact hc ⟨e, he, hbd, hx⟩
  obtain ⟨e, he, _, hx⟩ := hex
  have h1 := List.all_eq_true.1 hb n (List.mem_range.2 hn)
  rw [ho] at h1
  simp only [Option.map_some, Option.getD_some] at h1
  have h2 : e.on < n := by
   have := Array.all_eq_true_iff_forall_mem.1 h1 e he
   simpa using this
  refine ih e.on h2 (by omega) ?_ h0
  have h3 : e.on < listed.size := by omega
  simp only [Array.getD_eq_getD_getElem?, Array.getElem?_eq_getElem h3, Option.getD_some] at hx ⊢
  simpa using hx


def restB (ops : Array Oper) (n : Nat) : Bool := (List.range ops.size).all fun i => decide (i <= n) || ((ops[i]?).map fun o => o.after.any fun e => decide (n <= e.on) && decide (e.on < i) && Region.binds .any e).getD false
def guardB (ops : Array Oper) (n : Nat) : Bool := (List.range n).all fun i => ((ops[i]?).map fun o => (o.guard.map fun g => decide (g.1 < n)).getD true).getD true

theorem rest_waits {ops : Array Oper} {n : Nat} (hr : restB ops n = true) (listed : Array Bool) (hl : ∀ j, n <= j -> j < ops.size -> listed.getD j true = false) (hs : listed.size = ops.size) {i : Nat} (hi : n < i) : i ∉ Region.ready .any ops listed := by
 intro h
 rw [mem_ready] at h
 obtain ⟨_, o, ho, hall⟩ := h
 have hlt : i < ops.size := (Array.getElem?_eq_some_iff.1 ho).1
 have h1 := List.all_eq_true.1 hr i (List.mem_range.2 hlt)
 rw [ho] at h1
 simp only [Option.map_some, Option.getD_some, Bool.or_eq_true, decide_eq_true_eq] at h1
 rcases h1 with h1 | h1
 ·omega
 ·rw [<- Array.any_toList, List.any_eq_true] at h1
  obtain ⟨e, he, hx⟩ := h1
  rw [Array.mem_toList_iff] at he
  simp only [Bool.and_eq_true, decide_eq_true_eq] at hx
  have h2 := hall e he hx.2
  have h3 := hl e.on hx.1.1 (by omega)
  have h4 : e.on < listed.size := by omega
  simp [Array.getD_eq_getD_getElem?, h4] at h2 h3
  rw [h2] at h3; cases h3

theorem wanted_head {ops : Array Oper} {n i : Nat} {o : Oper} (hg : guardB ops n = true) (hi : i < n) (ho : ops[i]? = some o) (tmps : Array Value) :
  Region.wanted o (yielded (ops.extract 0 n) tmps) = Region.wanted o (yielded ops tmps) := by
 have h1 := List.all_eq_true.1 hg i (List.mem_range.2 hi)
 rw [ho] at h1
 simp only [Option.map_some, Option.getD_some] at h1
 unfold Region.wanted
 cases hgd : o.guard with
 | none => rfl
 | some g =>
  rw [hgd] at h1
  simp only [Option.map_some, Option.getD_some, decide_eq_true_eq] at h1
  have : yielded (ops.extract 0 n) tmps g.1 = yielded ops tmps g.1 := by
   unfold yielded
   rw [Array.getElem?_extract]
   have : g.1 < min n ops.size - 0 \/ ops.size <= g.1 := by
    rcases Nat.lt_or_ge g.1 ops.size with h | h
    ·left; omega
    ·right; exact h
   rcases this with h | h
   ·rw [if_pos h]; simp
   ·rw [Array.getElem?_eq_none h]
    split <;> simp_all
  simp only [this]

theorem wpAny_head {ops : Array Oper} {n : Nat} {Q : Act -> Prop} {Q' : Exit -> Act -> World -> Prop} (hn : n < ops.size) (hback : backB ops = true) (hlast : lastB ops n = true) (hrest : restB ops n = true) (hguard : guardB ops n = true)
  (hQ : ∀ (fuel : Nat) (listed : Array Bool) (a : Act) (w : World), ops.size - n <= fuel -> C w -> Q a -> listed.size = ops.size -> (∀ j, j < n -> listed.getD j true = true) -> (∀ j, n <= j -> j < ops.size -> listed.getD j true = false) -> wpAny P .any ops Q' fuel listed a w) :
  ∀ (f fuel : Nat) (listed : Array Bool) (a : Act) (w : World), f + (ops.size - n) <= fuel -> C w -> listed.size = ops.size -> Closed ops listed -> (∀ j, n <= j -> j < ops.size -> listed.getD j true = false) ->
   wpAnyQ P .any (ops.extract 0 n) C Q f (listed.extract 0 n) a -> wpAny P .any ops Q' fuel listed a w := by
 have hget : ∀ j, j < n -> (ops.extract 0 n)[j]? = ops[j]? := fun j hj => by
  rw [Array.getElem?_extract, if_pos (by omega)]; simp
 have hgl : ∀ (listed : Array Bool), listed.size = ops.size -> ∀ (j : Nat) (d : Bool), j < n -> (listed.extract 0 n).getD j d = listed.getD j d := fun listed hs j d hj => by
  simp only [Array.getD_eq_getD_getElem?]
  rw [Array.getElem?_extract, if_pos (by omega)]; simp
 have hhead : ∀ (listed : Array Bool), listed.size = ops.size -> ∀ j, j < n -> (j ∈ Region.ready .any (ops.extract 0 n) (listed.extract 0 n) ↔ j ∈ Region.ready .any ops listed) := by
  intro listed hs j hj
  rw [mem_ready, mem_ready, hget j hj, hgl listed hs j true hj]
  refine and_congr_right fun _ => ?_
  constructor
  ·rintro ⟨o, ho, h⟩
   refine ⟨o, ho, fun e he hb => ?_⟩
   have h1 := List.all_eq_true.1 hback j (List.mem_range.2 (by omega))
   rw [ho] at h1
   simp only [Option.map_some, Option.getD_some] at h1
   have h2 : e.on < j := by have := Array.all_eq_true_iff_forall_mem.1 h1 e he; simpa using this
   rw [<- hgl listed hs e.on false (by omega)]; exact h e he hb
  ·rintro ⟨o, ho, h⟩
   refine ⟨o, ho, fun e he hb => ?_⟩
   have h1 := List.all_eq_true.1 hback j (List.mem_range.2 (by omega))
   rw [ho] at h1
   simp only [Option.map_some, Option.getD_some] at h1
   have h2 : e.on < j := by have := Array.all_eq_true_iff_forall_mem.1 h1 e he; simpa using this
   rw [hgl listed hs e.on false (by omega)]; exact h e he hb
 intro f
 induction f with
 | zero =>
  intro fuel listed a w hf hw hs hcl hop h
  by_cases hall : ∀ j, j < n -> listed.getD j true = true
  ·exact hQ fuel listed a w (by omega) hw h.2 hs hall hop
  ·exfalso
   obtain ⟨j, hj⟩ := Classical.not_forall.1 hall
   obtain ⟨hj1, hj2⟩ := Classical.not_imp.1 hj
   have hback' : backB (ops.extract 0 n) = true := by
    unfold backB
    rw [List.all_eq_true]
    intro i hi
    rw [List.mem_range, Array.size_extract] at hi
    rw [hget i (by omega)]
    exact List.all_eq_true.1 hback i (List.mem_range.2 (by omega))
   refine ready_open (md := .any) hback' (listed.extract 0 n) (by simp [hs]) j (by simp; omega) ?_ h.1
   rw [hgl listed hs j true hj1]
   cases hh : listed.getD j true
   ·rfl
   ·exact (hj2 hh).elim
 | succ f ih =>
  intro fuel listed a w hf hw hs hcl hop h
  by_cases hall : ∀ j, j < n -> listed.getD j true = true
  ·have hnil : Region.ready .any (ops.extract 0 n) (listed.extract 0 n) = [] := by
    rw [List.eq_nil_iff_forall_not_mem]
    intro j hj
    have := (mem_ready.1 hj).1
    have hj2 : j < n := by
     obtain ⟨_, o, ho, _⟩ := mem_ready.1 hj
     have := (Array.getElem?_eq_some_iff.1 ho).1
     rw [Array.size_extract] at this; omega
    rw [hgl listed hs j true hj2, hall j hj2] at this
    cases this
   exact hQ fuel listed a w (by omega) hw (h.1 hnil) hs hall hop
  ·obtain ⟨g, rfl⟩ : ∃ g, fuel = g + 1 := ⟨fuel - 1, by omega⟩
   refine ⟨fun h0 => (ready_open hback listed hs n hn (hop n (Nat.le_refl _) hn) h0).elim, fun i hi => ?_⟩
   have hin : i < n := by
    rcases Nat.lt_trichotomy i n with h' | h' | h'
    ·exact h'
    ·exfalso
     subst h'
     apply hall
     intro j hj
     have h2 := last_all hlast hcl hi j hj
     have h3 : j < listed.size := by omega
     simp [Array.getD_eq_getD_getElem?, h3] at h2 ⊢
     exact h2
    ·exact (rest_waits hrest listed hop hs h' hi).elim
   have hq := h.2 i ((hhead listed hs i hin).2 hi)
   have hq' : qOp P ops C i (wpAnyQ P .any (ops.extract 0 n) C Q f ((listed.setIfInBounds i true).extract 0 n)) a := by
    have he : (listed.setIfInBounds i true).extract 0 n = (listed.extract 0 n).setIfInBounds i true := by
     apply Array.ext_getElem?
     intro j
     rw [Array.getElem?_extract, Array.getElem?_setIfInBounds, Array.getElem?_setIfInBounds, Array.getElem?_extract]
     simp only [Array.size_setIfInBounds, Array.size_extract, Nat.zero_add]
     by_cases hj : i = j
     ·subst hj
      have h1 : i < min n listed.size := by omega
      have h2 : i < listed.size := by omega
      simp [h1, h2]
     ·simp [hj]
    rw [he]
    unfold qOp at hq ⊢
    rw [hget i hin] at hq
    cases ho : ops[i]? with
    | none => simp only [ho] at hq ⊢; exact hq
    | some o =>
     simp only [ho] at hq ⊢
     rw [wanted_head hguard hin ho] at hq
     exact hq
   exact wpOp_of_qOp hw (fun a' w' hw' hk => ih g _ a' w' (by omega) hw' (by simpa using hs) (hcl.step hi) (fun j hj hj2 => by rw [getD_set_ne true (by omega)]; exact hop j hj hj2) hk) hq'

def mask (ops : Array Oper) (k : Nat) : Array Bool := Array.replicate k true ++ Array.replicate (ops.size - k) false
def Rest (P : Program) (Q' : Exit -> Act -> World -> Prop) (L : List Oper) (k : Nat) (a : Act) (w : World) : Prop := wpAny P .any L.toArray Q' (L.length - k) (mask L.toArray k) a w
def MidPost (P : Program) (Q' : Exit -> Act -> World -> Prop) (L : List Oper) (k : Nat) : Exit -> Act -> World -> Prop
 | .normal, a, w => Rest P Q' L k a w
 | e, a, w => Q' e a w
def midB (L : List Oper) (k n : Nat) : Bool :=
 decide (k <= n) && decide (n < L.length) && backB L.toArray && lastB L.toArray n && restB L.toArray n && guardB L.toArray n && Region.noSelect (L.toArray.extract 0 n) &&
  Region.lexFrom .any (L.toArray.extract 0 n) (n - k) k ((mask L.toArray k).extract 0 n)
def endB (L : List Oper) (k : Nat) : Bool := decide (k <= L.length) && Region.noSelect L.toArray && Region.lexFrom .any L.toArray (L.length - k) k (mask L.toArray k)

theorem wpAny_more {ops : Array Oper} {Q' : Exit -> Act -> World -> Prop} : ∀ (f : Nat) (listed : Array Bool) (a : Act) (w : World), wpAny P md ops Q' f listed a w -> wpAny P md ops Q' (f + 1) listed a w
 | 0, listed, a, w, h => ⟨fun _ => h.2, by rw [h.1]; intro i hi; cases hi⟩
 | f + 1, listed, a, w, h => ⟨h.1, fun i hi => wpOp_mono (fun a' w' h' => wpAny_more f _ a' w' h') (h.2 i hi)⟩
theorem wpAny_le {ops : Array Oper} {Q' : Exit -> Act -> World -> Prop} {f g : Nat} (hfg : f <= g) {listed : Array Bool} {a : Act} {w : World} (h : wpAny P md ops Q' f listed a w) : wpAny P md ops Q' g listed a w := by
 induction hfg with
 | refl => exact h
 | step _ ih => exact wpAny_more _ _ _ _ ih

theorem wpOp_of_list {ops : Array Oper} {Q Q' : Exit -> Act -> World -> Prop} {n : Nat} {o : Oper} {a : Act} {w : World} (ho : ops[n]? = some o) (hQ : ∀ e a w, e ≠ .normal -> Q e a w -> Q' e a w)
  (h : wpList P ops Q [o] a w) : wpOp P ops Q' n (fun a' w' => Q .normal a' w') a w := by
 unfold wpList at h
 unfold wpOp
 simp only [ho]
 split
 ·rename_i hw
  rw [if_pos hw] at h
  rcases h with h | ⟨h1, a0, w0, h2⟩
  ·left
   unfold Oper.wp at h ⊢
   generalize (execOp a.eval o).run P w = r at *
   cases r with
   | ok x w' =>
    cases x <;> first
     | exact h
     | exact h.elim
     |(exact Calls.mono h fun e w'' he => by cases e <;> first | exact he | exact hQ _ _ _ (by simp) he | (obtain ⟨a1, w1, h1⟩ := he; exact ⟨a1, w1, hQ _ _ _ (by simp) h1⟩))
     | exact Rows.mono h fun _ _ he => he
   | halt x w' => cases x <;> first | exact hQ _ _ _ (by simp) h | exact h.elim
  ·exact .inr ⟨h1, a0, w0, hQ _ _ _ (by simp) h2⟩
 ·rename_i hw
  rw [if_neg hw] at h
  exact h

theorem rest_quiet {Q' : Exit -> Act -> World -> Prop} {L : List Oper} {k : Nat} {a : Act} {w : World} (hb : endB L k = true)
  (h : wpQuiet P L.toArray (fun w' => ∃ j, w' = w.drewN j) (fun a' => ∀ j, Q' .normal a' (w.drewN j)) (L.drop k) a) : Rest P Q' L k a w := by
 unfold endB at hb
 simp only [Bool.and_eq_true, decide_eq_true_eq] at hb
 obtain ⟨⟨hk, hsel⟩, hB⟩ := hb
 refine wpAny_of_quiet (C := fun w' => ∃ j, w' = w.drewN j) (Q := fun a' => ∀ j, Q' .normal a' (w.drewN j)) (fun a3 w3 hw3 hq3 => by obtain ⟨j, rfl⟩ := hw3; exact hq3 j) _ _ a w ⟨0, rfl⟩ ?_
 have hlen : (L.drop k).length = L.length - k := by simp
 rw [<- hlen]
 exact wpAnyQ_lex (P := P) (C := fun w' => ∃ j, w' = w.drewN j) (md := .any) hsel (L.drop k) k (mask L.toArray k) a (fun j => by rw [List.getElem?_drop]; simp) (by rw [hlen]; exact hB) h

theorem rest_mid_in {Q' : Exit -> Act -> World -> Prop} {L : List Oper} {k : Nat} (n : Nat) {o : Oper} {a : Act} {w w1 : World} (hw1 : ∃ j, w1 = w.drewN j) (hb : midB L k n = true) (ho : L[n]? = some o)
  (h : wpQuiet P (L.take n).toArray (fun w' => ∃ j, w' = w.drewN j) (fun a' => ∀ j, wpList P L.toArray (MidPost P Q' L (n + 1)) [o] a' (w.drewN j)) ((L.take n).drop k) a) : Rest P Q' L k a w1 := by
 unfold midB at hb
 simp only [Bool.and_eq_true, decide_eq_true_eq] at hb
 obtain ⟨⟨⟨⟨⟨⟨⟨hk, hn⟩, hback⟩, hlast⟩, hrest⟩, hguard⟩, hsel⟩, hB⟩ := hb
 have hn' : n < L.toArray.size := by simpa using hn
 have hx : L.toArray.extract 0 n = (L.take n).toArray := by simp
 have hmget : ∀ j, (mask L.toArray k)[j]? = if j < k then some true else if j < L.length then some false else none := by
  intro j
  unfold mask
  rw [Array.getElem?_append, Array.getElem?_replicate, Array.getElem?_replicate, Array.size_replicate]
  simp only [List.size_toArray]
  by_cases h1 : j < k
  ·simp [h1]
  ·by_cases h2 : j < L.length
   ·simp [h1, h2]; omega
   ·simp [h1, h2]; omega
 have hms : (mask L.toArray k).size = L.toArray.size := by unfold mask; simp; omega
 unfold Rest
 refine wpAny_head (ops := L.toArray) (n := n) (C := fun w' => ∃ j, w' = w.drewN j) (Q := fun a' => ∀ j, wpList P L.toArray (MidPost P Q' L (n + 1)) [o] a' (w.drewN j))
  hn' hback hlast hrest hguard ?_ (n - k) (L.length - k) _ a _ (by simp; omega) hw1 hms ?_ ?_ ?_
 ·rintro fuel listed a' w' hf ⟨j, rfl⟩ hQ hs hall hop
  obtain ⟨g, rfl⟩ : ∃ g, fuel = g + 1 := ⟨fuel - 1, by omega⟩
  refine ⟨fun h0 => (ready_open hback listed hs n hn' (hop n (Nat.le_refl _) hn') h0).elim, fun i hi => ?_⟩
  have hin : i = n := by
   rcases Nat.lt_trichotomy i n with h' | h' | h'
   ·have := (mem_ready.1 hi).1
    rw [hall i h'] at this; cases this
   ·exact h'
   ·exact (rest_waits hrest listed hop hs h' hi).elim
  subst hin
  have hl : listed.setIfInBounds i true = mask L.toArray (i + 1) := by
   unfold mask
   apply Array.ext_getElem?
   intro j
   rw [Array.getElem?_setIfInBounds, Array.getElem?_append, Array.getElem?_replicate, Array.getElem?_replicate, Array.size_replicate]
   by_cases hj : i = j
   ·subst hj; simp [hs, hn]
   ·by_cases hj2 : j < i
    ·have h1 := hall j hj2
     have h3 : j < listed.size := by omega
     simp [Array.getD_eq_getD_getElem?, h3] at h1
     simp [hj, show j < i + 1 by omega, h3, h1]
    ·by_cases hj3 : j < L.toArray.size
     ·have h1 := hop j (by omega) hj3
      have h3 : j < listed.size := by omega
      simp [Array.getD_eq_getD_getElem?, h3] at h1
      simp at hj3
      simp [hj, show ¬ j < i + 1 by omega, h3, h1]; omega
     ·simp at hj3
      simp at hs
      simp [hj, show ¬ j < i + 1 by omega, show listed.size <= j by omega]; omega
  have hop' := wpOp_of_list (Q' := Q') (by simpa using ho) (fun e a w he hx => by cases e <;> first | exact (he rfl).elim | exact hx) (hQ j)
  refine wpOp_mono (fun a'' w'' h' => ?_) hop'
  rw [hl]
  exact wpAny_le (by simp at hf; omega) h'
 ·intro i o ho hi e he hb
  have h1 : i < k := by
   simp only [Array.getD_eq_getD_getElem?, hmget] at hi
   by_cases h1 : i < k
   ·exact h1
   ·by_cases h2 : i < L.length <;> simp [h1, h2] at hi
  have h2 := List.all_eq_true.1 hback i (List.mem_range.2 (by omega))
  rw [ho] at h2
  simp only [Option.map_some, Option.getD_some] at h2
  have h3 : e.on < i := by have := Array.all_eq_true_iff_forall_mem.1 h2 e he; simpa using this
  simp only [Array.getD_eq_getD_getElem?, hmget]
  simp [show e.on < k by omega]
 ·intro j hj hj2
  simp only [Array.getD_eq_getD_getElem?, hmget]
  simp at hj2
  simp [show ¬ j < k by omega, hj2]
 ·have hlen : ((L.take n).drop k).length = n - k := by simp; omega
  have := wpAnyQ_lex (P := P) (ops := L.toArray.extract 0 n) (C := fun w' => ∃ j, w' = w.drewN j) (md := .any) hsel ((L.take n).drop k) k ((mask L.toArray k).extract 0 n) a
   (fun j => by rw [List.getElem?_drop, hx]; simp) (by rw [hlen]; exact hB) (by rw [hx]; exact h)
  rw [hlen] at this
  exact this

theorem wp_region_rest {Q' : Exit -> Act -> World -> Prop} {id : Nat} {L : List Oper} {a : Act} {w : World} (hm : P.follows .mixedOrders = true) (h : Rest P Q' L 0 a w.drew) : (Code.region id L.toArray true).wp P Q' a w := by
 refine wp_region_any hm ?_
 have : mask L.toArray 0 = Array.replicate L.toArray.size false := by unfold mask; simp
 unfold Rest at h
 rw [this] at h
 simpa using h
theorem wp_region_mid {Q' : Exit -> Act -> World -> Prop} {id : Nat} {L : List Oper} (n : Nat) {o : Oper} {a : Act} {w : World} (hm : P.follows .mixedOrders = true) (hb : midB L 0 n = true) (ho : L[n]? = some o)
  (h : wpQuiet P (L.take n).toArray (fun w' => ∃ j, w' = w.drewN j) (fun a' => ∀ j, wpList P L.toArray (MidPost P Q' L (n + 1)) [o] a' (w.drewN j)) ((L.take n).drop 0) a) : (Code.region id L.toArray true).wp P Q' a w :=
 wp_region_rest hm (rest_mid_in n ⟨1, rfl⟩ hb ho h)
theorem midPost_normal {Q' : Exit -> Act -> World -> Prop} {L : List Oper} {k : Nat} {a : Act} {w : World} (h : Rest P Q' L k a w) : MidPost P Q' L k .normal a w := h
end
end Go.Proofs.YtbicafgmfgdckaaGreatDoor
