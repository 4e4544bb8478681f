/- A segment's bytes while they grow: at first a literal, then a row of the call's own. -/
import Derived.Test.YtmcdjkfmfhbbnaaDoorWhole
import Derived.ArgAppend
namespace Go.Proofs.YtmcdjkfmfhbbnaaDoor
open Go Go.RowKit

def SegB (B : Nat) (v : Value) (l : List (BitVec 8)) (w : World) : Prop :=
  (∃ g, v = .slice (some ⟨g, 0, none⟩) l.length l.length ∧ B ≤ g ∧ g < w.heap.size ∧ Reads w (some ⟨g, 0, none⟩) l.length l) ∨ Owns w B 5 v l
theorem SegB.lt {B : Nat} {v : Value} {l : List (BitVec 8)} {w : World} (h : SegB B v l w) {k : Nat} (hk : v.ownBlock = some k) : B ≤ k ∧ k < w.heap.size := by
  rcases h with ⟨g, rfl, h1, h2, _⟩ | h
  · simp only [Value.ownBlock, Option.some.injEq] at hk
    omega
  · exact row_lt h hk
theorem SegB.reads {B : Nat} {v : Value} {l : List (BitVec 8)} {w : World} (h : SegB B v l w) : ∃ a cap, v = .slice a l.length cap ∧ Reads w a cap l := by
  rcases h with ⟨g, rfl, _, _, hr⟩ | h
  · exact ⟨_, _, rfl, hr⟩
  · exact h.reads
theorem SegB.touch {F : Nat → Prop} {B : Nat} {v : Value} {l : List (BitVec 8)} {w w' : World} (h : SegB B v l w) (t : Touch F w w') (hv : ∀ k, v.ownBlock = some k → ¬ F k) : SegB B v l w' := by
  rcases h with ⟨g, rfl, h1, h2, hr⟩ | h
  · refine .inl ⟨g, rfl, h1, Nat.lt_of_lt_of_le h2 t.size, t.reads hr fun ad e => ?_⟩
    injection e with e
    subst e
    exact hv g rfl
  · exact .inr (t.row h hv)
theorem wpList_append_seg {P : Program} {w : World} {ops : Array Oper} {rest : List Oper} {o : Oper} {act : Act} {Q : Exit → Act → World → Prop} {t : TypeId} (T : ByteSlice P t 5)
    (hgd : o.guard = none) (s x : Operand) (ho : o.op = .call { callee := .builtin .append, args := #[s, x], argTypes := #[t, t] })
    (B : Nat) (v : Value) (l : List (BitVec 8)) (hs : act.eval s = v) (hown : SegB B v l w)
    (a : Option Addr) (cap : Nat) (m : List (BitVec 8)) (hx : act.eval x = .slice a m.length cap) (hm : Reads w a cap m) (hm0 : 0 < m.length)
    (hlen : l.length + m.length ≤ 140737488355328) (hbase : B ≤ w.heap.size)
    (h : ∀ v' w', SegB B v' (l ++ m) w' → w.grownBy w' v.ownBlock → (v'.ownBlock = v.ownBlock ∨ ∀ k, v'.ownBlock = some k → w.heap.size ≤ k) → wpList P ops Q rest (act.put o.dst v') w') : wpList P ops Q (o :: rest) act w := by
  rcases hown with ⟨g, rfl, h1, h2, hr⟩ | hown
  · obtain ⟨i, hi, hz0, hz1, hz2⟩ := info_parts T.info
    obtain ⟨b, off, rfl, hb⟩ := hm.bytes.resolve_left (fun e => by rw [e] at hm0; simp at hm0)
    refine wpList_append_grows w hgd s x t ho 5 i (.int .u8 0) 1 1 T.slice hi hz0 hz1 hz2 rfl (by decide) (some ⟨g, 0, none⟩) l.length l.length (l.map U8) hs (fun e => by cases e) (by simp) ?_ ⟨b, off, none⟩ m.length cap (m.map U8) hx (by simp) ?_ ?_ (by omega) (by unfold maxLen; omega) (by omega) ?_
    · intro b2 e j u hu
      injection e with e
      subst e
      obtain ⟨b3, o3, e3, hb3⟩ := hr.bytes.resolve_left (fun e => by rw [e] at hu; simp at hu)
      injection e3 with e3
      rw [List.getElem?_map] at hu
      obtain ⟨c, hc, rfl⟩ := Option.map_eq_some_iff.1 hu
      obtain ⟨hj, hc'⟩ := List.getElem?_eq_some_iff.1 hc
      rw [e3, Addr.add_lit, hb3 j hj, byteAt_lt hj, hc']
    · intro j u hu
      rw [List.getElem?_map] at hu
      obtain ⟨c, hc, rfl⟩ := Option.map_eq_some_iff.1 hu
      obtain ⟨hj, hc'⟩ := List.getElem?_eq_some_iff.1 hc
      rw [Addr.add_lit, hb j hj, byteAt_lt hj, hc']
    · intro u hu
      obtain ⟨c, _, rfl⟩ := List.mem_map.1 hu
      rfl
    · intro v' w' r1 r2
      have ho : Owns w' w.heap.size 5 v' (l ++ m) := by unfold Owns; rw [List.length_append, List.map_append]; exact r1
      exact h v' w' (.inr (row_mono ho fun k hk => Nat.le_trans hbase (row_lt ho hk).1)) { r2 with block := fun k hk _ => r2.block k hk (by simp) } (.inr fun k hk => (row_lt ho hk).1)
  · refine wpList_append_bytes_at T hgd s x ho B v l hs hown a cap m hx hm hlen hbase ?_
    intro v' w' r1 r2 r3
    refine h v' w' (.inr r1) r2 ?_
    rcases r3 with e | e
    · exact .inl e
    · exact .inr fun k hk => by rw [e] at hk; injection hk with hk; omega
end Go.Proofs.YtmcdjkfmfhbbnaaDoor
