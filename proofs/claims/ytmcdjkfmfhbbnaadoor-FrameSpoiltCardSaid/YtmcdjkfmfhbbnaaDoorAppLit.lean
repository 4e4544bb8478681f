/- 'append' onto a literal of bytes that is full. -/
import Derived.Test.YtmcdjkfmfhbbnaaDoorSeg
namespace Go.Proofs.YtmcdjkfmfhbbnaaDoor
open Go Go.RowKit

theorem wpList_append_lit {P : Program} {w : World} {ops : Array Oper} {rest : List Oper} {o : Oper} {act : Act} {Q : Exit → Act → World → Prop} {t : TypeId} (T : ByteSlice P t 5)
    (hgd : o.guard = none) (s x : Operand) (ho : o.op = .call { callee := .builtin .append, args := #[s, x], argTypes := #[t, t] })
    (g : Nat) (l : List (BitVec 8)) (n0 : Nat) (hn0 : l.length = n0) (hs : act.eval s = .slice (some ⟨g, 0, none⟩) n0 n0) (hg : g < w.heap.size) (hr : Reads w (some ⟨g, 0, none⟩) n0 l)
    (ad : Addr) (n cap : Nat) (m : List (BitVec 8)) (hn : m.length = n) (hx : act.eval x = .slice (some ad) n cap) (hm : Reads w (some ad) cap m)
    (hlen : n0 + n ≤ 140737488355328) (r : List (BitVec 8)) (hlm : l ++ m = r)
    (h : ∀ w' a' c', Reads w' a' c' r → Below w.heap.size w w' → wpList P ops Q rest (act.put o.dst (.slice a' r.length c')) w') : wpList P ops Q (o :: rest) act w := by
  subst hn0 hn hlm
  by_cases hm0 : 0 < m.length
  · obtain ⟨i, hi, hz0, hz1, hz2⟩ := info_parts T.info
    refine wpList_append_grows w hgd s x t ho 5 i (.int .u8 0) 1 1 T.slice hi hz0 hz1 hz2 rfl (by decide) (some ⟨g, 0, none⟩) l.length l.length (l.map U8) hs (fun e => by cases e) (by simp) ?_ ad m.length cap (m.map U8) hx (by simp) ?_ ?_ (by omega) (by unfold maxLen; omega) (by omega) ?_
    · intro b2 e j u hu
      injection e with e
      subst e
      obtain ⟨b3, o3, e3, hb3⟩ := hr.bytes.resolve_left (fun e => by rw [e] at hu; simp at hu)
      injection e3 with e3
      rw [List.getElem?_map] at hu
      obtain ⟨c, hc, rfl⟩ := Option.map_eq_some_iff.1 hu
      obtain ⟨hj, hc'⟩ := List.getElem?_eq_some_iff.1 hc
      rw [e3, Addr.add_lit, hb3 j hj, byteAt_lt hj, hc']
    · intro j u hu
      obtain ⟨b3, o3, e3, hb3⟩ := hm.bytes.resolve_left (fun e => by rw [e] at hu; simp at hu)
      injection e3 with e3
      rw [List.getElem?_map] at hu
      obtain ⟨c, hc, rfl⟩ := Option.map_eq_some_iff.1 hu
      obtain ⟨hj, hc'⟩ := List.getElem?_eq_some_iff.1 hc
      rw [e3, Addr.add_lit, hb3 j hj, byteAt_lt hj, hc']
    · intro u hu
      obtain ⟨c, _, rfl⟩ := List.mem_map.1 hu
      rfl
    · intro v' w' r1 r2
      have ho : Owns w' w.heap.size 5 v' (l ++ m) := by unfold Owns; rw [List.length_append, List.map_append]; exact r1
      obtain ⟨a', c', rfl, hr'⟩ := ho.reads
      exact h w' a' c' hr' ((Touch.of_grown (F := fun _ => False) r2 fun k hk => by cases hk).below (fun _ e => e.elim) (Nat.le_refl _))
  · have e0 : m = [] := List.eq_nil_of_length_eq_zero (by omega)
    subst e0
    obtain ⟨i, hi, hz0, hz1, hz2⟩ := info_parts T.info
    refine wpList_append_arg w hgd s x t ho 5 i (.int .u8 0) 1 1 T.slice hi hz0 hz1 hz2 rfl (by decide) g 0 l.length l.length (l.map U8) hs (by simp) ?_ ad 0 cap [] hx rfl (fun j u hu => by simp at hu) (fun u hu => by simp at hu) (fun _ j hj => by simp at hj) (by unfold maxLen; simp at hlen; omega) (by simp at hlen; omega) ?_ (fun hh => absurd hh (by omega))
    · intro j u hu
      obtain ⟨b3, o3, e3, hb3⟩ := hr.bytes.resolve_left (fun e => by rw [e] at hu; simp at hu)
      injection e3 with e3
      injection e3 with e4 e5
      subst e4 e5
      rw [List.getElem?_map] at hu
      obtain ⟨c, hc, rfl⟩ := Option.map_eq_some_iff.1 hu
      obtain ⟨hj, hc'⟩ := List.getElem?_eq_some_iff.1 hc
      rw [hb3 j hj, byteAt_lt hj, hc']
    · intro _
      have q := h w (some ⟨g, 0, none⟩) l.length (by rw [List.append_nil]; exact hr) (Below.refl _ _)
      rw [List.append_nil] at q
      exact q
end Go.Proofs.YtmcdjkfmfhbbnaaDoor
