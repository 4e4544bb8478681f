/- Slices whose elements have K cells each: parts of them, and appends of whole parts. For any program. -/
import Derived.Test.YtahmnpbfjfllmaaOwn
namespace Go.Proofs.Ytahmnpbfjfllmaa
open Go Go.RowKit

def dropC (a : Option Addr) (cap n K : Nat) : Option Addr := if cap = n then a else a.map (·.add (n * K))
section
variable {P : Program} {t e : TypeId} {z : Value} {K bytes : Nat} (ht : P.underlying t = some (.slice e)) (hinfo : (P.info? e).map (fun i => (i.zero, i.size, i.bytes)) = some (some z, K, bytes)) (w : World) (a : Option Addr) (len cap : Nat)
include ht hinfo
theorem run_from_c (k : IntKind) (n : Nat) (N : Int) (hN : N = n) (hn : n ≤ len) : (Instr.slice t (.slice a len cap) (some (.int k N)) none none).run P w = .ok (.slice (dropC a cap n K) (len - n) (cap - n)) w := by
  obtain ⟨i, hi, _, hz1, _⟩ := info_parts hinfo
  subst hN
  have hn' : (n : Int) ≤ (len : Int) := by omega
  simp [Instr.slice, run_underlying ht, Instr.sliceBounds, Instr.sliceBound, asIntOf, hn, sizeOf, typeInfo, hi, hz1, dropC]
theorem run_to_c (k : IntKind) (n : Nat) (N : Int) (hN : N = n) (hn : n ≤ cap) : (Instr.slice t (.slice a len cap) none (some (.int k N)) none).run P w = .ok (.slice a n cap) w := by
  obtain ⟨i, hi, _, _, _⟩ := info_parts hinfo
  subst hN
  simp [Instr.slice, run_underlying ht, Instr.sliceBounds, Instr.sliceBound, asIntOf, hn, sizeOf, typeInfo, hi, map_add_zero]
end
/-- A slice as a quiet operation of a drawn region. -/
theorem quiet_slice_c {P : Program} {C : World → Prop} {o : Oper} {a : Act} {K : Act → Prop} (ty : TypeId) (x : Operand) (lo hi mx : Option Operand) (ho : o.op = .slice ty x lo hi mx) (v : Value)
    (hr : ∀ w', (Instr.sliceAt ty (a.eval x) (lo.map a.eval) (hi.map a.eval) (mx.map a.eval)).run P w' = .ok v w') (hk : K (a.put o.dst v)) : o.quiet P a C K := by
  refine ⟨v, ?_, hk⟩
  intro w' hw'
  unfold Oper.quietAt execOp
  simp only [ho, Sem.run_bind, hr, Sem.run_pure, Result.andThen_ok]
  exact ⟨rfl, rfl⟩
theorem sliceAt_c {P : Program} {W : World} {t e : TypeId} {x : Value} {lo hi mx : Option Value} (ht : P.underlying t = some (.slice e)) : (Instr.sliceAt t x lo hi mx).run P W = (Instr.slice t x lo hi mx).run P W := by
  unfold Instr.sliceAt
  simp only [Sem.run_bind, run_underlying ht, Result.andThen_ok]
section
variable {α : Type} {enc : α → List Value} {K : Nat}
theorem flatC_inv : ∀ (l : List α) (j : Nat) (u : Value), (∀ x ∈ l, (enc x).length = K) → 0 < K → (l.flatMap enc)[j]? = some u → ∃ i r, ∃ h : i < l.length, j = i * K + r ∧ (enc l[i])[r]? = some u
  | [], j, u, _, _, h => by simp at h
  | x :: l, j, u, hl, hK, h => by
    have hW := hl x (by simp)
    rw [List.flatMap_cons] at h
    rcases Nat.lt_or_ge j K with e | e
    · rw [List.getElem?_append_left (by omega)] at h
      exact ⟨0, j, by simp, by omega, h⟩
    · rw [List.getElem?_append_right (by omega), hW] at h
      obtain ⟨i, r, h1, h2, h3⟩ := flatC_inv l (j - K) u (fun y hy => hl y (by simp [hy])) hK h
      exact ⟨i + 1, r, by simpa using h1, by rw [Nat.add_mul]; omega, h3⟩
variable {w w' : World} {a : Option Addr} {cap : Nat} {l : List α}
theorem RowsC.take (h : RowsC enc K w a cap l) (n : Nat) : RowsC enc K w a cap (l.take n) := by
  refine ⟨by rw [List.length_take]; have := h.fits; omega, h.room, ?_⟩
  rcases h.rows with e | ⟨b, off, e, hb⟩
  · left; rw [e]; simp
  · refine .inr ⟨b, off, e, fun i hi => ?_⟩
    rw [List.getElem_take]
    rw [List.length_take] at hi
    exact hb i (by omega)
theorem RowsC.drop (h : RowsC enc K w a cap l) (n : Nat) (hn : n ≤ l.length) : RowsC enc K w (dropC a cap n K) (cap - n) (l.drop n) := by
  refine ⟨by rw [List.length_drop]; have := h.fits; omega, by have := h.room; omega, ?_⟩
  by_cases e0 : l.drop n = []
  · exact .inl e0
  · rcases h.rows with e | ⟨b, off, e, hb⟩
    · left; rw [e]; simp
    · have hlt : n < l.length := by
        rcases Nat.lt_or_ge n l.length with h | h
        · exact h
        · exact (e0 (List.drop_of_length_le h)).elim
      have hfit := h.fits
      refine .inr ⟨b, off + n * K, ?_, fun i hi => ?_⟩
      · unfold dropC
        rw [if_neg (by omega), e]
        show some ((⟨b, off, none⟩ : Addr).add (n * K)) = _
        rw [Addr.add_lit]
      · rw [List.getElem_drop]
        rw [List.length_drop] at hi
        have := hb (n + i) (by omega)
        rw [show off + n * K + i * K = off + (n + i) * K by rw [Nat.add_mul]; omega]
        exact this
/-- 'append(s, x...)', x rows of these. -/
theorem wpList_append_cs {P : Program} {ops : Array Oper} {rest : List Oper} {o : Oper} {act : Act} {Q : Exit → Act → World → Prop} {t e : TypeId} {z : Value} {bytes : Nat} (ht : P.underlying t = some (.slice e)) (hinfo : (P.info? e).map (fun i => (i.zero, i.size, i.bytes)) = some (some z, K, bytes)) (hz : z.cells.size = K) (hK : 0 < K)
    (hgd : o.guard = none) (s x : Operand) (ho : o.op = .call { callee := .builtin .append, args := #[s, x], argTypes := #[t, t] })
    (B : Nat) (v : Value) (hs : act.eval s = v) (hown : OwnsC enc K w B e v l) (m : List α) (n c : Nat) (hm : m.length = n) (ad : Addr) (hx : act.eval x = .slice (some ad) n c) (hr : RowsC enc K w (some ad) c m) (hl : ∀ y ∈ m, (enc y).length = K)
    (h1 : ∀ y ∈ m, ∀ u ∈ enc y, u.oneCell' = true) (hn : l.length + n ≤ 1048576) (hby : bytes ≤ 1048576) (hbase : B ≤ w.heap.size)
    (h : ∀ v' w', OwnsC enc K w' B e v' (l ++ m) → Touch (fun k => v.ownBlock = some k) w w' → (v'.ownBlock = v.ownBlock ∨ v'.ownBlock = some w.heap.size) → wpList P ops Q rest (act.put o.dst v') w') : wpList P ops Q (o :: rest) act w := by
  subst hm
  obtain ⟨i, hi, hz0, hz1, hz2⟩ := info_parts hinfo
  have hb : (l.length + m.length) * bytes ≤ 1048576 * 1048576 := Nat.mul_le_mul hn hby
  refine wpList_append_own_at w hgd s x t ho B e i z K bytes ht hi hz0 hz1 hz2 hz hK v l.length _ hs hown.row ad m.length c (m.flatMap enc) hx (flatC_len m hl) (fun j u hj => ?_) (fun u hu => ?_) (by unfold maxLen; omega) (Nat.le_trans hb (by decide)) hbase ?_
  · obtain ⟨i, r, hi, e, hu⟩ := flatC_inv m j u hl hK hj
    rcases hr.rows with e2 | ⟨b, off, e2, hrow⟩
    · rw [e2] at hi; simp at hi
    · injection e2 with e2
      subst e2
      rw [Addr.add_lit, e, ← Nat.add_assoc]
      exact hrow i hi r u hu
  · obtain ⟨y, hy, hu⟩ := List.mem_flatMap.1 hu
    exact h1 y hy u hu
  · intro v' w' r1 r2 _ r4
    refine h v' w' ⟨by rw [List.length_append, List.flatMap_append]; exact r1, fun y hy => ?_⟩ (.of_grown r2 fun k e => e) r4
    rcases List.mem_append.1 hy with hy | hy
    · exact hown.cells y hy
    · exact hl y hy
end
end Go.Proofs.Ytahmnpbfjfllmaa
