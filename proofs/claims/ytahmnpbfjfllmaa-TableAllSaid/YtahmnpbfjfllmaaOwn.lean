/- Slices whose elements have K cells each: how they lie in memory; those of the call's own, how they grow. For any program. -/
import Derived.Test.YtahmnpbfjfllmaaM
import Derived.Test.YtahmnpbfjfllmaaQ
namespace Go.Proofs.Ytahmnpbfjfllmaa
open Go Go.RowKit

section
variable {α : Type} {enc : α → List Value} {K : Nat}
theorem flatC_len : ∀ l : List α, (∀ x ∈ l, (enc x).length = K) → (l.flatMap enc).length = l.length * K
  | [], _ => by simp
  | x :: l, h => by
    rw [List.flatMap_cons, List.length_append, h x (by simp), flatC_len l fun y hy => h y (by simp [hy]), List.length_cons, Nat.add_mul]
    omega
theorem flatC_at : ∀ (l : List α) (i j : Nat) (u : Value) (hi : i < l.length), (∀ x ∈ l, (enc x).length = K) → (enc l[i])[j]? = some u → (l.flatMap enc)[i * K + j]? = some u
  | [], i, j, u, h, _, _ => by simp at h
  | x :: l, 0, j, u, _, _, hv => by
    rw [List.getElem_cons_zero] at hv
    rw [List.flatMap_cons, Nat.zero_mul, Nat.zero_add, List.getElem?_append_left (List.getElem?_eq_some_iff.1 hv).1]
    exact hv
  | x :: l, i + 1, j, u, h, hl, hv => by
    have hW := hl x (by simp)
    rw [List.getElem_cons_succ] at hv
    rw [List.flatMap_cons, List.getElem?_append_right (by rw [hW, Nat.add_mul]; omega), hW, show (i + 1) * K + j - K = i * K + j by rw [Nat.add_mul]; omega]
    exact flatC_at l i j u (by simpa using h) (fun y hy => hl y (by simp [hy])) hv
end
/-- A slice of them. -/
structure RowsC {α : Type} (enc : α → List Value) (K : Nat) (w : World) (a : Option Addr) (cap : Nat) (l : List α) : Prop where
  fits : l.length ≤ cap
  room : cap ≤ 9223372036854775807
  rows : l = [] ∨ ∃ b off, a = some ⟨b, off, none⟩ ∧ ∀ i (hi : i < l.length), w.rangeAt b (off + i * K) (enc l[i])
/-- A slice of them of the call's own. -/
structure OwnsC {α : Type} (enc : α → List Value) (K : Nat) (w : World) (B : Nat) (T : TypeId) (v : Value) (l : List α) : Prop where
  row : w.ownsRow B T K v l.length (l.flatMap enc)
  cells : ∀ x ∈ l, (enc x).length = K
section
variable {α : Type} {enc : α → List Value} {K : Nat} {w w' : World} {B : Nat} {T : TypeId} {v v' : Value} {l : List α} {a : Option Addr} {cap : Nat}
theorem RowsC.keeps (h : RowsC enc K w a cap l) (k : Keeps w w') : RowsC enc K w' a cap l := by
  refine ⟨h.fits, h.room, ?_⟩
  rcases h.rows with e | ⟨b, off, e, hb⟩
  · exact .inl e
  · exact .inr ⟨b, off, e, fun i hi j u hu => k _ _ (hb i hi j u hu)⟩
theorem RowsC.below (h : RowsC enc K w a cap l) (k : Below w.heap.size w w') : RowsC enc K w' a cap l := h.keeps (Keeps.below k)
theorem RowsC.touch {F : Nat → Prop} (h : RowsC enc K w a cap l) (t : Touch F w w') (hn : ∀ ad, a = some ad → ¬ F ad.block) : RowsC enc K w' a cap l := by
  refine ⟨h.fits, h.room, ?_⟩
  rcases h.rows with e | ⟨b, off, e, hb⟩
  · exact .inl e
  · exact .inr ⟨b, off, e, fun i hi => rangeAt_touch t (hb i hi) (hn _ e)⟩
theorem rowsC_nil : RowsC enc K w none 0 ([] : List α) := ⟨by simp, by omega, .inl rfl⟩
theorem ownsC_nil (w : World) (B : Nat) (T : TypeId) : OwnsC enc K w B T (.slice none 0 0) [] := ⟨World.ownsRow_nil w B T K, fun x h => by simp at h⟩
theorem OwnsC.touch {F : Nat → Prop} (h : OwnsC enc K w B T v l) (t : Touch F w w') (h1 : ∀ k, v.ownBlock = some k → ¬ F k) : OwnsC enc K w' B T v l := ⟨t.row h.row h1, h.cells⟩
theorem OwnsC.below (h : OwnsC enc K w B T v l) (hb : Below w.heap.size w w') : OwnsC enc K w' B T v l := h.touch (F := fun _ => False) (.of_below hb) fun _ _ e => e
theorem OwnsC.drewN (h : OwnsC enc K w B T v l) (n : Nat) : OwnsC enc K (w.drewN n) B T v l := h.touch (F := fun _ => False) ((Touch.refl _ _).drewN n) fun _ _ e => e
theorem OwnsC.mono {B' : Nat} (h : OwnsC enc K w B T v l) (hB : B' ≤ B) : OwnsC enc K w B' T v l := ⟨row_mono h.row fun _ hk => Nat.le_trans hB (row_lt h.row hk).1, h.cells⟩
theorem OwnsC.form (h : OwnsC enc K w B T v l) : ∃ a cap, v = .slice a l.length cap ∧ RowsC enc K w a cap l ∧ ((l = [] ∧ a = none ∧ cap = 0) ∨ ∃ g, a = some ⟨g, 0, none⟩ ∧ v.ownBlock = some g ∧ B ≤ g ∧ g < w.heap.size ∧ ∀ o, w.frozen? ⟨g, o, none⟩ = false) := by
  rcases h.row.2 with ⟨rfl, h0⟩ | ⟨g, cap, cur, rfl, hB, hg, hn, hc, hs, ht⟩
  · have e : l = [] := List.eq_nil_of_length_eq_zero h0
    subst e
    exact ⟨none, 0, rfl, rowsC_nil, .inl ⟨rfl, rfl, rfl⟩⟩
  · refine ⟨some ⟨g, 0, none⟩, cap, rfl, ⟨hn, by unfold maxLen at hc; omega, .inr ⟨g, 0, rfl, fun i hi j u hu => ?_⟩⟩, .inr ⟨g, rfl, rfl, hB, heap_lt hg, fun o => frozen_of_row w g o cur _ hg⟩⟩
    have := h.row.cells (g := g) rfl (i * K + j) u (flatC_at l i j u hi h.cells hu)
    rw [Addr.add_lit, Nat.zero_add] at this
    rw [Nat.zero_add]
    exact this
theorem OwnsC.snoc {x : α} (h : OwnsC enc K w B T v l) (hl : (enc x).length = K) (h1 : w'.ownsRow B T K v' (l.length + 1) (l.flatMap enc ++ enc x)) : OwnsC enc K w' B T v' (l ++ [x]) := by
  refine ⟨by rw [List.length_append, List.length_singleton, List.flatMap_append, List.flatMap_singleton]; exact h1, fun y hy => ?_⟩
  rcases List.mem_append.1 hy with hy | hy
  · exact h.cells y hy
  · rw [List.mem_singleton] at hy; subst hy; exact hl
theorem ownsC_below {w0 : World} (hb : Below B w0 w) (hB : B ≤ w0.heap.size) (ho : OwnsC enc K w B T v l) (hg : w.grownBy w' v.ownBlock) : Below B w0 w' :=
  hb.trans ((Touch.of_grown (F := fun k => v.ownBlock = some k) hg fun _ hk => hk).below (fun _ hk => (row_lt ho.row hk).1) (Nat.le_trans hB hb.size))
end
/-- 'append(s, x)', x in a block of its own. -/
theorem wpList_append_c {α : Type} {enc : α → List Value} {K : Nat} {P : Program} {w : World} {ops : Array Oper} {rest : List Oper} {o : Oper} {act : Act} {Q : Exit → Act → World → Prop} {t e : TypeId} {z : Value} {bytes : Nat} (ht : P.underlying t = some (.slice e)) (hinfo : (P.info? e).map (fun i => (i.zero, i.size, i.bytes)) = some (some z, K, bytes)) (hz : z.cells.size = K) (hK : 0 < K)
    (hgd : o.guard = none) (s x : Operand) (ho : o.op = .call { callee := .builtin .append, args := #[s, x], argTypes := #[t, t] })
    (B : Nat) (v : Value) (l : List α) (hs : act.eval s = v) (hown : OwnsC enc K w B e v l) (y : α) (ad : Addr) (c : Nat) (hx : act.eval x = .slice (some ad) 1 c)
    (hc : ∀ j u, (enc y)[j]? = some u → w.cell? (ad.add j) = some u) (h1 : ∀ u ∈ enc y, u.oneCell' = true) (hl : (enc y).length = K) (hn : l.length + 1 ≤ 1048576) (hby : bytes ≤ 1048576) (hbase : B ≤ w.heap.size)
    (h : ∀ v' w', OwnsC enc K w' B e v' (l ++ [y]) → w.grownBy w' v.ownBlock → (v'.ownBlock = v.ownBlock ∨ v'.ownBlock = some w.heap.size) → wpList P ops Q rest (act.put o.dst v') w') : wpList P ops Q (o :: rest) act w := by
  obtain ⟨i, hi, hz0, hz1, hz2⟩ := info_parts hinfo
  have hb : (l.length + 1) * bytes ≤ 1048576 * 1048576 := Nat.mul_le_mul hn hby
  refine wpList_append_own_at w hgd s x t ho B e i z K bytes ht hi hz0 hz1 hz2 hz hK v l.length _ hs hown.row ad 1 c (enc y) hx (by rw [hl, Nat.one_mul]) hc h1 (by unfold maxLen; omega) (Nat.le_trans hb (by decide)) hbase ?_
  intro v' w' r1 r2 _ r4
  exact h v' w' (hown.snoc hl r1) r2 r4
/-- The walk stands at an 'append': it waits there. -/
theorem wait_append {P : Program} {ops : Array Oper} {Q : Exit → Act → World → Prop} {rest : List Oper} {d : Option Tmp} {args : Array Operand} {ts : Array TypeId} {ty : TypeId} {pos : String} {after : Array Edge} {g : Option (Nat × Bool)} {a : Act} {w : World}
    (h : True → wpList P ops Q ({ dst := d, op := .call { callee := .builtin .append, args := args, argTypes := ts }, type := ty, pos, after, guard := g } :: rest) a w) : wpList P ops Q ({ dst := d, op := .call { callee := .builtin .append, args := args, argTypes := ts }, type := ty, pos, after, guard := g } :: rest) a w := h trivial
/-- What the literal of one element lays: its cells. -/
theorem fold_setC : ∀ (C : List Value) (k : Nat) (Z : Array Value), Z.size = k + C.length → (C.zipIdx k).foldl (fun cs x => cs.setIfInBounds x.2 x.1) Z = (Z.toList.take k ++ C).toArray
  | [], k, Z, h => by
    rw [List.append_nil, List.take_of_length_le (by rw [Array.length_toList, h]; simp)]
    simp
  | c :: C, k, Z, h => by
    have hk : k < Z.toList.length := by rw [Array.length_toList, h]; simp
    rw [List.zipIdx_cons, List.foldl_cons, fold_setC C (k + 1) _ (by simp [h]; omega)]
    congr 1
    rw [Array.toList_setIfInBounds, List.take_set, List.take_succ_eq_append_getElem hk, List.set_append_right _ _ (by rw [List.length_take]; omega), List.length_take, Nat.min_eq_left (by omega), Nat.sub_self]
    simp
theorem run_one_c {P : Program} (w : World) {t e : TypeId} {z : Value} {W bytes : Nat} (ht : P.underlying t = some (.slice e)) (hinfo : (P.info? e).map (fun i => (i.zero, i.size, i.bytes)) = some (some z, W, bytes)) (_hz : z.cells.size = W)
    (C : List Value) (hC : C.length = W) (h0 : 0 < W) (h1 : W ≤ 1000) :
    (Instr.buildSlice t 1 #[(0, .agg C.toArray)]).run P w = .ok (.slice (some ⟨w.heap.size, 0, none⟩) 1 1) (w.alloc (.cells C.toArray e)) := by
  obtain ⟨i, hi, hz0, hz1, hz2⟩ := info_parts hinfo
  have hne : ¬ W = 0 := by omega
  have h2 : ¬ 16777216 < W := by omega
  have hf : C.zipIdx.foldl (fun cs x => cs.setIfInBounds x.2 x.1) ((Array.range W).map (z.cells[· % z.cells.size]!)) = C.toArray := by
    rw [fold_setC C 0 _ (by simp [hC])]
    simp
  have hcs : (Value.agg C.toArray).cells.size = W := by show C.toArray.size = W; simpa using hC
  have hfo : Array.foldl (fun cs x => cs.setIfInBounds (0 * W + x.snd) x.fst) ((Array.range W).map (z.cells[· % z.cells.size]!)) (Value.agg C.toArray).cells.zipIdx = C.toArray := by
    refine Eq.trans ?_ hf
    show Array.foldl _ _ C.toArray.zipIdx = _
    simp
  have hfill : Instr.fill (fun i => some (i * W, W)) ((Array.range W).map (z.cells[· % z.cells.size]!)) [(0, .agg C.toArray)] = some C.toArray := by
    unfold Instr.fill
    simp only [hcs]
    rw [if_neg (by simp)]
    unfold Instr.fill
    rw [hfo]
  unfold Instr.buildSlice
  simp only [Sem.run_bind, run_underlying ht, Result.andThen_ok, sizeOf, typeInfo, Nat.one_mul, Sem.run_pure, zeroValue]
  simp [hne, h2, hz0, hi, hz1, hfill, newRow]
theorem wpList_lit_c {P : Program} {w : World} {ops : Array Oper} {rest : List Oper} {o : Oper} {a : Act} {Q : Exit → Act → World → Prop} {t e : TypeId} {z : Value} {W bytes : Nat} (ht : P.underlying t = some (.slice e)) (hinfo : (P.info? e).map (fun i => (i.zero, i.size, i.bytes)) = some (some z, W, bytes)) (hz : z.cells.size = W)
    (hgd : o.guard = none) (x : Operand) (ho : o.op = .buildSlice t 1 #[(0, x)]) (C : List Value) (hx : a.eval x = .agg C.toArray) (hC : C.length = W) (h0 : 0 < W) (h1 : W ≤ 1000)
    (h : wpList P ops Q rest (a.put o.dst (.slice (some ⟨w.heap.size, 0, none⟩) 1 1)) (w.alloc (.cells C.toArray e))) : wpList P ops Q (o :: rest) a w := by
  refine wpList_plain hgd fun K hK => ?_
  have hr := run_one_c (P := P) w ht hinfo hz C hC h0 h1
  unfold Oper.wp execOp
  simp only [ho, List.map_toArray, List.map_cons, List.map_nil, hx, Sem.run_bind, hr, Result.andThen_ok, Sem.run_pure]
  exact hK _ _ h
/-- 's = append(s, x)': the literal of one element, and the append behind it. -/
theorem wpList_lit_append {α : Type} {enc : α → List Value} {K : Nat} {P : Program} {w : World} {ops : Array Oper} {rest : List Oper} {o1 o2 : Oper} {a : Act} {Q : Exit → Act → World → Prop} {t e : TypeId} {z : Value} {bytes : Nat} (ht : P.underlying t = some (.slice e)) (hinfo : (P.info? e).map (fun i => (i.zero, i.size, i.bytes)) = some (some z, K, bytes)) (hz : z.cells.size = K) (hK : 0 < K) (hK1 : K ≤ 1000)
    (hg1 : o1.guard = none) (x : Operand) (ho1 : o1.op = .buildSlice t 1 #[(0, x)]) (hg2 : o2.guard = none) (s u : Operand) (ho2 : o2.op = .call { callee := .builtin .append, args := #[s, u], argTypes := #[t, t] })
    (B : Nat) (v : Value) (l : List α) (hown : OwnsC enc K w B e v l) (y : α) (C : List Value) (hC : enc y = C) (hx : a.eval x = .agg C.toArray)
    (hs : (a.put o1.dst (.slice (some ⟨w.heap.size, 0, none⟩) 1 1)).eval s = v) (hu : (a.put o1.dst (.slice (some ⟨w.heap.size, 0, none⟩) 1 1)).eval u = .slice (some ⟨w.heap.size, 0, none⟩) 1 1)
    (h1 : ∀ u ∈ C, u.oneCell' = true) (hl : C.length = K) (hn : l.length + 1 ≤ 1048576) (hby : bytes ≤ 1048576) (hbase : B ≤ w.heap.size)
    (h : ∀ v' w', OwnsC enc K w' B e v' (l ++ [y]) → Touch (fun k => v.ownBlock = some k) w w' → (v'.ownBlock = v.ownBlock ∨ ∃ k, v'.ownBlock = some k ∧ w.heap.size ≤ k) → wpList P ops Q rest ((a.put o1.dst (.slice (some ⟨w.heap.size, 0, none⟩) 1 1)).put o2.dst v') w') : wpList P ops Q (o1 :: o2 :: rest) a w := by
  refine wpList_lit_c ht hinfo hz hg1 x ho1 C hx hl hK hK1 ?_
  have nA := (Below.refl w.heap.size w).alloc (Nat.le_refl _) (.cells C.toArray e)
  have rA := rangeAt_row (heap_alloc_new w (.cells C.toArray e))
  rw [List.toList_toArray] at rA
  refine wpList_append_c ht hinfo hz hK hg2 s u ho2 B v l hs (hown.below nA) y ⟨w.heap.size, 0, none⟩ 1 hu (fun j q hq => ?_) (by rw [hC]; exact h1) (by rw [hC]; exact hl) hn hby (Nat.le_trans hbase nA.size) ?_
  · rw [Addr.add_lit]
    rw [hC] at hq
    exact rA j q hq
  · intro v' w' q1 q2 q3
    refine h v' w' q1 ((Touch.of_below nA).trans (.of_grown q2 fun k e => e)) ?_
    rcases q3 with q3 | q3
    · exact .inl q3
    · exact .inr ⟨_, q3, nA.size⟩
theorem touch_own {B : Nat} {w0 w w' : World} {v : Value} {α : Type} {enc : α → List Value} {K : Nat} {T : TypeId} {l : List α} (hb : Below B w0 w) (hB : B ≤ w0.heap.size) (ho : OwnsC enc K w B T v l) (t : Touch (fun k => v.ownBlock = some k) w w') : Below B w0 w' :=
  hb.trans (t.below (fun _ hk => (row_lt ho.row hk).1) (Nat.le_trans hB hb.size))
/-- A guard: the walk stands at a literal of this type of slices. -/
theorem at_slit (t : TypeId) {P : Program} {ops : Array Oper} {Q : Exit → Act → World → Prop} {rest : List Oper} {d : Option Tmp} {n : Nat} {parts : Array (Nat × Operand)} {ty : TypeId} {pos : String} {after : Array Edge} {g : Option (Nat × Bool)} {a : Act} {w : World}
    (h : wpList P ops Q ({ dst := d, op := .buildSlice t n parts, type := ty, pos, after, guard := g } :: rest) a w) : wpList P ops Q ({ dst := d, op := .buildSlice t n parts, type := ty, pos, after, guard := g } :: rest) a w := h
end Go.Proofs.Ytahmnpbfjfllmaa
