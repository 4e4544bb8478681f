/- Rows of entries, of what was found: how they lie in memory, how they grow. -/
import Derived.Test.YtmcdjkfmfhbbnaaDoorEnt
namespace Go.Proofs.YtmcdjkfmfhbbnaaDoor
open Go Go.RowKit

/-- An entry with the place of its data, and what stands beside it. -/
structure Item where
  ent : Ent
  a : Option Addr
  cap : Nat
  x : List Value
instance : Inhabited Item := ⟨⟨zeroEnt, none, 0, []⟩⟩
def Item.dv (it : Item) : Value := .slice it.a it.ent.data.length it.cap
def Item.cells (it : Item) : List Value := entC it.ent it.dv ++ it.x
def itAt (its : List Item) (i : Nat) : Item := its.getD i default
theorem itAt_lt {its : List Item} {i : Nat} (h : i < its.length) : itAt its i = its[i] := by simp [itAt, List.getD_eq_getElem?_getD, List.getElem?_eq_getElem h]
theorem flat_at (W : Nat) : ∀ (its : List Item) (i j : Nat) (v : Value), (∀ it ∈ its, it.cells.length = W) → i < its.length → (itAt its i).cells[j]? = some v → (its.flatMap Item.cells)[i * W + j]? = some v
  | [], i, j, v, _, h, _ => by simp at h
  | it :: its, i, j, v, hl, h, hv => by
    have hW := hl it (by simp)
    rw [List.flatMap_cons]
    cases i with
    | zero =>
      have e : itAt (it :: its) 0 = it := rfl
      rw [e] at hv
      rw [Nat.zero_mul, Nat.zero_add, List.getElem?_append_left (List.getElem?_eq_some_iff.1 hv).1]
      exact hv
    | succ i =>
      have e : itAt (it :: its) (i + 1) = itAt its i := rfl
      rw [e] at hv
      rw [List.getElem?_append_right (by rw [hW, Nat.add_mul]; omega), hW, show (i + 1) * W + j - W = i * W + j by rw [Nat.add_mul]; omega]
      exact flat_at W its i j v (fun x hx => hl x (by simp [hx])) (by simpa using h) hv
theorem flat_length (W : Nat) : ∀ (its : List Item), (∀ it ∈ its, it.cells.length = W) → (its.flatMap Item.cells).length = its.length * W
  | [], _ => by simp
  | it :: its, h => by
    rw [List.flatMap_cons, List.length_append, h it (by simp), flat_length W its fun x hx => h x (by simp [hx]), List.length_cons, Nat.add_mul]
    omega
/-- One of them, where it stands. -/
structure ItAt (w : World) (b o : Nat) (it : Item) : Prop where
  cells : w.rangeAt b o it.cells
  key : it.ent.key.length = 32
  data : Reads w it.a it.cap it.ent.data
section
variable {w w' : World} {b o : Nat} {it : Item}
theorem ItAt.keeps (h : ItAt w b o it) (k : Keeps w w') : ItAt w' b o it := ⟨fun j v hv => k _ _ (h.cells j v hv), h.key, h.data.keeps k⟩
theorem ItAt.ent (h : ItAt w b o it) : EntAt w b o it.ent it.dv := ⟨fun j v hv => h.cells j v (by
  unfold Item.cells
  rw [List.getElem?_append_left (List.getElem?_eq_some_iff.1 hv).1]; exact hv), h.key⟩
theorem ItAt.range (h : ItAt w b o it) : w.rangeAt b o (entC it.ent it.dv) := h.ent.cells
end
/-- A slice of them. -/
structure Its (W : Nat) (w : World) (a : Option Addr) (cap : Nat) (its : List Item) : Prop where
  fits : its.length ≤ cap
  room : cap ≤ 9223372036854775807
  rows : its = [] ∨ ∃ b off, a = some ⟨b, off, none⟩ ∧ ∀ i, i < its.length → ItAt w b (off + i * W) (itAt its i)
theorem Its.keeps {W : Nat} {w w' : World} {a : Option Addr} {cap : Nat} {its : List Item} (h : Its W w a cap its) (k : Keeps w w') : Its W w' a cap its := by
  refine ⟨h.fits, h.room, ?_⟩
  rcases h.rows with e | ⟨b, off, e, hb⟩
  · exact .inl e
  · exact .inr ⟨b, off, e, fun i hi => (hb i hi).keeps k⟩
/-- A slice of them of the call's own. -/
structure OwnsIts (w : World) (B : Nat) (T : TypeId) (W : Nat) (v : Value) (its : List Item) : Prop where
  row : w.ownsRow B T W v its.length (its.flatMap Item.cells)
  cells : ∀ it ∈ its, it.cells.length = W
  key : ∀ it ∈ its, it.ent.key.length = 32
  data : ∀ it ∈ its, Reads w it.a it.cap it.ent.data
  apart : ∀ it ∈ its, ∀ ad, it.a = some ad → v.ownBlock ≠ some ad.block ∧ ad.block < w.heap.size
section
variable {w w' : World} {B : Nat} {T : TypeId} {W : Nat} {v v' : Value} {its : List Item}
theorem ownsIts_nil (w : World) (B : Nat) (T : TypeId) (W : Nat) : OwnsIts w B T W (.slice none 0 0) [] :=
  ⟨World.ownsRow_nil w B T W, fun it h => by simp at h, fun it h => by simp at h, fun it h => by simp at h, fun it h => by simp at h⟩
theorem OwnsIts.touch {F : Nat → Prop} (h : OwnsIts w B T W v its) (t : Touch F w w') (h1 : ∀ k, v.ownBlock = some k → ¬ F k) (h2 : ∀ it ∈ its, ∀ ad, it.a = some ad → ¬ F ad.block) : OwnsIts w' B T W v its :=
  ⟨t.row h.row h1, h.cells, h.key, fun it hi => t.reads (h.data it hi) (h2 it hi), fun it hi ad e => ⟨(h.apart it hi ad e).1, Nat.lt_of_lt_of_le (h.apart it hi ad e).2 t.size⟩⟩
theorem OwnsIts.below (h : OwnsIts w B T W v its) (hb : Below w.heap.size w w') : OwnsIts w' B T W v its := h.touch (F := fun _ => False) (.of_below hb) (fun _ _ e => e) (fun _ _ _ _ e => e)
theorem OwnsIts.drewN (h : OwnsIts w B T W v its) (n : Nat) : OwnsIts (w.drewN n) B T W v its := h.touch (F := fun _ => False) ((Touch.refl _ _).drewN n) (fun _ _ e => e) (fun _ _ _ _ e => e)
theorem OwnsIts.mono {B' : Nat} (h : OwnsIts w B T W v its) (hB : B' ≤ B) : OwnsIts w B' T W v its :=
  ⟨row_mono h.row fun k hk => Nat.le_trans hB (row_lt h.row hk).1, h.cells, h.key, h.data, h.apart⟩
theorem OwnsIts.form (h : OwnsIts w B T W v its) : ∃ a cap, v = .slice a its.length cap ∧ Its W w a cap its ∧ (its = [] ∨ ∃ g, a = some ⟨g, 0, none⟩ ∧ v.ownBlock = some g ∧ B ≤ g ∧ g < w.heap.size) := by
  rcases h.row.2 with ⟨rfl, h0⟩ | ⟨g, cap, cur, rfl, hB, hg, hn, hc, hs, ht⟩
  · have e : its = [] := List.eq_nil_of_length_eq_zero h0
    subst e
    exact ⟨none, 0, rfl, ⟨by simp, by omega, .inl rfl⟩, .inl rfl⟩
  · refine ⟨some ⟨g, 0, none⟩, cap, rfl, ⟨hn, by unfold maxLen at hc; omega, .inr ⟨g, 0, rfl, fun i hi => ?_⟩⟩, .inr ⟨g, rfl, rfl, hB, heap_lt hg⟩⟩
    have hm : itAt its i ∈ its := by rw [itAt_lt hi]; exact List.getElem_mem hi
    refine ⟨fun j u hu => ?_, h.key _ hm, h.data _ hm⟩
    have := h.row.cells (g := g) rfl (i * W + j) u (flat_at W its i j u h.cells hi hu)
    rw [Addr.add_lit] at this
    rw [Nat.zero_add] at this ⊢
    exact this
/-- One more. -/
theorem OwnsIts.snoc {it : Item} (h : OwnsIts w B T W v its) (hl : it.cells.length = W) (hk : it.ent.key.length = 32) (hd : Reads w it.a it.cap it.ent.data) (ha : ∀ ad, it.a = some ad → v.ownBlock ≠ some ad.block ∧ ad.block < w.heap.size)
    (h1 : w'.ownsRow B T W v' (its.length + 1) (its.flatMap Item.cells ++ it.cells)) (hg : w.grownBy w' v.ownBlock) (hb : v'.ownBlock = v.ownBlock ∨ v'.ownBlock = some w.heap.size) : OwnsIts w' B T W v' (its ++ [it]) := by
  have t : Touch (fun k => v.ownBlock = some k) w w' := .of_grown hg fun k hk => hk
  have hap : ∀ x ∈ its ++ [it], ∀ ad, x.a = some ad → v.ownBlock ≠ some ad.block ∧ ad.block < w.heap.size := fun x hx ad e => by
    rcases List.mem_append.1 hx with hx | hx
    · exact h.apart x hx ad e
    · rw [List.mem_singleton] at hx; subst hx; exact ha ad e
  refine ⟨by rw [List.length_append, List.length_singleton, List.flatMap_append, List.flatMap_singleton]; exact h1, ?_, ?_, ?_, ?_⟩
  · intro x hx
    rcases List.mem_append.1 hx with hx | hx
    · exact h.cells x hx
    · rw [List.mem_singleton] at hx; subst hx; exact hl
  · intro x hx
    rcases List.mem_append.1 hx with hx | hx
    · exact h.key x hx
    · rw [List.mem_singleton] at hx; subst hx; exact hk
  · intro x hx
    refine t.reads ?_ fun ad e f => (hap x hx ad e).1 f
    rcases List.mem_append.1 hx with hx | hx
    · exact h.data x hx
    · rw [List.mem_singleton] at hx; subst hx; exact hd
  · intro x hx ad e
    have q := hap x hx ad e
    refine ⟨fun f => ?_, Nat.lt_of_lt_of_le q.2 hg.size⟩
    rcases hb with e2 | e2
    · exact q.1 (e2 ▸ f)
    · rw [e2] at f; injection f with f; omega
end
/-- 'append(s, x)', x an item in a block of its own. -/
theorem wpList_append_item {P : Program} {w : World} {ops : Array Oper} {rest : List Oper} {o : Oper} {a : Act} {Q : Exit → Act → World → Prop} {t e : TypeId} {z : Value} {W bytes : Nat} (ht : P.underlying t = some (.slice e)) (hinfo : (P.info? e).map (fun i => (i.zero, i.size, i.bytes)) = some (some z, W, bytes)) (hz : z.cells.size = W) (hW : 0 < W)
    (hgd : o.guard = none) (s x : Operand) (ho : o.op = .call { callee := .builtin .append, args := #[s, x], argTypes := #[t, t] })
    (B : Nat) (v : Value) (its : List Item) (hs : a.eval s = v) (hown : OwnsIts w B e W v its) (it : Item) (ad : Addr) (c : Nat) (hx : a.eval x = .slice (some ad) 1 c)
    (hc : ∀ j u, it.cells[j]? = some u → w.cell? (ad.add j) = some u) (h1 : ∀ u ∈ it.cells, u.oneCell' = true) (hl : it.cells.length = W) (hk : it.ent.key.length = 32) (hd : Reads w it.a it.cap it.ent.data)
    (ha : ∀ p, it.a = some p → v.ownBlock ≠ some p.block ∧ p.block < w.heap.size) (hn : its.length + 1 ≤ 1048576) (hby : (its.length + 1) * bytes ≤ 140737488355328) (hbase : B ≤ w.heap.size)
    (h : ∀ v' w', OwnsIts w' B e W v' (its ++ [it]) → w.grownBy w' v.ownBlock → (v'.ownBlock = v.ownBlock ∨ v'.ownBlock = some w.heap.size) → wpList P ops Q rest (a.put o.dst v') w') : wpList P ops Q (o :: rest) a w := by
  obtain ⟨i, hi, hz0, hz1, hz2⟩ := info_parts hinfo
  refine wpList_append_own_at w hgd s x t ho B e i z W bytes ht hi hz0 hz1 hz2 hz hW v its.length _ hs hown.row ad 1 c it.cells hx (by rw [hl, Nat.one_mul]) hc h1 (by unfold maxLen; omega) hby hbase ?_
  intro v' w' r1 r2 _ r4
  exact h v' w' (hown.snoc hl hk hd ha r1 r2 r4) r2 r4
theorem its_below {B : Nat} {T : TypeId} {W : Nat} {w0 w w' : World} {v : Value} {its : List Item} (hb : Below B w0 w) (hB : B ≤ w0.heap.size) (ho : OwnsIts w B T W v its) (hg : w.grownBy w' v.ownBlock) : Below B w0 w' :=
  hb.trans ((Touch.of_grown (F := fun k => v.ownBlock = some k) hg fun k hk => hk).below (fun k hk => (row_lt ho.row hk).1) (Nat.le_trans hB hb.size))
/-- What the literal of one element lays: its cells. -/
theorem fold_set : ∀ (C : List Value) (k : Nat) (Z : Array Value), Z.size = k + C.length → (C.zipIdx k).foldl (fun cs x => cs.setIfInBounds x.2 x.1) Z = (Z.toList.take k ++ C).toArray
  | [], k, Z, h => by
    rw [List.append_nil, List.take_of_length_le (by rw [Array.length_toList, h]; simp)]
    simp
  | c :: C, k, Z, h => by
    have hk : k < Z.toList.length := by rw [Array.length_toList, h]; simp
    rw [List.zipIdx_cons, List.foldl_cons, fold_set C (k + 1) _ (by simp [h]; omega)]
    congr 1
    rw [Array.toList_setIfInBounds, List.take_set, List.take_succ_eq_append_getElem hk, List.set_append_right _ _ (by rw [List.length_take]; omega), List.length_take, Nat.min_eq_left (by omega), Nat.sub_self]
    simp
theorem fold_zip (C : List Value) (Z : Array Value) (h : Z.size = C.length) : C.zipIdx.foldl (fun cs x => cs.setIfInBounds x.2 x.1) Z = C.toArray := by
  rw [fold_set C 0 Z (by omega)]
  simp
theorem run_one_item {P : Program} (w : World) {t e : TypeId} {z : Value} {W bytes : Nat} (ht : P.underlying t = some (.slice e)) (hinfo : (P.info? e).map (fun i => (i.zero, i.size, i.bytes)) = some (some z, W, bytes)) (hz : z.cells.size = W)
    (C : List Value) (hC : C.length = W) (h0 : 0 < W) (h1 : W ≤ 1000) :
    (Instr.buildSlice t 1 #[(0, .agg C.toArray)]).run P w = .ok (.slice (some ⟨w.heap.size, 0, none⟩) 1 1) (w.alloc (.cells C.toArray e)) := by
  obtain ⟨i, hi, hz0, hz1, hz2⟩ := info_parts hinfo
  have hne : ¬ W = 0 := by omega
  have h2 : ¬ 16777216 < W := by omega
  have hf := fold_zip C ((Array.range W).map (z.cells[· % z.cells.size]!)) (by simp [hC])
  have hcs : (Value.agg C.toArray).cells.size = W := by show C.toArray.size = W; simpa using hC
  have hfo : Array.foldl (fun cs x => cs.setIfInBounds (0 * W + x.snd) x.fst) ((Array.range W).map (z.cells[· % z.cells.size]!)) (Value.agg C.toArray).cells.zipIdx = C.toArray := by
    refine Eq.trans ?_ hf
    show Array.foldl _ _ C.toArray.zipIdx = _
    simp
  have hfill : Instr.fill (fun i => some (i * W, W)) ((Array.range W).map (z.cells[· % z.cells.size]!)) [(0, .agg C.toArray)] = some C.toArray := by
    unfold Instr.fill
    simp only [hcs]
    rw [if_neg (by simp)]
    unfold Instr.fill
    rw [hfo]
  unfold Instr.buildSlice
  simp only [Sem.run_bind, run_underlying ht, Result.andThen_ok, sizeOf, typeInfo, hi, hz1, Nat.one_mul, Sem.run_pure, zeroValue, hz0, hfill]
  simp [hne, h2, hz0, hi, hz1, hfill, newRow]
theorem wpList_item_lit {P : Program} {w : World} {ops : Array Oper} {rest : List Oper} {o : Oper} {a : Act} {Q : Exit → Act → World → Prop} {t e : TypeId} {z : Value} {W bytes : Nat} (ht : P.underlying t = some (.slice e)) (hinfo : (P.info? e).map (fun i => (i.zero, i.size, i.bytes)) = some (some z, W, bytes)) (hz : z.cells.size = W)
    (hgd : o.guard = none) (x : Operand) (ho : o.op = .buildSlice t 1 #[(0, x)]) (C : List Value) (hx : a.eval x = .agg C.toArray) (hC : C.length = W) (h0 : 0 < W) (h1 : W ≤ 1000)
    (h : wpList P ops Q rest (a.put o.dst (.slice (some ⟨w.heap.size, 0, none⟩) 1 1)) (w.alloc (.cells C.toArray e))) : wpList P ops Q (o :: rest) a w := by
  refine wpList_plain hgd fun K hK => ?_
  have hr := run_one_item (P := P) w ht hinfo hz C hC h0 h1
  unfold Oper.wp execOp
  simp only [ho, List.map_toArray, List.map_cons, List.map_nil, hx, Sem.run_bind, hr, Result.andThen_ok, Sem.run_pure]
  exact hK _ _ h
/-- A guard: the walk stands at a literal of this type of slices. -/
theorem at_lit (t : TypeId) {P : Program} {ops : Array Oper} {Q : Exit → Act → World → Prop} {rest : List Oper} {d : Option Tmp} {n : Nat} {parts : Array (Nat × Operand)} {ty : TypeId} {pos : String} {after : Array Edge} {g : Option (Nat × Bool)} {a : Act} {w : World}
    (h : wpList P ops Q ({ dst := d, op := .buildSlice t n parts, type := ty, pos, after, guard := g } :: rest) a w) : wpList P ops Q ({ dst := d, op := .buildSlice t n parts, type := ty, pos, after, guard := g } :: rest) a w := h
/-- A variable of several cells, and what was put into it. -/
theorem made_row (w : World) (t : TypeId) (Z C : Array Value) : ((w.alloc (.cells Z t)).setRow w.heap.size C).heap[w.heap.size]? = some (.cells C t (0, 0)) ∧ Below w.heap.size w ((w.alloc (.cells Z t)).setRow w.heap.size C) := by
  have h1 : (w.alloc (.cells Z t)).heap[w.heap.size]? = some (.cells Z t (0, 0)) := heap_alloc_new w _
  have t1 : Touch (fun x => x = w.heap.size) (w.alloc (.cells Z t)) ((w.alloc (.cells Z t)).setRow w.heap.size C) := Touch.setRow _ _ _ rfl
  exact ⟨setRow_heap _ _ _ _ t _ h1, ((Below.refl _ _).alloc (Nat.le_refl _) _).trans (t1.below (fun x e => by have e2 : x = w.heap.size := e; omega) (by simp))⟩
end Go.Proofs.YtmcdjkfmfhbbnaaDoor
