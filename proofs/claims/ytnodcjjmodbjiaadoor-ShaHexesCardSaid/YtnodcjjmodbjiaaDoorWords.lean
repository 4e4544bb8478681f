/- Rows of words of the call's own: append of one, old cells kept. -/
import Derived.Test.YtnodcjjmodbjiaaDoorRefBytes
namespace Go.Proofs.YtnodcjjmodbjiaaDoor
open Go Go.RowKit

/-- 'append(s, x)' of one element of one cell: what stood in s's row stands there still. -/
theorem run_append_keep {P : Program} (w : World) (B : Nat) (t ty e : TypeId) (z : Value) (bytes : Nat) (T : Elem P t e z bytes) (g n cap : Nat) (xs : List Value) (hown : w.ownsRow B e 1 (.slice (some ⟨g, 0, none⟩) n cap) n xs)
    (ad : Addr) (c : Nat) (u : Value) (hu : w.cell? ad = some u) (h1 : u.oneCell' = true) (hlen : n + 1 ≤ 9223372036854775807) (hby : (n + 1) * bytes ≤ 140737488355328) (hbase : B ≤ w.heap.size) :
    ∃ v' w', (Builtin.append_ #[t, t] ty #[.slice (some ⟨g, 0, none⟩) n cap, .slice (some ad) 1 c]).run P w = .ok v' w' ∧ w'.ownsRow B e 1 v' (n + 1) (xs ++ [u]) ∧ w.grownBy w' (some g) ∧
      (v'.ownBlock = some g ∨ v'.ownBlock = some w.heap.size) ∧ ∀ j, j < n → w'.cell? ⟨g, j, none⟩ = w.cell? ⟨g, j, none⟩ := by
  obtain ⟨i, hi, hz0, hz1, hz2⟩ := info_parts T.info
  have hnews : ∀ j x, [u][j]? = some x → w.cell? (ad.add j) = some x := fun j x hj => by
    cases j with
    | zero => simp at hj; subst hj; rw [add_zero']; exact hu
    | succ j => simp at hj
  have hone : ∀ x ∈ [u], x.oneCell' = true := fun x hx => by simp at hx; subst hx; exact h1
  by_cases hroom : n + 1 ≤ cap
  · obtain ⟨w', hr, ho, hg⟩ := run_append_fits (P := P) w B t ty e i 1 T.slice hi hz1 g n cap xs hown ad 1 c [u] (by simp) hnews hone hroom
    refine ⟨_, w', hr, ho, hg, .inl rfl, fun j hj => ?_⟩
    rw [ho.cellAt j (by omega), hown.cellAt j (by omega), List.getElem?_append_left (by rw [hown.1]; omega)]
  · obtain ⟨v', w', hr, ho, hg, _, hb⟩ := run_append_own_at (P := P) w B t ty e i z 1 bytes T.slice hi hz0 hz1 hz2 T.one (by decide) _ n xs hown ad 1 c [u] (by simp) hnews hone (by unfold maxLen; omega) hby hbase
    refine ⟨v', w', hr, ho, hg, hb, fun j hj => ?_⟩
    have hcap : cap ≤ n := by omega
    have hlt : g < w.heap.size := (hown.lt g rfl).2
    have hold : ∀ j x, xs[j]? = some x → w.cell? ((⟨g, 0, none⟩ : Addr).add j) = some x := hown.cells (g := g) rfl
    have hr2 := run_append_grow (P := P) w t ty e i z T.slice hi hz0 ⟨g, 0, none⟩ n cap xs (by rw [hz1]; exact hown.1) hold ad 1 c [u] (by rw [hz1]; rfl) hnews (by omega) (by omega) (growslice_fits (by omega) (by rw [hz2]; exact hby))
    rw [hr] at hr2
    injection hr2 with _ hw
    rw [hw, World.cell?_of_block (w := w)]
    exact Below.heap_alloc w.drew _ g hlt
theorem wpList_append_keep {P : Program} {w : World} {ops : Array Oper} {rest : List Oper} {o : Oper} {act : Act} {Q : Exit → Act → World → Prop} {t e : TypeId} {z : Value} {bytes : Nat} (T : Elem P t e z bytes)
    (hgd : o.guard = none) (s x : Operand) (ho : o.op = .call { callee := .builtin .append, args := #[s, x], argTypes := #[t, t] })
    (B g n cap : Nat) (xs : List Value) (hs : act.eval s = .slice (some ⟨g, 0, none⟩) n cap) (hown : w.ownsRow B e 1 (.slice (some ⟨g, 0, none⟩) n cap) n xs)
    (ad : Addr) (c : Nat) (u : Value) (hx : act.eval x = .slice (some ad) 1 c) (hu : w.cell? ad = some u) (h1 : u.oneCell' = true)
    (hlen : n + 1 ≤ 9223372036854775807) (hby : (n + 1) * bytes ≤ 140737488355328) (hbase : B ≤ w.heap.size)
    (h : ∀ v' w', w'.ownsRow B e 1 v' (n + 1) (xs ++ [u]) → w.grownBy w' (some g) → (v'.ownBlock = some g ∨ v'.ownBlock = some w.heap.size) → (∀ j, j < n → w'.cell? ⟨g, j, none⟩ = w.cell? ⟨g, j, none⟩) → wpList P ops Q rest (act.put o.dst v') w') :
    wpList P ops Q (o :: rest) act w := by
  refine wpList_plain hgd fun K hK => ?_
  obtain ⟨v', w', hr, h2, h3, h4, h5⟩ := run_append_keep (P := P) w B t o.type e z bytes T g n cap xs hown ad c u hu h1 hlen hby hbase
  unfold Oper.wp execOp
  simp only [ho, resolve, invoke, builtin, Sem.run_bind, Sem.run_pure, Result.andThen_ok, List.map_toArray, List.map_cons, List.map_nil, hs, hx, hr]
  exact hK _ _ (h v' w' h2 h3 h4 h5)

/-- A row of words of the call's own. -/
def OwnsW (w : World) (B : Nat) (v : Value) (f : Words) : Prop := w.ownsRow B 42 1 v f.length (f.map U32)
theorem wordsElem : Elem Tryd.prog 51 42 (.int .u32 0) 4 := ⟨by kernel_rfl, by kernel_rfl, rfl⟩
section
variable {w w' : World} {B : Nat} {v : Value} {f : Words}
theorem ownsW_nil (w : World) (B : Nat) : OwnsW w B (.slice none 0 0) [] := World.ownsRow_nil w B _ 1
theorem OwnsW.below (h : OwnsW w B v f) (hb : Below w.heap.size w w') : OwnsW w' B v f := Touch.row (F := fun _ => False) (.of_below hb) h fun _ _ e => e
theorem OwnsW.touch {F : Nat → Prop} (h : OwnsW w B v f) (t : Touch F w w') (hn : ∀ k, v.ownBlock = some k → ¬ F k) : OwnsW w' B v f := t.row h hn
theorem OwnsW.form (h : OwnsW w B v f) (hf : f ≠ []) : ∃ g cap, v = .slice (some ⟨g, 0, none⟩) f.length cap ∧ f.length ≤ cap ∧ cap ≤ 9223372036854775807 ∧ B ≤ g ∧ g < w.heap.size ∧ ∀ j, j < f.length → w.cell? ⟨g, j, none⟩ = some (U32 (wordAt f j)) := by
  have hl : f.length ≠ 0 := fun e => hf (List.eq_nil_of_length_eq_zero e)
  rcases h.2 with ⟨_, h0⟩ | ⟨g, cap, cur, rfl, hb, hh, hn, hc, _⟩
  · exact (hl h0).elim
  · refine ⟨g, cap, rfl, hn, by unfold maxLen at hc; omega, hb, heap_lt hh, fun j hj => ?_⟩
    rw [World.ownsRow.cellAt h j (by omega), List.getElem?_map, List.getElem?_eq_getElem hj]
    simp [wordAt, List.getD_eq_getElem?_getD, List.getElem?_eq_getElem hj]
theorem OwnsW.anyForm (h : OwnsW w B v f) : ∃ a cap, v = .slice a f.length cap := by
  rcases h.2 with ⟨rfl, h0⟩ | ⟨g, cap, cur, rfl, _⟩
  · exact ⟨none, 0, by rw [h0]⟩
  · exact ⟨_, _, rfl⟩
end
end Go.Proofs.YtnodcjjmodbjiaaDoor
