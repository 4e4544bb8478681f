/- The law's walk: TableOrder. -/
import Derived.Test.YtahmnpbfjfllmaaRefLess
import Derived.Test.YtahmnpbfjfllmaaTLives
namespace Go.Proofs.Ytahmnpbfjfllmaa
open Go Go.RowKit

theorem run_neq_key (k m : List (BitVec 8)) (hk : k.length = 32) (hm : m.length = 32) (w : World) :
    (binOp .neq 23 (.agg (k.map U8).toArray) (.agg (m.map U8).toArray)).run Try.prog w = .ok (.bool (!(k == m))) w := by
  have h := run_equalIn_bytes (P := Try.prog) w 9998 23 5 32 Try.underlying23 Try.underlying5 (fun w => by kernel_rfl) (k.map ub) (m.map ub) (by simpa using hk) (by simpa using hm)
  rw [map_cell, map_cell, map_ub_beq] at h
  rw [run_neq_struct, h]
  rfl
/-- The three answers, and those of the other way round. -/
theorem order_facts (a b c : List (BitVec 8)) (ha : a.length = 32) (hb : b.length = 32) (hc : c.length = 32) :
    (decide (cmpB a b < 0) = true ∧ (a == b) = false ∧ decide (cmpB b a < 0) = false ∨ decide (cmpB a b < 0) = false ∧ (a == b) = true ∨ decide (cmpB a b < 0) = false ∧ (a == b) = false ∧ decide (cmpB b a < 0) = true) ∧
      (decide (cmpB a b < 0) = true → decide (cmpB b c < 0) = true → decide (cmpB a c < 0) = true) := by
  obtain ⟨h1, h2⟩ := cmpB_swap a b (by omega)
  refine ⟨?_, fun e1 e2 => ?_⟩
  · rcases Int.lt_trichotomy (cmpB a b) 0 with e | e | e
    · have n1 : ¬ a = b := fun q => by rw [q, cmpB_refl] at e; omega
      have n2 : ¬ cmpB b a < 0 := fun q => by have := h1.1 q; omega
      exact .inl ⟨by simpa using e, by simpa using n1, by simpa using n2⟩
    · exact .inr (.inl ⟨by rw [e]; rfl, by rw [h2.1 e]; simp⟩)
    · refine .inr (.inr ⟨by simp; omega, ?_, by simpa using h1.2 e⟩)
      have : ¬ a = b := fun q => by rw [q, cmpB_refl] at e; omega
      simpa using this
  · have := cmpB_trans a b c (by omega) (by omega) (by simpa using e1) (by simpa using e2)
    simpa using this
theorem later_heap {w : World} {g : Nat} {cs : Array Value} {t : TypeId} {fr : Nat × Nat} (hg : w.heap[g]? = some (.cells cs t fr)) (y : Later w) : y.to.heap[g]? = some (.cells cs t fr) := (y.below.block g (heap_lt hg)).trans hg
set_option maxHeartbeats 2000000 in
theorem tableOrder_walk (a b c : List (BitVec 8)) (w : World) (ha : a.length = 32) (hb : b.length = 32) (hc : c.length = 32) :
    Calls Try.prog 3 #[.agg (a.map U8).toArray, .agg (b.map U8).toArray, .agg (c.map U8).toArray] w fun e w' => e = .returned (.bool true) ∧ Below w.heap.size w w' := by
  obtain ⟨hcases, htr⟩ := order_facts a b c ha hb hc
  have LAB := less_any a b ha hb
  have LBC := less_any b c hb hc
  have LAC := less_any a c ha hc
  have LAA := less_any a a ha ha
  have LBA := less_any b a hb ha
  have RAB := refLess_any a b ha hb
  have NE := run_neq_key a b ha hb
  rw [cmpB_refl, show decide ((0 : Int) < 0) = false from rfl] at LAA
  obtain ⟨A, hA⟩ : ∃ A, (a.map U8).toArray = A := ⟨_, rfl⟩
  obtain ⟨B, hB⟩ : ∃ B, (b.map U8).toArray = B := ⟨_, rfl⟩
  obtain ⟨C, hC⟩ : ∃ C, (c.map U8).toArray = C := ⟨_, rfl⟩
  have sA : A.size = 32 := by rw [← hA]; simp [ha]
  have sB : B.size = 32 := by rw [← hB]; simp [hb]
  have sC : C.size = 32 := by rw [← hC]; simp [hc]
  rw [hA, hB] at LAB LBA RAB NE
  rw [hA] at LAA
  rw [hB, hC] at LBC
  rw [hA, hC] at LAC
  rw [hA, hB, hC]
  have iA : (Try.prog.info? 23).map (·.size) = some A.size := by rw [sA]; kernel_rfl
  have iB : (Try.prog.info? 23).map (·.size) = some B.size := by rw [sB]; kernel_rfl
  have iC : (Try.prog.info? 23).map (·.size) = some C.size := by rw [sC]; kernel_rfl
  clear hA hB hC sA sB sC ha hb hc
  generalize decide (cmpB a b < 0) = x at *
  generalize decide (cmpB b c < 0) = y at *
  generalize decide (cmpB a c < 0) = z at *
  generalize decide (cmpB b a < 0) = x' at *
  generalize (a == b) = q at *
  have HTR := Lib.hid htr
  have HCA := Lib.hid hcases
  clear htr hcases
  go_enter Try.func3, Try.ntmps3
  go_wp2
  have gA : (((w.alloc (.cells A 23)).alloc (.cells B 23)).alloc (.cells C 23)).heap[w.heap.size]? = some (.cells A 23 (0, 0)) := by
    rw [Below.heap_alloc _ _ _ (by simp; omega), Below.heap_alloc _ _ _ (by simp), heap_alloc_new]
  have gB : (((w.alloc (.cells A 23)).alloc (.cells B 23)).alloc (.cells C 23)).heap[w.heap.size + 1]? = some (.cells B 23 (0, 0)) := by
    rw [Below.heap_alloc _ _ _ (by simp), heap_alloc2_new]
  have gC : (((w.alloc (.cells A 23)).alloc (.cells B 23)).alloc (.cells C 23)).heap[w.heap.size + 1 + 1]? = some (.cells C 23 (0, 0)) := by
    rw [show w.heap.size + 1 + 1 = ((w.alloc (.cells A 23)).alloc (.cells B 23)).heap.size by simp, heap_alloc_new]
  have b3 : Below w.heap.size w (((w.alloc (.cells A 23)).alloc (.cells B 23)).alloc (.cells C 23)) := (((Below.refl w.heap.size w).alloc (Nat.le_refl _) _).alloc (by simp) _).alloc (by simp; omega) _
  generalize ((w.alloc (.cells A 23)).alloc (.cells B 23)).alloc (.cells C 23) = w3 at *
  refine wp_region_later (by kernel_rfl) (by kernel_rfl) ?_
  repeat (first
    | (go_big_quiet_want; (first
        | refine quiet_load_row gA Try.underlying23 rfl iA rfl rfl ?_
        | refine quiet_load_row gB Try.underlying23 rfl iB rfl rfl ?_
        | refine quiet_load_row gC Try.underlying23 rfl iC rfl rfl ?_); simp only [Act.put, List.setIfInBounds_toArray, List.set_cons_succ, List.set_cons_zero]; go_big_quiet_on)
    | go_big_quiet_step (first | with_reducible exact Later.calls _ (LAB _) | with_reducible exact Later.calls _ (LBC _) | with_reducible exact Later.calls _ (LAC _)))
  refine wpQuiet_nil ?_
  rintro _ ⟨u, rfl⟩
  have b4 := b3.trans (u.below.mono b3.size)
  have gA4 := later_heap gA u
  have gB4 := later_heap gB u
  generalize u.to = w4 at *
  clear gA gB gC b3 LAB LBC LAC
  rcases HCA.out with ⟨rfl, rfl, rfl⟩ | ⟨rfl, rfl⟩ | ⟨rfl, rfl, rfl⟩
  · cases y
    · go_wp2_with (with_reducible refine at_load 23 ?_; first | refine wpList_load_row_g rfl 23 _ rfl w.heap.size rfl _ A _ _ gA4 Try.underlying23 rfl iA ?_ | refine wpList_load_row_g rfl 23 _ rfl (w.heap.size + 1) rfl _ B _ _ gB4 Try.underlying23 rfl iB ?_)
      refine (RAB _).mono ?_
      rintro e w5 ⟨rfl, hb5⟩
      have b5 := b4.trans (hb5.mono b4.size)
      have gA5 := (hb5.block _ (heap_lt gA4)).trans gA4
      have gB5 := (hb5.block _ (heap_lt gB4)).trans gB4
      clear hb5
      go_wp2_with (with_reducible refine at_load 23 ?_; first | refine wpList_load_row_g rfl 23 _ rfl w.heap.size rfl _ A _ _ gA5 Try.underlying23 rfl iA ?_ | refine wpList_load_row_g rfl 23 _ rfl (w.heap.size + 1) rfl _ B _ _ gB5 Try.underlying23 rfl iB ?_)
      refine (LAA _).mono ?_
      rintro e w6 ⟨rfl, hb6⟩
      have b6 := b5.trans (hb6.mono b5.size)
      have gA6 := (hb6.block _ (heap_lt gA5)).trans gA5
      have gB6 := (hb6.block _ (heap_lt gB5)).trans gB5
      clear hb6
      go_wp2_with (with_reducible refine at_load 23 ?_; first | refine wpList_load_row_g rfl 23 _ rfl w.heap.size rfl _ A _ _ gA6 Try.underlying23 rfl iA ?_ | refine wpList_load_row_g rfl 23 _ rfl (w.heap.size + 1) rfl _ B _ _ gB6 Try.underlying23 rfl iB ?_)
      refine (LBA _).mono ?_
      rintro e w7 ⟨rfl, hb7⟩
      have b7 := b6.trans (hb7.mono b6.size)
      have gA7 := (hb7.block _ (heap_lt gA6)).trans gA6
      have gB7 := (hb7.block _ (heap_lt gB6)).trans gB6
      clear hb7
      go_wp2_with (with_reducible refine at_load 23 ?_; first | refine wpList_load_row_g rfl 23 _ rfl w.heap.size rfl _ A _ _ gA7 Try.underlying23 rfl iA ?_ | refine wpList_load_row_g rfl 23 _ rfl (w.heap.size + 1) rfl _ B _ _ gB7 Try.underlying23 rfl iB ?_)
      refine (lives_any _).mono ?_
      rintro e w8 ⟨rfl, hb8⟩
      go_wp2
      go_ret
      exact ⟨rfl, b7.trans (hb8.mono b7.size)⟩
    · obtain rfl : z = true := HTR.out rfl rfl
      go_wp2_with (with_reducible refine at_load 23 ?_; first | refine wpList_load_row_g rfl 23 _ rfl w.heap.size rfl _ A _ _ gA4 Try.underlying23 rfl iA ?_ | refine wpList_load_row_g rfl 23 _ rfl (w.heap.size + 1) rfl _ B _ _ gB4 Try.underlying23 rfl iB ?_)
      refine (RAB _).mono ?_
      rintro e w5 ⟨rfl, hb5⟩
      have b5 := b4.trans (hb5.mono b4.size)
      have gA5 := (hb5.block _ (heap_lt gA4)).trans gA4
      have gB5 := (hb5.block _ (heap_lt gB4)).trans gB4
      clear hb5
      go_wp2_with (with_reducible refine at_load 23 ?_; first | refine wpList_load_row_g rfl 23 _ rfl w.heap.size rfl _ A _ _ gA5 Try.underlying23 rfl iA ?_ | refine wpList_load_row_g rfl 23 _ rfl (w.heap.size + 1) rfl _ B _ _ gB5 Try.underlying23 rfl iB ?_)
      refine (LAA _).mono ?_
      rintro e w6 ⟨rfl, hb6⟩
      have b6 := b5.trans (hb6.mono b5.size)
      have gA6 := (hb6.block _ (heap_lt gA5)).trans gA5
      have gB6 := (hb6.block _ (heap_lt gB5)).trans gB5
      clear hb6
      go_wp2_with (with_reducible refine at_load 23 ?_; first | refine wpList_load_row_g rfl 23 _ rfl w.heap.size rfl _ A _ _ gA6 Try.underlying23 rfl iA ?_ | refine wpList_load_row_g rfl 23 _ rfl (w.heap.size + 1) rfl _ B _ _ gB6 Try.underlying23 rfl iB ?_)
      refine (LBA _).mono ?_
      rintro e w7 ⟨rfl, hb7⟩
      have b7 := b6.trans (hb7.mono b6.size)
      have gA7 := (hb7.block _ (heap_lt gA6)).trans gA6
      have gB7 := (hb7.block _ (heap_lt gB6)).trans gB6
      clear hb7
      go_wp2_with (with_reducible refine at_load 23 ?_; first | refine wpList_load_row_g rfl 23 _ rfl w.heap.size rfl _ A _ _ gA7 Try.underlying23 rfl iA ?_ | refine wpList_load_row_g rfl 23 _ rfl (w.heap.size + 1) rfl _ B _ _ gB7 Try.underlying23 rfl iB ?_)
      refine (lives_any _).mono ?_
      rintro e w8 ⟨rfl, hb8⟩
      go_wp2
      go_ret
      exact ⟨rfl, b7.trans (hb8.mono b7.size)⟩
  · go_wp2_with (with_reducible refine at_load 23 ?_; first | refine wpList_load_row_g rfl 23 _ rfl w.heap.size rfl _ A _ _ gA4 Try.underlying23 rfl iA ?_ | refine wpList_load_row_g rfl 23 _ rfl (w.heap.size + 1) rfl _ B _ _ gB4 Try.underlying23 rfl iB ?_)
    refine (RAB _).mono ?_
    rintro e w5 ⟨rfl, hb5⟩
    have b5 := b4.trans (hb5.mono b4.size)
    have gA5 := (hb5.block _ (heap_lt gA4)).trans gA4
    have gB5 := (hb5.block _ (heap_lt gB4)).trans gB4
    clear hb5
    go_wp2_with (with_reducible refine at_load 23 ?_; first | refine wpList_load_row_g rfl 23 _ rfl w.heap.size rfl _ A _ _ gA5 Try.underlying23 rfl iA ?_ | refine wpList_load_row_g rfl 23 _ rfl (w.heap.size + 1) rfl _ B _ _ gB5 Try.underlying23 rfl iB ?_)
    refine (LAA _).mono ?_
    rintro e w6 ⟨rfl, hb6⟩
    have b6 := b5.trans (hb6.mono b5.size)
    have gA6 := (hb6.block _ (heap_lt gA5)).trans gA5
    have gB6 := (hb6.block _ (heap_lt gB5)).trans gB5
    clear hb6
    go_wp2_with (with_reducible refine at_load 23 ?_; first | refine wpList_load_row_g rfl 23 _ rfl w.heap.size rfl _ A _ _ gA6 Try.underlying23 rfl iA ?_ | refine wpList_load_row_g rfl 23 _ rfl (w.heap.size + 1) rfl _ B _ _ gB6 Try.underlying23 rfl iB ?_)
    refine (lives_any _).mono ?_
    rintro e w7 ⟨rfl, hb7⟩
    go_wp2
    go_ret
    exact ⟨rfl, b6.trans (hb7.mono b6.size)⟩
  · go_wp2_with (with_reducible refine at_load 23 ?_; first | refine wpList_load_row_g rfl 23 _ rfl w.heap.size rfl _ A _ _ gA4 Try.underlying23 rfl iA ?_ | refine wpList_load_row_g rfl 23 _ rfl (w.heap.size + 1) rfl _ B _ _ gB4 Try.underlying23 rfl iB ?_)
    refine (RAB _).mono ?_
    rintro e w5 ⟨rfl, hb5⟩
    have b5 := b4.trans (hb5.mono b4.size)
    have gA5 := (hb5.block _ (heap_lt gA4)).trans gA4
    have gB5 := (hb5.block _ (heap_lt gB4)).trans gB4
    clear hb5
    go_wp2_with (with_reducible refine at_load 23 ?_; first | refine wpList_load_row_g rfl 23 _ rfl w.heap.size rfl _ A _ _ gA5 Try.underlying23 rfl iA ?_ | refine wpList_load_row_g rfl 23 _ rfl (w.heap.size + 1) rfl _ B _ _ gB5 Try.underlying23 rfl iB ?_)
    refine (LAA _).mono ?_
    rintro e w6 ⟨rfl, hb6⟩
    have b6 := b5.trans (hb6.mono b5.size)
    have gA6 := (hb6.block _ (heap_lt gA5)).trans gA5
    have gB6 := (hb6.block _ (heap_lt gB5)).trans gB5
    clear hb6
    go_wp2_with (with_reducible refine at_load 23 ?_; first | refine wpList_load_row_g rfl 23 _ rfl w.heap.size rfl _ A _ _ gA6 Try.underlying23 rfl iA ?_ | refine wpList_load_row_g rfl 23 _ rfl (w.heap.size + 1) rfl _ B _ _ gB6 Try.underlying23 rfl iB ?_)
    refine (LBA _).mono ?_
    rintro e w7 ⟨rfl, hb7⟩
    have b7 := b6.trans (hb7.mono b6.size)
    have gA7 := (hb7.block _ (heap_lt gA6)).trans gA6
    have gB7 := (hb7.block _ (heap_lt gB6)).trans gB6
    clear hb7
    go_wp2_with (with_reducible refine at_load 23 ?_; first | refine wpList_load_row_g rfl 23 _ rfl w.heap.size rfl _ A _ _ gA7 Try.underlying23 rfl iA ?_ | refine wpList_load_row_g rfl 23 _ rfl (w.heap.size + 1) rfl _ B _ _ gB7 Try.underlying23 rfl iB ?_)
    refine (lives_any _).mono ?_
    rintro e w8 ⟨rfl, hb8⟩
    go_wp2
    go_ret
    exact ⟨rfl, b7.trans (hb8.mono b7.size)⟩
end Go.Proofs.Ytahmnpbfjfllmaa
