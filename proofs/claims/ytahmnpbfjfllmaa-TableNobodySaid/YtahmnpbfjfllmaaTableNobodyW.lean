/- A table that no call made: what it answers; the law's walk: TableNobody. -/
import Derived.Test.YtahmnpbfjfllmaaTLives
namespace Go.Proofs.Ytahmnpbfjfllmaa
open Go Go.RowKit

def NoTab (w : World) (p : Value) : Prop := p = .pointer none ∨ ∃ h, p = .pointer (some ⟨h, 0, none⟩) ∧ w.cell? ⟨h, 0, none⟩ = some (.slice none 0 0)
theorem NoTab.below {w w' : World} {p : Value} (h : NoTab w p) (hb : Below w.heap.size w w') : NoTab w' p := by
  rcases h with e | ⟨g, e, hg⟩
  · exact .inl e
  · exact .inr ⟨g, e, Keeps.below hb _ _ hg⟩
theorem nok_any {w : World} {p : Value} (h : NoTab w p) : Calls Try.prog 47 #[p] w fun e w' => e = .returned (.bool false) ∧ w = w' := by
  rcases h with rfl | ⟨g, rfl, hg⟩
  · go_enter Try.func47, Try.ntmps47
    go_wp2
    go_ret
    exact ⟨rfl, rfl⟩
  · go_enter Try.func47, Try.ntmps47
    go_wp2
    go_ret
    exact ⟨rfl, rfl⟩
theorem nlen_any {w : World} {p : Value} (h : NoTab w p) : Calls Try.prog 25 #[p] w fun e w' => e = .returned (.int .i64 0) ∧ w = w' := by
  have OK := nok_any h
  clear h
  go_enter Try.func25, Try.ntmps25
  go_wp2_with fail
  refine OK.mono ?_
  rintro e w' ⟨rfl, rfl⟩
  go_wp2
  go_ret
  exact ⟨rfl, rfl⟩
theorem ncap_any {w : World} {p : Value} (h : NoTab w p) : Calls Try.prog 28 #[p] w fun e w' => e = .returned (.int .i64 0) ∧ w = w' := by
  have OK := nok_any h
  clear h
  go_enter Try.func28, Try.ntmps28
  go_wp2_with fail
  refine OK.mono ?_
  rintro e w' ⟨rfl, rfl⟩
  go_wp2
  go_ret
  exact ⟨rfl, rfl⟩
theorem ndead_any {w : World} {p : Value} (h : NoTab w p) : Calls Try.prog 26 #[p] w fun e w' => e = .returned (.int .i64 0) ∧ w = w' := by
  have OK := nok_any h
  clear h
  go_enter Try.func26, Try.ntmps26
  go_wp2_with fail
  refine OK.mono ?_
  rintro e w' ⟨rfl, rfl⟩
  go_wp2
  go_ret
  exact ⟨rfl, rfl⟩
theorem nrising_any {w : World} {p : Value} (h : NoTab w p) : Calls Try.prog 53 #[p] w fun e w' => e = .returned (.slice none 0 0) ∧ w = w' := by
  have OK := nok_any h
  clear h
  go_enter Try.func53, Try.ntmps53
  go_wp2_with fail
  refine OK.mono ?_
  rintro e w' ⟨rfl, rfl⟩
  go_wp2
  go_ret
  exact ⟨rfl, rfl⟩
theorem ncopy_any {w : World} {p : Value} (h : NoTab w p) : Calls Try.prog 37 #[p] w fun e w' => e = .returned (.pointer none) ∧ w = w' := by
  have OK := nok_any h
  clear h
  go_enter Try.func37, Try.ntmps37
  go_wp2_with fail
  refine OK.mono ?_
  rintro e w' ⟨rfl, rfl⟩
  go_wp2
  go_ret
  exact ⟨rfl, rfl⟩
def NoLoop (w wr : World) : Prop := w = wr
theorem nkeys_any {w : World} {p : Value} (h : NoTab w p) : Calls Try.prog 39 #[p] w fun e w' => e = .returned (.slice none 0 0) ∧ w = w' := by
  have OK := nrising_any h
  clear h
  go_enter Try.func39, Try.ntmps39
  go_wp2_with fail
  refine OK.mono ?_
  rintro e w' ⟨rfl, rfl⟩
  go_wp2
  go_loopw [3, 9] (fun s i wr => s = .slice none 0 0 ∧ i = .int .i64 0 ∧ NoLoop w wr) (fun _ _ _ => 0)
  case atStart => exact ⟨rfl, rfl, rfl⟩
  case round =>
    obtain ⟨rfl, rfl, hw⟩ := hrel
    have HW := Lib.hid hw
    clear hw
    go_wp2
    go_ret
    exact ⟨rfl, HW.out⟩
def NPut (w : World) (e : Ending) (w' : World) : Prop := e = .returned (.tuple #[]) ∧ Below w.heap.size w w'
theorem nput_any {w : World} {p : Value} (h : NoTab w p) (K : Array Value) (v : Int) : Calls Try.prog 32 #[p, .agg K, .int .i64 v] w (NPut w) := by
  have hb : Below w.heap.size w (w.alloc (.cells K 23)) := (Below.refl _ _).alloc (Nat.le_refl _) _
  have OK := nok_any (h.below hb)
  clear h
  go_enter Try.func32, Try.ntmps32
  go_wp2_with fail
  refine OK.mono ?_
  rintro e w' ⟨rfl, rfl⟩
  go_wp2
  refine bodyPost_end (results_none rfl _ _ _) rfl ?_
  exact ⟨rfl, hb⟩
theorem nget_any {w : World} {p : Value} (h : NoTab w p) (K : Array Value) : Calls Try.prog 24 #[p, .agg K] w fun e w' => e = .returned (.tuple #[.int .i64 0, .bool false]) ∧ Below w.heap.size w w' := by
  have hb : Below w.heap.size w (w.alloc (.cells K 23)) := (Below.refl _ _).alloc (Nat.le_refl _) _
  have OK := nok_any (h.below hb)
  clear h
  go_enter Try.func24, Try.ntmps24
  go_wp2_with fail
  refine OK.mono ?_
  rintro e w' ⟨rfl, rfl⟩
  go_wp2
  go_ret2
  exact ⟨rfl, hb⟩
theorem ndel_any {w : World} {p : Value} (h : NoTab w p) (K : Array Value) : Calls Try.prog 34 #[p, .agg K] w fun e w' => e = .returned (.bool false) ∧ Below w.heap.size w w' := by
  have hb : Below w.heap.size w (w.alloc (.cells K 23)) := (Below.refl _ _).alloc (Nat.le_refl _) _
  have OK := nok_any (h.below hb)
  clear h
  go_enter Try.func34, Try.ntmps34
  go_wp2_with fail
  refine OK.mono ?_
  rintro e w' ⟨rfl, rfl⟩
  go_wp2
  go_ret
  exact ⟨rfl, hb⟩
theorem nsteps_any {w : World} {p : Value} (h : NoTab w p) (K : Array Value) : Calls Try.prog 27 #[p, .agg K] w fun e w' => e = .returned (.int .i64 0) ∧ Below w.heap.size w w' := by
  have hb : Below w.heap.size w (w.alloc (.cells K 23)) := (Below.refl _ _).alloc (Nat.le_refl _) _
  have OK := nok_any (h.below hb)
  clear h
  go_enter Try.func27, Try.ntmps27
  go_wp2_with fail
  refine OK.mono ?_
  rintro e w' ⟨rfl, rfl⟩
  go_wp2
  go_ret
  exact ⟨rfl, hb⟩
def NobRel (w : World) (x : Value) (wr : World) : Prop := ∃ i : Nat, i ≤ 2 ∧ x = .int .i64 i ∧ Below w.heap.size w wr
theorem built_tab : Program.built Try.prog 75 [] = some #[.slice none 0 0, .int .i64 0, .int .i64 0] := by kernel_rfl
set_option maxHeartbeats 2000000 in
theorem tableNobody_walk (k : List (BitVec 8)) (v : Int) (w : World) (hk : k.length = 32) (_hv : -9223372036854775808 ≤ v ∧ v ≤ 9223372036854775807) :
    Calls Try.prog 10 #[.agg (k.map U8).toArray, .int .i64 v] w fun e w' => e = .returned (.bool true) ∧ Below w.heap.size w w' := by
  have row : (w.alloc (.cells (k.map U8).toArray 23)).heap[w.heap.size]? = some (.cells (k.map U8).toArray 23 (0, 0)) := heap_alloc_new w _
  have hb0 : Below w.heap.size w (w.alloc (.cells (k.map U8).toArray 23)) := (Below.refl _ _).alloc (Nat.le_refl _) _
  have hik : (Try.prog.info? 23).map (·.size) = some (k.map U8).toArray.size := by rw [List.size_toArray, List.length_map, hk]; kernel_rfl
  generalize (k.map U8).toArray = K at *
  clear hk
  go_enter Try.func10, Try.ntmps10
  go_wp2
  generalize w.alloc (.cells K 23) = w1 at *
  go_loopw [5] (fun x wr => NobRel w1 x wr) (fun x _ => 2 - (intOf x).toNat)
  case atStart => exact ⟨0, by omega, rfl, Below.refl _ _⟩
  case round =>
    obtain ⟨i, hi, rfl, hB0⟩ := hrel
    have row0 := (hB0.block _ (heap_lt row)).trans row
    have hc : i = 0 ∨ i = 1 ∨ i = 2 := by omega
    rcases hc with rfl | rfl | rfl
    · have hT0 : NoTab wr (.pointer none) := .inl rfl
      go_wp2_with (with_reducible refine at_load 23 ?_; go_must (refine wpList_load_row_g rfl 23 _ rfl w.heap.size rfl _ K _ _ row0 Try.underlying23 rfl hik ?_))
      refine (nput_any hT0 K v).mono ?_
      rintro e w1 ⟨rfl, hb1⟩
      have hT1 := hT0.below hb1
      have row1 := (hb1.block _ (heap_lt row0)).trans row0
      have hB1 := hB0.trans (hb1.mono hB0.size)
      clear hb1 row0 hB0 hT0
      go_wp2_with (with_reducible refine at_load 23 ?_; go_must (refine wpList_load_row_g rfl 23 _ rfl w.heap.size rfl _ K _ _ row1 Try.underlying23 rfl hik ?_))
      refine (nget_any hT1 K).mono ?_
      rintro e w2 ⟨rfl, hb2⟩
      have hT2 := hT1.below hb2
      have row2 := (hb2.block _ (heap_lt row1)).trans row1
      have hB2 := hB1.trans (hb2.mono hB1.size)
      clear hb2 row1 hB1 hT1
      go_wp2_with (with_reducible refine at_load 23 ?_; go_must (refine wpList_load_row_g rfl 23 _ rfl w.heap.size rfl _ K _ _ row2 Try.underlying23 rfl hik ?_))
      refine (ndel_any hT2 K).mono ?_
      rintro e w3 ⟨rfl, hb3⟩
      have hT3 := hT2.below hb3
      have row3 := (hb3.block _ (heap_lt row2)).trans row2
      have hB3 := hB2.trans (hb3.mono hB2.size)
      clear hb3 row2 hB2 hT2
      go_wp2_with (with_reducible refine at_load 23 ?_; go_must (refine wpList_load_row_g rfl 23 _ rfl w.heap.size rfl _ K _ _ row3 Try.underlying23 rfl hik ?_))
      refine (nlen_any hT3).mono ?_
      rintro e w' ⟨rfl, rfl⟩
      go_wp2_with (with_reducible refine at_load 23 ?_; go_must (refine wpList_load_row_g rfl 23 _ rfl w.heap.size rfl _ K _ _ row3 Try.underlying23 rfl hik ?_))
      refine (ncap_any hT3).mono ?_
      rintro e w' ⟨rfl, rfl⟩
      go_wp2_with (with_reducible refine at_load 23 ?_; go_must (refine wpList_load_row_g rfl 23 _ rfl w.heap.size rfl _ K _ _ row3 Try.underlying23 rfl hik ?_))
      refine (ndead_any hT3).mono ?_
      rintro e w' ⟨rfl, rfl⟩
      go_wp2_with (with_reducible refine at_load 23 ?_; go_must (refine wpList_load_row_g rfl 23 _ rfl w.heap.size rfl _ K _ _ row3 Try.underlying23 rfl hik ?_))
      refine (nsteps_any hT3 K).mono ?_
      rintro e w4 ⟨rfl, hb4⟩
      have hT4 := hT3.below hb4
      have row4 := (hb4.block _ (heap_lt row3)).trans row3
      have hB4 := hB3.trans (hb4.mono hB3.size)
      clear hb4 row3 hB3 hT3
      go_wp2_with (with_reducible refine at_load 23 ?_; go_must (refine wpList_load_row_g rfl 23 _ rfl w.heap.size rfl _ K _ _ row4 Try.underlying23 rfl hik ?_))
      refine (nkeys_any hT4).mono ?_
      rintro e w' ⟨rfl, rfl⟩
      go_wp2_with (with_reducible refine at_load 23 ?_; go_must (refine wpList_load_row_g rfl 23 _ rfl w.heap.size rfl _ K _ _ row4 Try.underlying23 rfl hik ?_))
      refine (ncopy_any hT4).mono ?_
      rintro e w' ⟨rfl, rfl⟩
      go_wp2
      go_roundw
      case rel => exact ⟨1, by omega, by go_num, hB4⟩
      case measure => simp [intOf]
    · have hb1 : Below wr.heap.size wr (wr.alloc (.cells #[.slice none 0 0, .int .i64 0, .int .i64 0] 75)) := (Below.refl _ _).alloc (Nat.le_refl _) _
      have hT1 : NoTab (wr.alloc (.cells #[.slice none 0 0, .int .i64 0, .int .i64 0] 75)) (.pointer (some ⟨wr.heap.size, 0, none⟩)) := .inr ⟨wr.heap.size, rfl, (cell_of_row _ _ _ _ _ _ (heap_alloc_new wr _)).trans rfl⟩
      have row1 := (hb1.block _ (heap_lt row0)).trans row0
      have hB1 := hB0.trans (hb1.mono hB0.size)
      clear hb1 row0 hB0
      generalize hWW : wr.alloc (.cells #[.slice none 0 0, .int .i64 0, .int .i64 0] 75) = w1' at *
      go_wp2_with (with_reducible refine at_load 23 ?_; go_must (refine wpList_load_row_g rfl 23 _ rfl w.heap.size rfl _ K _ _ row1 Try.underlying23 rfl hik ?_))
      refine (nput_any hT1 K v).mono ?_
      rintro e w2 ⟨rfl, hb2⟩
      have hT2 := hT1.below hb2
      have row2 := (hb2.block _ (heap_lt row1)).trans row1
      have hB2 := hB1.trans (hb2.mono hB1.size)
      clear hb2 row1 hB1 hT1
      go_wp2_with (with_reducible refine at_load 23 ?_; go_must (refine wpList_load_row_g rfl 23 _ rfl w.heap.size rfl _ K _ _ row2 Try.underlying23 rfl hik ?_))
      refine (nget_any hT2 K).mono ?_
      rintro e w3 ⟨rfl, hb3⟩
      have hT3 := hT2.below hb3
      have row3 := (hb3.block _ (heap_lt row2)).trans row2
      have hB3 := hB2.trans (hb3.mono hB2.size)
      clear hb3 row2 hB2 hT2
      go_wp2_with (with_reducible refine at_load 23 ?_; go_must (refine wpList_load_row_g rfl 23 _ rfl w.heap.size rfl _ K _ _ row3 Try.underlying23 rfl hik ?_))
      refine (ndel_any hT3 K).mono ?_
      rintro e w4 ⟨rfl, hb4⟩
      have hT4 := hT3.below hb4
      have row4 := (hb4.block _ (heap_lt row3)).trans row3
      have hB4 := hB3.trans (hb4.mono hB3.size)
      clear hb4 row3 hB3 hT3
      go_wp2_with (with_reducible refine at_load 23 ?_; go_must (refine wpList_load_row_g rfl 23 _ rfl w.heap.size rfl _ K _ _ row4 Try.underlying23 rfl hik ?_))
      refine (nlen_any hT4).mono ?_
      rintro e w' ⟨rfl, rfl⟩
      go_wp2_with (with_reducible refine at_load 23 ?_; go_must (refine wpList_load_row_g rfl 23 _ rfl w.heap.size rfl _ K _ _ row4 Try.underlying23 rfl hik ?_))
      refine (ncap_any hT4).mono ?_
      rintro e w' ⟨rfl, rfl⟩
      go_wp2_with (with_reducible refine at_load 23 ?_; go_must (refine wpList_load_row_g rfl 23 _ rfl w.heap.size rfl _ K _ _ row4 Try.underlying23 rfl hik ?_))
      refine (ndead_any hT4).mono ?_
      rintro e w' ⟨rfl, rfl⟩
      go_wp2_with (with_reducible refine at_load 23 ?_; go_must (refine wpList_load_row_g rfl 23 _ rfl w.heap.size rfl _ K _ _ row4 Try.underlying23 rfl hik ?_))
      refine (nsteps_any hT4 K).mono ?_
      rintro e w5 ⟨rfl, hb5⟩
      have hT5 := hT4.below hb5
      have row5 := (hb5.block _ (heap_lt row4)).trans row4
      have hB5 := hB4.trans (hb5.mono hB4.size)
      clear hb5 row4 hB4 hT4
      go_wp2_with (with_reducible refine at_load 23 ?_; go_must (refine wpList_load_row_g rfl 23 _ rfl w.heap.size rfl _ K _ _ row5 Try.underlying23 rfl hik ?_))
      refine (nkeys_any hT5).mono ?_
      rintro e w' ⟨rfl, rfl⟩
      go_wp2_with (with_reducible refine at_load 23 ?_; go_must (refine wpList_load_row_g rfl 23 _ rfl w.heap.size rfl _ K _ _ row5 Try.underlying23 rfl hik ?_))
      refine (ncopy_any hT5).mono ?_
      rintro e w' ⟨rfl, rfl⟩
      go_wp2
      go_roundw
      case rel => exact ⟨2, by omega, by go_num, hB5⟩
      case measure => simp [intOf]
    · go_wp2_with fail
      refine (lives_any _).mono ?_
      rintro e w5 ⟨rfl, hb5⟩
      go_wp2
      go_ret
      have hb2 := hb0.trans (hB0.mono hb0.size)
      exact ⟨rfl, hb2.trans (hb5.mono hb2.size)⟩
end Go.Proofs.Ytahmnpbfjfllmaa
