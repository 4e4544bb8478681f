/- The law's walk: TableSteps. -/
import Derived.Test.YtahmnpbfjfllmaaPlayed
namespace Go.Proofs.Ytahmnpbfjfllmaa
open Go Go.RowKit

set_option maxHeartbeats 1000000 in
theorem tableSteps_walk (a : Option Addr) (cap : Nat) (l : List Call) (k : List (BitVec 8)) (w : World) (hd : Dos w a cap l) (hk : k.length = 32) :
    Calls Try.prog 6 #[.slice a l.length cap, .agg (k.map U8).toArray] w fun e w' => e = .returned (.bool true) ∧ Below w.heap.size w w' := by
  have row : (w.alloc (.cells (k.map U8).toArray 23)).heap[w.heap.size]? = some (.cells (k.map U8).toArray 23 (0, 0)) := heap_alloc_new w _
  have hb0 : Below w.heap.size w (w.alloc (.cells (k.map U8).toArray 23)) := (Below.refl _ _).alloc (Nat.le_refl _) _
  have PL := played_any a cap l 300 (by decide) _ (hd.keeps (Keeps.below hb0))
  have hik : (Try.prog.info? 23).map (·.size) = some (k.map U8).toArray.size := by rw [List.size_toArray, List.length_map, hk]; kernel_rfl
  have ST := fun (w : World) (h b c n g : Nat) (S : Nat → SlotI) (t : TabAt w h b c S n g) (j : Nat) (hj : Tab.Found S c k j) => steps_any t k hk j hj
  generalize hKE : (k.map U8).toArray = K at *
  clear hKE
  go_enter Try.func6, Try.ntmps6
  go_wp2_with fail
  refine PL.mono ?_
  rintro e w2 ⟨h, b, c, S, n, g, rfl, t2, hiff, hn, hh, hbb, hb2⟩
  have row2 := (hb2.block _ (by simp)).trans row
  have hB2 := hb0.trans (hb2.mono hb0.size)
  obtain ⟨j, hj⟩ := Tab.found_of_room t2.look.inv.room k
  have hsteps := hj.steps t2.look.inv.sts
  rw [t2.nf, t2.nd] at hsteps
  have hroom := t2.room
  have hcM := t2.look.big.2
  obtain ⟨J, hJ⟩ : ∃ J : Nat, j + 1 = J := ⟨_, rfl⟩
  obtain ⟨U, hU⟩ : ∃ U : Nat, n + g = U := ⟨_, rfl⟩
  have hU2 : (n : Int) + (g : Int) = (U : Int) := by omega
  have hJ1 : 1 ≤ J := by omega
  have hJ2 : (1 : Int) ≤ (J : Int) := by omega
  have hJU : (J : Int) ≤ (U : Int) + 1 := by omega
  have hUc : (U : Int) < (c : Int) := by omega
  have g1 : decide ((J : Int) ≥ 1) = true := decide_eq_true hJ2
  have g2 : decide ((J : Int) ≤ (U : Int) + 1) = true := decide_eq_true hJU
  have g3 : decide ((U : Int) < (c : Int)) = true := decide_eq_true hUc
  have LEN := len_any t2
  have DEAD := dead_any t2
  have ST2 := ST w2 h b c n g S t2 j hj
  rw [show ((j : Int) + 1) = (J : Int) by omega] at ST2
  clear PL row hb0 hb2 hiff hd
  go_wp2_with fail
  refine LEN.mono ?_
  rintro e w' ⟨rfl, rfl⟩
  go_wp2_with fail
  refine DEAD.mono ?_
  rintro e w' ⟨rfl, rfl⟩
  go_wp2_with (with_reducible refine at_load 23 ?_; go_must (refine wpList_load_row_g rfl 23 _ rfl w.heap.size rfl _ K _ _ row2 Try.underlying23 rfl hik ?_))
  refine ST2.mono ?_
  rintro e w3 ⟨rfl, hb3⟩
  have t3 := t2.below hb3
  have row3 := (hb3.block _ (heap_lt row2)).trans row2
  have hB3 := hB2.trans (hb3.mono hB2.size)
  have ST3 := ST w3 h b c n g S t3 j hj
  rw [show ((j : Int) + 1) = (J : Int) by omega] at ST3
  clear LEN DEAD ST2 row2 hb3 hB2
  go_wp2_with (with_reducible refine at_load 23 ?_; go_must (refine wpList_load_row_g rfl 23 _ rfl w.heap.size rfl _ K _ _ row3 Try.underlying23 rfl hik ?_))
  refine ST3.mono ?_
  rintro e w4 ⟨rfl, hb4⟩
  have t4 := t3.below hb4
  have hB4 := hB3.trans (hb4.mono hB3.size)
  have CAP := cap_any t4
  go_wp2_with fail
  refine CAP.mono ?_
  rintro e w' ⟨rfl, rfl⟩
  go_wp2_with fail
  refine (lives_any _).mono ?_
  rintro e w5 ⟨rfl, hb5⟩
  go_wp2
  go_ret
  exact ⟨rfl, hB4.trans (hb5.mono hB4.size)⟩
end Go.Proofs.Ytahmnpbfjfllmaa
