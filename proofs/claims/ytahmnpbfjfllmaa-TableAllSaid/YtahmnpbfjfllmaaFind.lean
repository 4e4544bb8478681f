/- The search (values: numbers). -/
import Derived.Test.YtahmnpbfjfllmaaHome
import Derived.Test.YtahmnpbfjfllmaaQ
namespace Go.Proofs.Ytahmnpbfjfllmaa
open Go Go.RowKit

/-- A variable of several cells, and what was put into it. -/
theorem made_row (w : World) (t : TypeId) (Z C : Array Value) : ((w.alloc (.cells Z t)).setRow w.heap.size C).heap[w.heap.size]? = some (.cells C t (0, 0)) ∧ Below w.heap.size w ((w.alloc (.cells Z t)).setRow w.heap.size C) := by
  have h1 : (w.alloc (.cells Z t)).heap[w.heap.size]? = some (.cells Z t (0, 0)) := heap_alloc_new w _
  have t1 : Touch (fun x => x = w.heap.size) (w.alloc (.cells Z t)) ((w.alloc (.cells Z t)).setRow w.heap.size C) := Touch.setRow _ _ _ rfl
  exact ⟨setRow_heap _ _ _ _ t _ h1, ((Below.refl _ _).alloc (Nat.le_refl _) _).trans (t1.below (fun x e => by have e2 : x = w.heap.size := e; omega) (by simp))⟩
theorem ok_any (w : World) (h b c : Nat) (hh0 : ∃ cc, c ≤ cc ∧ cc ≤ 9223372036854775807 ∧ w.cell? ⟨h, 0, none⟩ = some (.slice (some ⟨b, 0, none⟩) c cc)) (hc : 8 ≤ c) :
    Calls Try.prog 47 #[.pointer (some ⟨h, 0, none⟩)] w fun e w' => e = .returned (.bool true) ∧ w = w' := by
  obtain ⟨cc, hcc, hccM, hh⟩ := hh0
  have hg : 0 < c := by omega
  go_enter Try.func47, Try.ntmps47
  go_wp2
  go_ret
  exact ⟨rfl, rfl⟩
def FindRel (k : List (BitVec 8)) (c j : Nat) (w : World) (at_ steps : Value) (wr : World) : Prop :=
  ∃ i, i ≤ j ∧ at_ = .int .i64 (Tab.place k c i) ∧ steps = .int .i64 ((i : Int) + 1) ∧ Below w.heap.size w wr
set_option maxHeartbeats 2000000 in
theorem find_any (w : World) (h b c : Nat) (S : Nat → SlotI) (hL : Look w h b c S) (k : List (BitVec 8)) (hk : k.length = 32) (j : Nat) (hj : Tab.Found S c k j) :
    Calls Try.prog 48 #[.pointer (some ⟨h, 0, none⟩), .agg (k.map U8).toArray] w fun e w' =>
      e = .returned (.tuple #[.int .i64 (Tab.place k c j), .int .i64 ((j : Int) + 1), .bool ((S (Tab.place k c j)).st == 1)]) ∧ Below w.heap.size w w' := by
  have row : (w.alloc (.cells (k.map U8).toArray 23)).heap[w.heap.size]? = some (.cells (k.map U8).toArray 23 (0, 0)) := heap_alloc_new w _
  have hb : Below w.heap.size w (w.alloc (.cells (k.map U8).toArray 23)) := (Below.refl _ _).alloc (Nat.le_refl _) _
  have hL1 := hL.below hb
  have HM := fun (w : World) => home_any k hk c hL.pow hL.big w
  have hik : (Try.prog.info? 23).map (·.size) = some (k.map U8).toArray.size := by rw [List.size_toArray, List.length_map, hk]; kernel_rfl
  obtain ⟨R, hR⟩ : ∃ R, ((S (Tab.place k c j)).st == 1) = R := ⟨_, rfl⟩
  rw [hR]
  have HR := Lib.hid hR
  clear hR
  have HEQ := fun (m : List (BitVec 8)) (hm : m.length = 32) (w : World) => run_eq_key m k hm hk w
  generalize (k.map U8).toArray = K at *
  obtain ⟨c1, hc1, hc1M, hc0⟩ := hL1.slots
  have hc8 := hL.big.1
  have hcM := hL.big.2
  go_enter Try.func48, Try.ntmps48
  go_wp2
  generalize w.alloc (.cells K 23) = w1 at *
  have hslice : ∀ x : Later w1, x.to.cell? ⟨h, 0, none⟩ = some (.slice (some ⟨b, 0, none⟩) c c1) := fun x => x.cell hc0
  refine wp_region_later (by kernel_rfl) (by kernel_rfl) ?_
  repeat (first
    | (go_big_quiet_want; refine quiet_load_row row Try.underlying23 rfl hik rfl rfl ?_; simp only [Act.put, List.setIfInBounds_toArray, List.set_cons_succ, List.set_cons_zero]; go_big_quiet_on)
    | (go_big_quiet_want; refine quiet_nilCheck rfl rfl ?_; simp only [Act.put, List.setIfInBounds_toArray, List.set_cons_succ, List.set_cons_zero]; go_big_quiet_on)
    | go_big_quiet_step (with_reducible exact Later.calls _ (HM _))
    | quiet_step (with_reducible exact Later.calls _ (HM _)))
  refine wpQuiet_nil ?_
  rintro _ ⟨x, rfl⟩
  have hx : Below w1.heap.size w1 x.to := x.below
  generalize x.to = w2 at *
  have hb2 : Below w.heap.size w w2 := hb.trans (hx.mono hb.size)
  have hL2 := hL1.below hx
  have row2 : w2.heap[w.heap.size]? = some (.cells K 23 (0, 0)) := (hx.block _ (heap_lt row)).trans row
  clear hslice HM row hL1 hc0 hx hb hL
  obtain ⟨Z, hz, sZ⟩ : ∃ Z : Array Value, (∀ w, Sem.run Try.prog (zeroValue 93) w = .ok (.agg Z) w) ∧ Z.size = 34 := ⟨_, zero_slot, by rw [List.size_toArray]; exact length_slotC rfl⟩
  have HZ := Lib.hid sZ
  clear sZ
  go_wp2
  go_loopw [7, 8] (fun a s wr => FindRel k c j w2 a s wr) (fun _ s _ => j + 2 - (intOf s).toNat)
  case atStart => exact ⟨0, Nat.zero_le _, rfl, rfl, Below.refl _ _⟩
  case round =>
    obtain ⟨i, hi, rfl, rfl, hbw⟩ := hrel
    have hL3 := hL2.below hbw
    have row3 := (hbw.block _ (heap_lt row2)).trans row2
    have hb3 := hb2.trans (hbw.mono hb2.size)
    obtain ⟨c2, hc2, hc2M, hc0⟩ := hL3.slots
    obtain ⟨p, hp⟩ : ∃ p, Tab.place k c i = p := ⟨_, rfl⟩
    have hpc : p < c := by rw [← hp]; exact Tab.place_lt k (by omega) i
    have hCm := hL3.rows.cells p hpc
    have hkey := hL3.rows.key p hpc
    have hst := hL3.inv.sts p hpc
    have hnext := and_pow (p + 1) c (by omega) hL3.pow hcM
    have hplace : (p + 1) % c = Tab.place k c (i + 1) := by rw [Tab.place_next, hp]
    rw [hplace, show (((p + 1 : Nat)) : Int) = (p : Int) + 1 by omega] at hnext
    have hjc := hj.1
    have h0C := slotC_state (S p)
    have hlC := length_slotC hkey
    have hkC := slotC_key hkey
    have hoC : (slotC (S p)).toArray.all (·.oneCell') = true := all_oneCell_toArray (one_slotC (S p))
    have hiC : (Try.prog.info? 93).map (·.size) = some (slotC (S p)).length := by rw [hlC]; kernel_rfl
    have hvC : (Try.prog.info? 93).map (·.size) = some (slotC (S p)).toArray.size := by rw [List.size_toArray]; exact hiC
    have hzC : Z.size = (slotC (S p)).toArray.size := HZ.out.trans (by rw [List.size_toArray]; exact hlC.symm)
    have hn := heap_alloc_new wr (.cells Z 93)
    obtain ⟨m9, n9⟩ := made_row wr 93 Z (slotC (S p)).toArray
    have row9 := (n9.block _ (heap_lt row3)).trans row3
    have hb9 := hbw.trans (n9.mono hbw.size)
    have hc9 : ((wr.alloc (.cells Z 93)).setRow wr.heap.size (slotC (S p)).toArray).cell? ⟨h, 0, none⟩ = some (.slice (some ⟨b, 0, none⟩) c c2) := (Keeps.below n9) _ _ hc0
    have r9 := rangeAt_row m9
    rw [List.toList_toArray] at r9
    have f0 := rangeAt_cell r9 h0C
    have fk := rangeAt_part r9 1 32
    rw [hkC] at fk
    rw [show (0 : Nat) + 0 = 0 from rfl] at f0
    rw [show (0 : Nat) + 1 = 1 from rfl] at fk
    have heq := HEQ (S p).key hkey
    have hiM : (Try.prog.info? 23).map (·.size) = some ((S p).key.map U8).length := by rw [List.length_map, hkey]; kernel_rfl
    have hse : Tab.stop S k p ↔ (S p).st = 0 ∨ (S p).st = 1 ∧ (S p).key = k := Iff.rfl
    have hlast := hj.2.2
    have hother := hj.2.1
    have HLK := Lib.hid hL2
    have HBW := Lib.hid hbw
    have HB3 := Lib.hid hb3
    have HB9 := Lib.hid hb9
    have HN9 := Lib.hid n9
    have HST : (i = j ∧ ((S p).st = 0 ∧ R = false ∨ (S p).st = 1 ∧ R = true ∧ ((S p).key == k) = true)) ∨ (i < j ∧ ((S p).st = 2 ∨ (S p).st = 1 ∧ ((S p).key == k) = false)) := by
      by_cases hij : i = j
      · refine .inl ⟨hij, ?_⟩
        subst hij
        rw [hp] at hlast
        have hR := HR.out
        rw [hp] at hR
        rcases hse.1 hlast with e | e
        · exact .inl ⟨e, by rw [← hR, e]; rfl⟩
        · exact .inr ⟨e.1, by rw [← hR, e.1]; rfl, by simpa using e.2⟩
      · have hlt : i < j := by omega
        refine .inr ⟨hlt, ?_⟩
        have hns := hother i hlt
        rw [hp, hse] at hns
        have h0 : (S p).st ≠ 0 := fun e => hns (.inl e)
        have e3 : (S p).st = 1 ∨ (S p).st = 2 := by omega
        rcases e3 with e | e
        · exact .inr ⟨e, by simpa using fun e2 => hns (.inr ⟨e, e2⟩)⟩
        · exact .inl e
    have HP := Lib.hid hp
    have HJ := Lib.hid hj
    clear hL2 hL3 hbw hb3 hb9 n9 hse hlast hother h0C hkC hkey hst hlC m9 r9 hp hj row2 row3 hb2 hplace
    generalize slotC (S p) = C at *
    generalize ((S p).key == k) = q at *
    generalize (S p).key.map U8 = M at *
    generalize (S p).st = st at *
    rcases HST with ⟨rfl, ⟨rfl, rfl⟩ | ⟨rfl, rfl, rfl⟩⟩ | ⟨hlt, rfl | ⟨rfl, rfl⟩⟩
    · rw [HP.out]
      go_wp2_with (first
        | (with_reducible refine at_load 93 ?_; refine wpList_load_mid rfl 93 _ rfl b (p * 34) rfl C _ hCm Try.underlying93 rfl hiC ?_)
        | (with_reducible refine at_store 93 ?_; refine wpList_store_row rfl 93 _ _ rfl wr.heap.size C.toArray rfl rfl _ Z hn hvC hzC hoC ?_)
        | (with_reducible refine at_load 23 ?_; first
          | refine wpList_load_mid_g rfl 23 _ rfl wr.heap.size 1 rfl M _ fk Try.underlying23 rfl hiM ?_
          | refine wpList_load_row_g rfl 23 _ rfl w.heap.size rfl _ K _ _ row9 Try.underlying23 rfl hik ?_))
      go_quiet (fail)
      go_wp2
      go_ret3
      exact ⟨by rw [HP.out]; rfl, below_drewN (HB3.out.trans (HN9.out.mono HB3.out.size)) _⟩
    · rw [HP.out]
      go_wp2_with (first
        | (with_reducible refine at_load 93 ?_; refine wpList_load_mid rfl 93 _ rfl b (p * 34) rfl C _ hCm Try.underlying93 rfl hiC ?_)
        | (with_reducible refine at_store 93 ?_; refine wpList_store_row rfl 93 _ _ rfl wr.heap.size C.toArray rfl rfl _ Z hn hvC hzC hoC ?_)
        | (with_reducible refine at_load 23 ?_; first
          | refine wpList_load_mid_g rfl 23 _ rfl wr.heap.size 1 rfl M _ fk Try.underlying23 rfl hiM ?_
          | refine wpList_load_row_g rfl 23 _ rfl w.heap.size rfl _ K _ _ row9 Try.underlying23 rfl hik ?_))
      go_quiet (fail)
      go_wp2
      go_ret3
      exact ⟨by rw [HP.out]; rfl, below_drewN (HB3.out.trans (HN9.out.mono HB3.out.size)) _⟩
    · rw [HP.out]
      go_wp2_with (first
        | (with_reducible refine at_load 93 ?_; refine wpList_load_mid rfl 93 _ rfl b (p * 34) rfl C _ hCm Try.underlying93 rfl hiC ?_)
        | (with_reducible refine at_store 93 ?_; refine wpList_store_row rfl 93 _ _ rfl wr.heap.size C.toArray rfl rfl _ Z hn hvC hzC hoC ?_)
        | (with_reducible refine at_load 23 ?_; first
          | refine wpList_load_mid_g rfl 23 _ rfl wr.heap.size 1 rfl M _ fk Try.underlying23 rfl hiM ?_
          | refine wpList_load_row_g rfl 23 _ rfl w.heap.size rfl _ K _ _ row9 Try.underlying23 rfl hik ?_))
      go_roundw
      case rel => exact ⟨i + 1, by omega, rfl, by go_num, HB9.out⟩
      case measure => simp [intOf]; omega
    · rw [HP.out]
      go_wp2_with (first
        | (with_reducible refine at_load 93 ?_; refine wpList_load_mid rfl 93 _ rfl b (p * 34) rfl C _ hCm Try.underlying93 rfl hiC ?_)
        | (with_reducible refine at_store 93 ?_; refine wpList_store_row rfl 93 _ _ rfl wr.heap.size C.toArray rfl rfl _ Z hn hvC hzC hoC ?_)
        | (with_reducible refine at_load 23 ?_; first
          | refine wpList_load_mid_g rfl 23 _ rfl wr.heap.size 1 rfl M _ fk Try.underlying23 rfl hiM ?_
          | refine wpList_load_row_g rfl 23 _ rfl w.heap.size rfl _ K _ _ row9 Try.underlying23 rfl hik ?_))
      go_roundw
      case rel => exact ⟨i + 1, by omega, rfl, by go_num, HB9.out⟩
      case measure => simp [intOf]; omega
end Go.Proofs.Ytahmnpbfjfllmaa
