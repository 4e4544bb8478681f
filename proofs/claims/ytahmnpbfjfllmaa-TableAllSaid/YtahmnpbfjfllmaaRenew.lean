/- A table made anew (values: numbers). -/
import Derived.Test.YtahmnpbfjfllmaaTNew
import Derived.Test.YtahmnpbfjfllmaaD
import Derived.Deep.DeepMust
namespace Go.Proofs.Ytahmnpbfjfllmaa
open Go Go.RowKit

theorem HeadAt.set0 {w : World} {h b c n g : Nat} (k : HeadAt w h b c n g) (b' c' : Nat) (hm : c' ≤ 1048576) : HeadAt (w.setCell ⟨h, 0, none⟩ (.slice (some ⟨b', 0, none⟩) c' c')) h b' c' n g := by
  obtain ⟨cc, h1, h2, k⟩ := k
  refine ⟨c', Nat.le_refl _, by omega, ?_⟩
  rw [heap_setCell_same w h 0 _ _ _ k]; rfl
theorem HeadAt.set1 {w : World} {h b c n g : Nat} (k : HeadAt w h b c n g) (n' : Nat) : HeadAt (w.setCell ⟨h, 1, none⟩ (.int .i64 n')) h b c n' g := by
  obtain ⟨cc, h1, h2, k⟩ := k
  refine ⟨cc, h1, h2, ?_⟩
  rw [heap_setCell_same w h 1 _ _ _ k]; rfl
theorem HeadAt.set2 {w : World} {h b c n g : Nat} (k : HeadAt w h b c n g) (g' : Nat) : HeadAt (w.setCell ⟨h, 2, none⟩ (.int .i64 g')) h b c n g' := by
  obtain ⟨cc, h1, h2, k⟩ := k
  refine ⟨cc, h1, h2, ?_⟩
  rw [heap_setCell_same w h 2 _ _ _ k]; rfl
theorem HeadAt.c0 {w : World} {h b c n g : Nat} (k : HeadAt w h b c n g) : ∃ cc, c ≤ cc ∧ cc ≤ 9223372036854775807 ∧ w.cell? ⟨h, 0, none⟩ = some (.slice (some ⟨b, 0, none⟩) c cc) := by
  obtain ⟨cc, h1, h2, k⟩ := k
  refine ⟨cc, h1, h2, ?_⟩
  rw [cell_of_row _ _ _ _ _ _ k]; rfl
theorem HeadAt.c1 {w : World} {h b c n g : Nat} (k : HeadAt w h b c n g) : w.cell? ⟨h, 1, none⟩ = some (.int .i64 n) := by
  obtain ⟨cc, h1, h2, k⟩ := k
  rw [cell_of_row _ _ _ _ _ _ k]; rfl
theorem HeadAt.c2 {w : World} {h b c n g : Nat} (k : HeadAt w h b c n g) : w.cell? ⟨h, 2, none⟩ = some (.int .i64 g) := by
  obtain ⟨cc, h1, h2, k⟩ := k
  rw [cell_of_row _ _ _ _ _ _ k]; rfl
theorem HeadAt.thawed {w : World} {h b c n g : Nat} (k : HeadAt w h b c n g) (o : Nat) : w.frozen? ⟨h, o, none⟩ = false := by
  obtain ⟨cc, h1, h2, k⟩ := k
  exact frozen_of_row w h o _ _ k
theorem HeadAt.touch {F : Nat → Prop} {w w' : World} {h b c n g : Nat} (k : HeadAt w h b c n g) (t : Touch F w w') (h1 : ¬ F h) : HeadAt w' h b c n g := k.imp fun _ q => ⟨q.1, q.2.1, (t.block h (heap_lt q.2.2) h1).trans q.2.2⟩
/-- How many slots a table has that is made anew. -/
def SizeRel (N : Nat) (w : World) (x : Value) (wr : World) : Prop := ∃ c : Nat, x = .int .i64 c ∧ (∃ m, c = 2 ^ m) ∧ 8 ≤ c ∧ (c = 8 ∨ c < 4 * N) ∧ w = wr
def RenewRel (w : World) (S : Nat → SlotI) (h _b c b' c' n : Nat) (x : Value) (wr : World) : Prop :=
  ∃ (i : Nat) (T : Nat → SlotI), i ≤ c ∧ x = .int .i64 i ∧ HeadAt wr h b' c' n 0 ∧ RowsOf wr b' c' T ∧ Tab.Part S i T c' ∧ Touch (fun y => y = h) w wr
/-- What stands behind a renewal. -/
def Renewed (w : World) (S : Nat → SlotI) (h c n N : Nat) (e : Ending) (w' : World) : Prop :=
  e = .returned (.tuple #[]) ∧ ∃ b' c' T, HeadAt w' h b' c' n 0 ∧ Look w' h b' c' T ∧ Tab.Part S c T c' ∧ 2 * N ≤ c' ∧ w.heap.size ≤ b' ∧ Touch (fun y => y = h) w w' ∧ Tab.Sized N c'
set_option maxHeartbeats 2000000 in
theorem renew_any (w : World) (h b c n g : Nat) (S : Nat → SlotI) (hH : HeadAt w h b c n g) (hL : Look w h b c S) (N : Nat) (hN : Tab.fulls S c ≤ N) (hN2 : N ≤ 100000) :
    Calls Try.prog 50 #[.pointer (some ⟨h, 0, none⟩), .int .i64 N] w (Renewed w S h c n N) := by
  obtain ⟨c1, hc1, hc1M, hc0⟩ := hH.c0
  have hth := hH.thawed
  have hci : c ≤ 1048576 := hL.big.2
  obtain ⟨i0, hi0, hi1, hi2, hi3⟩ := info_parts slot_info
  have HI3 := Lib.hid hi3
  clear hi3
  go_enter Try.func50, Try.ntmps50
  go_wp2
  go_loopw [4] (fun x wr => SizeRel N w x wr) (fun x _ => 4 * N + 16 - (intOf x).toNat)
  case atStart => exact ⟨8, rfl, ⟨3, rfl⟩, by omega, .inl rfl, rfl⟩
  case round =>
    obtain ⟨c', rfl, hpow, h8, hlt, rfl⟩ := hrel
    by_cases hmore : c' < 2 * N
    · have hd : (c' : Int) < 2 * (N : Int) := by omega
      go_wp2
      go_roundw
      case rel => 
        obtain ⟨m, hm⟩ := hpow
        exact ⟨c' * 2, by go_num, ⟨m + 1, by rw [hm, Nat.pow_succ]⟩, by omega, .inr (by omega), rfl⟩
      case measure => simp [intOf]; omega
    · have hd : ¬ (c' : Int) < 2 * (N : Int) := by omega
      have hc2 : c' ≤ 1048576 := by omega
      go_wp2_with (at_make; go_must (refine wpList_make_full w rfl _ _ _ rfl w.heap.size 93 i0 (.agg (slotC zeroSlot).toArray) 34 Try.underlying73 hi0 hi1 hi2 .i64 .i64 c' c' c' rfl rfl rfl rfl (by rw [HI3.out]; omega) (by unfold maxLen; omega) (Nat.le_refl _) ?_); intro w2 hr2 hg2; have t2 : Touch (fun _ => False) w w2 := Touch.of_grown hg2 (fun k hk => by cases hk); have hH2 := hH.touch t2 id; have c02 : w2.cell? ⟨h, 0, none⟩ = some (.slice (some ⟨b, 0, none⟩) c c1) := t2.cell hc0 id; have c22 := hH2.c2; have th2 := hH2.thawed)
      have hhl : h < w.heap.size := hH.lt
      have H5 := (hH2.set0 w.heap.size c' hc2).set2 0
      have rows2 := rows_made hr2
      have t5 : Touch (fun y => y = h) w2 ((w2.setCell ⟨h, 0, none⟩ (.slice (some ⟨w.heap.size, 0, none⟩) c' c')).setCell ⟨h, 2, none⟩ (.int .i64 ((0 : Nat) : Int))) := (Touch.set (F := fun y => y = h) _ h 0 _ rfl).trans (Touch.set (F := fun y => y = h) _ h 2 _ rfl)
      have rows5 := rows2.touch t5 (by omega)
      have T5 : Touch (fun y => y = h) w ((w2.setCell ⟨h, 0, none⟩ (.slice (some ⟨w.heap.size, 0, none⟩) c' c')).setCell ⟨h, 2, none⟩ (.int .i64 ((0 : Nat) : Int))) := (t2.mono fun _ e => e.elim).trans t5
      rw [show (((0 : Nat)) : Int) = 0 from rfl] at H5 rows5 T5
      clear t5 rows2 hr2 hg2 t2 hH2 c02 c22 th2 hc0 hth hH hd
      obtain ⟨Z, hz, sZ⟩ : ∃ Z : Array Value, (∀ w, Sem.run Try.prog (zeroValue 93) w = .ok (.agg Z) w) ∧ Z.size = 34 := ⟨_, zero_slot, by rw [List.size_toArray]; exact length_slotC rfl⟩
      have HZ := Lib.hid sZ
      clear sZ hi1 hi2 hi0
      generalize (w2.setCell ⟨h, 0, none⟩ (.slice (some ⟨w.heap.size, 0, none⟩) c' c')).setCell ⟨h, 2, none⟩ (.int .i64 0) = w5 at *
      obtain ⟨B, hB⟩ : ∃ B, w.heap.size = B := ⟨_, rfl⟩
      rw [hB] at H5 rows5
      have HB := Lib.hid hB
      have hhB : h < B := by omega
      clear hB hhl
      go_loopw [31] (fun x wr => RenewRel w S h b c B c' n x wr) (fun x _ => c - (intOf x).toNat)
      case atStart => exact ⟨0, fun _ => zeroSlot, Nat.zero_le _, rfl, H5, rows5, Tab.part_start S zeroSlot rfl (by omega), T5⟩
      case round =>
        clear H5 rows5 T5
        obtain ⟨i, T, hi, rfl, hHr, hRr, hP, hT⟩ := hrel
        have hRo := hL.rows.touch hT hL.ne.symm
        by_cases hlt : i < c
        · have hCm := hRo.cells i hlt
          have hkey := hRo.key i hlt
          have h0C := slotC_state (S i)
          have hlC := length_slotC hkey
          have hkC := slotC_key hkey
          have hoC : (slotC (S i)).toArray.all (·.oneCell') = true := all_oneCell_toArray (one_slotC (S i))
          have hiC : (Try.prog.info? 93).map (·.size) = some (slotC (S i)).length := by rw [hlC]; kernel_rfl
          have hvC : (Try.prog.info? 93).map (·.size) = some (slotC (S i)).toArray.size := by rw [List.size_toArray]; exact hiC
          have hzC : Z.size = (slotC (S i)).toArray.size := HZ.out.trans (by rw [List.size_toArray]; exact hlC.symm)
          have hn := heap_alloc_new wr (.cells Z 93)
          obtain ⟨m9, n9⟩ := made_row wr 93 Z (slotC (S i)).toArray
          have r9 := rangeAt_row m9
          rw [List.toList_toArray] at r9
          have f0 := rangeAt_cell r9 h0C
          have fk := rangeAt_part r9 1 32
          rw [hkC] at fk
          rw [show (0 : Nat) + 0 = 0 from rfl] at f0
          rw [show (0 : Nat) + 1 = 1 from rfl] at fk
          have hiM : (Try.prog.info? 23).map (·.size) = some ((S i).key.map U8).length := by rw [List.length_map, hkey]; kernel_rfl
          have tb9 : Touch (fun y => y = h) wr ((wr.alloc (.cells Z 93)).setRow wr.heap.size (slotC (S i)).toArray) := .of_below n9
          have tn9 : Touch (fun _ => False) wr ((wr.alloc (.cells Z 93)).setRow wr.heap.size (slotC (S i)).toArray) := .of_below n9
          have hH9 := hHr.touch tn9 id
          have hR9 := hRr.touch tn9 id
          have hT9 := hT.trans tb9
          by_cases hst : (S i).st = 1
          · obtain ⟨j, hj⟩ := Tab.found_of_room hP.inv.room (S i).key
            have FI := find_any _ h B c' T ⟨hH9.c0, hR9, by omega, hP.inv, hpow, ⟨h8, hc2⟩⟩ (S i).key hkey j hj
            have hpq := Tab.place_lt (S i).key (c := c') (by omega) j
            have hmono : Tab.fulls S c < c' := by omega
            have HP2 := Lib.hid (hP.take hL.inv hlt hst hj hmono)
            have HKEY := Lib.hid hkey
            have hlz : (slotC (S i)).length = 34 := hlC
            have HLC := Lib.hid hlC
            have HH9 := Lib.hid hH9
            have HR9 := Lib.hid hR9
            have HT9 := Lib.hid hT9
            have HST := Lib.hid hst
            rw [hst] at f0
            clear hHr hRr hP hT hRo h0C hkC hlC r9 tb9 tn9 hH9 hR9 hT9 n9 hst hj hmono hkey hlz
            generalize hSI : S i = SI at *
            have HSI := Lib.hid hSI
            clear hSI
            generalize Tab.place SI.key c' j = q at *
            generalize hC : slotC SI = C at *
            have HC := Lib.hid hC
            clear hC
            go_wp2_with (first
              | (with_reducible refine at_load 93 ?_; go_must (refine wpList_load_mid rfl 93 _ rfl b (i * 34) rfl C _ hCm Try.underlying93 rfl hiC ?_))
              | (with_reducible refine at_store 93 ?_; go_must (refine wpList_store_row rfl 93 _ _ rfl wr.heap.size C.toArray rfl rfl _ Z hn hvC hzC hoC ?_))
              | (with_reducible refine at_load 23 ?_; go_must (refine wpList_load_mid rfl 23 _ rfl wr.heap.size 1 rfl (SI.key.map U8) _ fk Try.underlying23 rfl hiM ?_)))
            refine FI.mono ?_
            rintro e w10 ⟨rfl, hb10⟩
            have t10 : Touch (fun _ => False) ((wr.alloc (.cells Z 93)).setRow wr.heap.size C.toArray) w10 := .of_below hb10
            have HH10 := Lib.hid (HH9.out.touch t10 id)
            have HR10 := Lib.hid (HR9.out.touch t10 id)
            have HT10 := Lib.hid (HT9.out.trans (t10.mono fun _ e => e.elim))
            have m10 := (t10.block _ (heap_lt m9) id).trans m9
            obtain ⟨c9, hc9, hc9M, hc10⟩ := HH10.out.c0
            clear FI hb10 t10 HH9 HR9 HT9 fk f0 m9
            go_wp2_with fail
            refine wp_region_mid 7 (by kernel_rfl) (by kernel_rfl) rfl ?_
            simp only [List.take_succ_cons, List.take_zero, List.drop_zero]
            repeat (first
              | (go_big_quiet_want; refine quiet_row_of (fun w' e => (show w'.heap[wr.heap.size]? = some (.cells C.toArray 93 (0, 0)) from by obtain ⟨_, rfl⟩ := e; exact m10)) Try.underlying93 rfl hvC rfl rfl ?_; simp only [Act.put, List.setIfInBounds_toArray, List.set_cons_succ, List.set_cons_zero]; go_big_quiet_on)
              | go_big_quiet_step (fail)
              | quiet_step (fail))
            refine wpQuiet_nil ?_
            intro jj
            have rj := HR10.out.touch ((Touch.refl (fun _ => False) w10).drewN jj) id
            have TH : (w10.drewN jj).there B (q * 34) C.toArray.size := by rw [List.size_toArray, HLC.out]; exact rj.there hpq
            have PUT := rj.put hpq SI (by rw [← HSI.out]; exact hL.rows.key i hlt)
            rw [HC.out] at PUT
            have HPUT := Lib.hid PUT
            have TP : Touch (fun y => y = B) (w10.drewN jj) ((w10.drewN jj).setCells B (q * 34) C) := Touch.setCells (F := fun y => y = B) B rfl _ _ _
            have HTP := Lib.hid TP
            clear rj PUT TP m10 hc10
            go_wp2_with (with_reducible refine at_store 93 ?_; go_must (refine wpList_store_mid rfl 93 _ _ rfl B (q * 34) C.toArray rfl rfl TH hvC hoC ?_))
            clear TH
            refine midPost_normal (rest_quiet (by kernel_rfl) ?_)
            simp only [List.drop_succ_cons, List.drop_nil]
            refine wpQuiet_nil ?_
            intro j2
            go_wp2
            go_roundw
            case rel =>
              have tj : Touch (fun _ => False) w10 (w10.drewN jj) := (Touch.refl _ _).drewN jj
              have tk : Touch (fun _ => False) ((w10.drewN jj).setCells B (q * 34) C) (((w10.drewN jj).setCells B (q * 34) C).drewN j2) := (Touch.refl _ _).drewN j2
              refine ⟨i + 1, Tab.put T q SI, by omega, by go_num, ((HH10.out.touch tj id).touch HTP.out (show ¬ (h = B) by omega)).touch tk id, HPUT.out.touch tk id, HP2.out, ?_⟩
              have HBo := HB.out
              exact (HT10.out.trans (tj.mono fun _ e => e.elim)).trans' (HTP.out.trans (tk.mono fun _ e => e.elim)) fun y e => .inr (by have e2 : y = B := e; omega)
            case measure => simp [intOf]; omega
          · have hne : (((S i).st : Int) == 1) = false := by simp; omega
            have HP2 := Lib.hid (hP.skip hst)
            have HH9 := Lib.hid hH9
            have HR9 := Lib.hid hR9
            have HT9 := Lib.hid hT9
            clear hHr hRr hP hT hRo h0C hkC hlC r9 fk tb9 tn9 hH9 hR9 hT9 n9 m9 hiM hst
            generalize slotC (S i) = C at *
            generalize (S i).st = st at *
            go_wp2_with (first
              | (with_reducible refine at_load 93 ?_; refine wpList_load_mid rfl 93 _ rfl b (i * 34) rfl C _ hCm Try.underlying93 rfl hiC ?_)
              | (with_reducible refine at_store 93 ?_; refine wpList_store_row rfl 93 _ _ rfl wr.heap.size C.toArray rfl rfl _ Z hn hvC hzC hoC ?_))
            go_roundw
            case rel => exact ⟨i + 1, T, by omega, by go_num, HH9.out, HR9.out, HP2.out, HT9.out⟩
            case measure => simp [intOf]; omega
        · obtain rfl : i = c := by omega
          go_wp2
          refine bodyPost_end (results_none rfl _ _ _) rfl ?_
          refine ⟨rfl, B, c', T, hHr, ⟨hHr.c0, hRr, by omega, hP.inv, hpow, ⟨h8, hc2⟩⟩, hP, by omega, by have := HB.out; omega, hT, hpow, h8, by omega, by omega⟩
end Go.Proofs.Ytahmnpbfjfllmaa
