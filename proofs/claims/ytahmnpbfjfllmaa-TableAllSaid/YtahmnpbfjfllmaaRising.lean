/- 'rising': all full slots by their keys (values: numbers). -/
import Derived.Test.YtahmnpbfjfllmaaRise
namespace Go.Proofs.Ytahmnpbfjfllmaa
open Go Go.RowKit

def RiseRel (w : World) (S : Nat → SlotI) (c : Nat) (v x : Value) (wr : World) : Prop :=
  ∃ i : Nat, i ≤ c ∧ x = .int .i64 i ∧ OwnsC slotC 34 wr w.heap.size 93 v (fullL S i) ∧ Below w.heap.size w wr
def RisingPost (w : World) (S : Nat → SlotI) (c : Nat) (e : Ending) (w' : World) : Prop :=
  ∃ a cap L, e = .returned (.slice a (L : List SlotI).length cap) ∧ RiseOf S c L ∧ RowsC slotC 34 w' a cap L ∧ Below w.heap.size w w' ∧ ∀ ad, a = some ad → w.heap.size ≤ ad.block ∧ ad.block < w'.heap.size
theorem slot_zsize : (Value.agg (slotC zeroSlot).toArray).cells.size = 34 := by
  show (slotC zeroSlot).toArray.size = 34
  rw [List.size_toArray]; exact length_slotC rfl
theorem fullL_len (S : Nat → SlotI) (c : Nat) : (fullL S c).length ≤ c := by rw [len_fullL]; exact Tab.cnt_le _ _
set_option maxHeartbeats 2000000 in
theorem rising_any {w : World} {h b c n g : Nat} {S : Nat → SlotI} (t : TabAt w h b c S n g) :
    Calls Try.prog 53 #[.pointer (some ⟨h, 0, none⟩)] w (RisingPost w S c) := by
  have OK := t.ok
  obtain ⟨cc, hcc, hccM, hx0⟩ := t.look.slots
  have hcM := t.look.big.2
  have HRO := Lib.hid t.look.rows
  have HINV := Lib.hid t.look.inv
  clear t
  obtain ⟨Z, hz, sZ⟩ : ∃ Z : Array Value, (∀ w, Sem.run Try.prog (zeroValue 93) w = .ok (.agg Z) w) ∧ Z.size = 34 := ⟨_, zero_slot, by rw [List.size_toArray]; exact length_slotC rfl⟩
  have HZ := Lib.hid sZ
  clear sZ
  go_enter Try.func53, Try.ntmps53
  go_wp2_with fail
  refine OK.mono ?_
  rintro e w' ⟨rfl, rfl⟩
  go_wp2_with fail
  go_loopw [3, 14] (fun v x wr => RiseRel w S c v x wr) (fun _ x _ => c - (intOf x).toNat)
  case atStart => exact ⟨0, Nat.zero_le _, rfl, ownsC_nil _ _ _, Below.refl _ _⟩
  case round =>
    clear hx0 OK
    obtain ⟨i, hi, rfl, HO, hbr⟩ := hrel
    by_cases hlt : i < c
    · have hRo := HRO.out.touch (F := fun _ => False) (.of_below hbr) id
      have hCm := hRo.cells i hlt
      have hkey := hRo.key i hlt
      have hlC := length_slotC hkey
      have hoC : (slotC (S i)).toArray.all (·.oneCell') = true := all_oneCell_toArray (one_slotC (S i))
      have hiC : (Try.prog.info? 93).map (·.size) = some (slotC (S i)).length := by rw [hlC]; kernel_rfl
      have hvC : (Try.prog.info? 93).map (·.size) = some (slotC (S i)).toArray.size := by rw [List.size_toArray]; exact hiC
      have hzC : Z.size = (slotC (S i)).toArray.size := HZ.out.trans (by rw [List.size_toArray]; exact hlC.symm)
      have hn := heap_alloc_new wr (.cells Z 93)
      obtain ⟨m9, n9⟩ := made_row wr 93 Z (slotC (S i)).toArray
      have r9 := rangeAt_row m9
      rw [List.toList_toArray] at r9
      have f0 := rangeAt_cell r9 (slotC_state (S i))
      rw [show (0 : Nat) + 0 = 0 from rfl] at f0
      obtain ⟨av, cv, rfl, _, _⟩ := HO.form
      have hb9 := hbr.trans (n9.mono hbr.size)
      have HO9 := HO.below n9
      have hfl := fullL_len S i
      have hf1 : fullL S (i + 1) = fullL S i ++ (if (S i).st = 1 then [S i] else []) := rfl
      by_cases hst : (S i).st = 1
      · rw [if_pos hst] at hf1
        rw [hst] at f0
        have HF1 := Lib.hid hf1
        have HB9 := Lib.hid hb9
        have HO9 := Lib.hid HO9
        have HLC := Lib.hid hlC
        have HONE := Lib.hid (one_slotC (S i))
        clear hRo HO hbr r9 n9 hkey hf1 hst hlC hb9
        generalize S i = si at *
        generalize hFL : fullL S i = FL at *
        generalize hC : slotC si = C at *
        have HC := Lib.hid hC
        have HFL := Lib.hid hFL
        clear hC hFL
        go_wp2_with (first
          | (with_reducible refine at_load 93 ?_; (first
              | (refine wpList_load_mid rfl 93 _ rfl b (i * 34) rfl C _ hCm Try.underlying93 rfl hiC ?_)
              | (refine wpList_load_row rfl 93 _ rfl wr.heap.size rfl _ C.toArray _ _ m9 Try.underlying93 rfl hvC ?_)))
          | (with_reducible refine at_store 93 ?_; go_must (refine wpList_store_row rfl 93 _ _ rfl wr.heap.size C.toArray rfl rfl _ Z hn hvC hzC hoC ?_))
          | (with_reducible refine at_slit 73 ?_; go_must (refine wpList_lit_append Try.underlying73 slot_info slot_zsize (by decide) (by decide) rfl _ rfl rfl _ _ rfl w.heap.size _ FL HO9.out si C HC.out rfl rfl rfl HONE.out HLC.out (by omega) (by decide) HB9.out.size ?_)))
        intro v5 w5 HO5 T5 hv5
        have HBF := Lib.hid (touch_own HB9.out (Nat.le_refl _) HO9.out T5)
        have HOF := Lib.hid HO5
        clear T5 hv5 HO5 m9 f0 hn hCm
        go_wp2
        go_roundw
        case rel => exact ⟨i + 1, by omega, by go_num, by rw [HF1.out]; exact HOF.out, HBF.out⟩
        case measure => simp [intOf]; omega
      · rw [if_neg hst, List.append_nil] at hf1
        have hne : (((S i).st : Int) == 1) = false := by simp; omega
        have HF1 := Lib.hid hf1
        have HB9 := Lib.hid hb9
        have HO9 := Lib.hid HO9
        clear hRo HO hbr r9 n9 hkey hf1 hst hlC hb9 m9
        generalize hFL : fullL S i = FL at *
        generalize slotC (S i) = C at *
        generalize (S i).st = st at *
        go_wp2_with (first
          | (with_reducible refine at_load 93 ?_; refine wpList_load_mid rfl 93 _ rfl b (i * 34) rfl C _ hCm Try.underlying93 rfl hiC ?_)
          | (with_reducible refine at_store 93 ?_; refine wpList_store_row rfl 93 _ _ rfl wr.heap.size C.toArray rfl rfl _ Z hn hvC hzC hoC ?_))
        go_roundw
        case rel => exact ⟨i + 1, by omega, by go_num, by rw [HF1.out]; exact HO9.out, HB9.out⟩
        case measure => simp [intOf]; omega
    · obtain rfl : i = c := by omega
      have hkeys : ∀ x ∈ fullL S i, x.key.length = 32 := fun x hx => by
        obtain ⟨p, hp, _, rfl⟩ := mem_fullL.1 hx
        exact HRO.out.key p hp
      have hfl := fullL_len S i
      obtain ⟨av, cv, rfl, hR, hown⟩ := HO.form
      rcases hown with ⟨hnil, rfl, rfl⟩ | ⟨gb, rfl, _, hBg, hgl, hfz⟩
      · have hS := AnyF.slices_SortFunc_none { Try.sortSlot with } none 0 (.func (.func 58) #[] #[]) wr
        change Calls Try.prog 57 _ _ _ at hS
        have hl0 : (fullL S i).length = 0 := by rw [hnil]; rfl
        have HN := Lib.hid hnil
        rw [hl0]
        clear HO hR hnil
        go_wp2_with fail
        refine hS.mono ?_
        rintro e w' ⟨rfl, rfl⟩
        go_wp2
        go_ret
        refine ⟨none, 0, [], rfl, rise_of HINV.out HRO.out.key (by rw [HN.out]) List.Pairwise.nil, rowsC_nil, hbr, fun ad e => (by cases e)⟩
      · have hrows : ∀ k (hk : k < (fullL S i).length), wr.rangeAt gb (0 + k * 34) (slotC (fullL S i)[k]) := by
          rcases hR.rows with e | ⟨b', off, e, hh⟩
          · intro k hk; rw [e] at hk; simp at hk
          · injection e with e; injection e with e1 e2; subst e1 e2; exact hh
        have hH := holds_rows hkeys hrows hfz
        have eg : ∀ args w, (callFunc 58 args).run Try.prog w = .ok (.enter 58 args) w := enters_of Try.func58 (by kernel_rfl) rfl
        have hS := AnyQ.slices_SortFunc Try.sortSlot 34 Try.isAgg93 Try.sizeOf93 ksC len_ksC one_ksC cmpK swoK 58 #[] gb 0 cv (kslots (fullL S i) hkeys) wr eg (fun _ _ _ _ x y => closure_any x y _) hH hgl (by rw [kslots_size]; omega)
        change Calls Try.prog 57 _ _ _ at hS
        have HSZ := Lib.hid (kslots_size _ hkeys)
        have HLI := Lib.hid (kslots_list _ hkeys)
        have HFIT := Lib.hid hR.fits
        have HROOM := Lib.hid hR.room
        have HHK := Lib.hid hH
        rw [HSZ.out] at hS
        have HFL := Lib.hid hfl
        clear HO hR hrows hH eg hfl
        generalize kslots (fullL S i) hkeys = d at *
        generalize hFL : (fullL S i).length = N at *
        have HNL := Lib.hid hFL
        clear hFL
        go_wp2_with fail
        refine hS.mono ?_
        rintro e w' ⟨rfl, d', m, os, hp, hs, rfl⟩
        have hd' : d'.size = N := hp.1.trans HSZ.out
        have HPL := Lib.hid (list_perm d d' (by rw [HSZ.out]; exact hp))
        have HSL := Lib.hid (list_sorted d' (by rw [hd']; exact hs))
        have hH2 : Sort.HoldsK ksC 34 (sortWorldK ksC 34 wr gb 0 m d' os) gb 0 d' := Sort.holdsK_grow ksC 34 _ _ _ _ _ (by rw [show (Sort.putRowK ksC 34 (Sort.ahead wr m) gb 0 d').heap.size = wr.heap.size from Sort.size_putRow _ _ _ _ _]; exact hgl) (Sort.holdsK_putRowK ksC 34 _ _ _ d d' (Sort.holdsK_ahead ksC 34 _ _ _ _ _ HHK.out) (hp.1))
        have hlen : (d'.toList.map (·.1)).length = N := by rw [List.length_map, Array.length_toList, hd']
        have hbf := hbr.trans (below_sortWorld wr gb m d' os w.heap.size hBg hbr.size)
        have HSZW := Lib.hid (below_sortWorld wr gb m d' os 0 (Nat.zero_le _) (Nat.zero_le _)).size
        generalize sortWorldK ksC 34 wr gb 0 m d' os = wf at *
        clear hS hp hs
        go_wp2
        go_ret
        refine ⟨some ⟨gb, 0, none⟩, cv, d'.toList.map (·.1), ret_slice hlen.symm, rise_of HINV.out HRO.out.key ?_ ?_, ⟨by rw [hlen]; exact HFIT.out, HROOM.out, .inr ⟨gb, 0, rfl, rows_holds hH2⟩⟩, hbf, fun ad e => by
          injection e with e
          rw [← e]
          exact ⟨hBg, Nat.lt_of_lt_of_le hgl HSZW.out⟩⟩
        · have := HPL.out.map (·.1)
          rw [HLI.out] at this
          exact this
        · rw [List.pairwise_map]; exact HSL.out.imp fun {x y} q => (show ¬ cmpK y x < 0 by omega)
end Go.Proofs.Ytahmnpbfjfllmaa
