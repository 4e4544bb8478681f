/- 'Keys': all keys, rising (values: numbers). -/
import Derived.Test.YtahmnpbfjfllmaaRising
namespace Go.Proofs.Ytahmnpbfjfllmaa
open Go Go.RowKit

def keyC (k : List (BitVec 8)) : List Value := k.map U8
theorem id_info : (Try.prog.info? 23).map (fun i => (i.zero, i.size, i.bytes)) = some (some (.agg (keyC zeroKey).toArray), 32, 32) := by kernel_rfl
theorem id_zsize : (Value.agg (keyC zeroKey).toArray).cells.size = 32 := by
  show (keyC zeroKey).toArray.size = 32
  simp [keyC, zeroKey]
def KeysRel (w : World) (B : Nat) (L : List SlotI) (v x : Value) (wr : World) : Prop :=
  ∃ i : Nat, i ≤ L.length ∧ x = .int .i64 i ∧ OwnsC keyC 32 wr B 23 v ((L.map (·.key)).take i) ∧ Below w.heap.size w wr
def KeysPost (w : World) (S : Nat → SlotI) (c : Nat) (e : Ending) (w' : World) : Prop :=
  ∃ a cap L, e = .returned (.slice a (L : List SlotI).length cap) ∧ RiseOf S c L ∧ RowsC keyC 32 w' a cap (L.map (·.key)) ∧ Below w.heap.size w w' ∧ ∀ ad, a = some ad → w.heap.size ≤ ad.block ∧ ad.block < w'.heap.size
set_option maxHeartbeats 2000000 in
theorem keys_any {w : World} {h b c n g : Nat} {S : Nat → SlotI} (t : TabAt w h b c S n g) :
    Calls Try.prog 39 #[.pointer (some ⟨h, 0, none⟩)] w (KeysPost w S c) := by
  have RI := rising_any t
  have hcM := t.look.big.2
  clear t
  obtain ⟨Z, hz, sZ⟩ : ∃ Z : Array Value, (∀ w, Sem.run Try.prog (zeroValue 93) w = .ok (.agg Z) w) ∧ Z.size = 34 := ⟨_, zero_slot, by rw [List.size_toArray]; exact length_slotC rfl⟩
  have HZ := Lib.hid sZ
  clear sZ
  go_enter Try.func39, Try.ntmps39
  go_wp2_with fail
  refine RI.mono ?_
  rintro e w1 ⟨a, cap, L, rfl, hL, hR, hb1, _⟩
  have HL := Lib.hid hL
  have hlen : L.length ≤ 1048576 := by
    have := hL.len
    have := Tab.cnt_le (fun i => (S i).st == 1) c
    unfold Tab.fulls at *
    omega
  have HKEY := Lib.hid hL.key
  have hfit := hR.fits
  have hroom := hR.room
  have HR := Lib.hid hR
  clear RI hL hR
  go_wp2_with fail
  go_loopw [3, 9] (fun v x wr => KeysRel w1 w1.heap.size L v x wr) (fun _ x _ => L.length - (intOf x).toNat)
  case atStart => exact ⟨0, Nat.zero_le _, rfl, ownsC_nil _ _ _, Below.refl _ _⟩
  case round =>
    obtain ⟨i, hi, rfl, HO, hbr⟩ := hrel
    by_cases hlt : i < L.length
    · obtain ⟨b0, off, rfl, hrows⟩ := HR.out.rows.resolve_left (fun e => by rw [e] at hlt; simp at hlt)
      have hCm : wr.rangeAt b0 (off + i * 34) (slotC L[i]) := rangeAt_touch (F := fun _ => False) (.of_below hbr) (hrows i hlt) id
      have hkey := HKEY.out L[i] (List.getElem_mem hlt)
      have hlC := length_slotC hkey
      have hoC : (slotC L[i]).toArray.all (·.oneCell') = true := all_oneCell_toArray (one_slotC L[i])
      have hiC : (Try.prog.info? 93).map (·.size) = some (slotC L[i]).length := by rw [hlC]; kernel_rfl
      have hvC : (Try.prog.info? 93).map (·.size) = some (slotC L[i]).toArray.size := by rw [List.size_toArray]; exact hiC
      have hzC : Z.size = (slotC L[i]).toArray.size := HZ.out.trans (by rw [List.size_toArray]; exact hlC.symm)
      have hn := heap_alloc_new wr (.cells Z 93)
      obtain ⟨m9, n9⟩ := made_row wr 93 Z (slotC L[i]).toArray
      have r9 := rangeAt_row m9
      rw [List.toList_toArray] at r9
      have fk := rangeAt_part r9 1 32
      rw [slotC_key hkey] at fk
      rw [show (0 : Nat) + 1 = 1 from rfl] at fk
      have hiM : (Try.prog.info? 23).map (·.size) = some (L[i].key.map U8).length := by rw [List.length_map, hkey]; kernel_rfl
      obtain ⟨av, cv, rfl, _, _⟩ := HO.form
      have hb9 := hbr.trans (n9.mono hbr.size)
      have HO9 := HO.below n9
      have hf1 : (L.map (·.key)).take (i + 1) = (L.map (·.key)).take i ++ [L[i].key] := by
        rw [List.take_succ_eq_append_getElem (by rw [List.length_map]; exact hlt), List.getElem_map]
      have hfl : ((L.map (·.key)).take i).length ≤ 1048575 := by rw [List.length_take, List.length_map]; omega
      have HF1 := Lib.hid hf1
      have hkc : keyC L[i].key = L[i].key.map U8 := rfl
      have HB9 := Lib.hid hb9
      have HO9 := Lib.hid HO9
      have HKL := Lib.hid hkey
      clear HO hbr n9 hkey hf1 hb9 r9 hrows hlC
      generalize hFL : (L.map (·.key)).take i = FL at *
      have HFL := Lib.hid hFL
      clear hFL
      generalize L[i] = si at *
      generalize slotC si = C at *
      generalize hM : si.key.map U8 = M at *
      have HM := Lib.hid hM
      have HKC := Lib.hid hkc
      clear hkc
      clear hM
      have hones : ∀ u ∈ M, u.oneCell' = true := fun u hu => by
        rw [← HM.out] at hu
        obtain ⟨y, _, rfl⟩ := List.mem_map.1 hu
        rfl
      go_wp2_with (first
        | (with_reducible refine at_load 93 ?_; go_must (refine wpList_load_mid rfl 93 _ rfl b0 (off + i * 34) rfl C _ hCm Try.underlying93 rfl hiC ?_))
        | (with_reducible refine at_store 93 ?_; go_must (refine wpList_store_row rfl 93 _ _ rfl wr.heap.size C.toArray rfl rfl _ Z hn hvC hzC hoC ?_))
        | (with_reducible refine at_load 23 ?_; go_must (refine wpList_load_mid rfl 23 _ rfl wr.heap.size 1 rfl M _ fk Try.underlying23 rfl hiM ?_))
        | (with_reducible refine at_slit 27 ?_; go_must (refine wpList_lit_append Try.underlying27 id_info id_zsize (by decide) (by decide) rfl _ rfl rfl _ _ rfl w1.heap.size _ FL HO9.out si.key M HKC.out rfl rfl rfl hones (by rw [← HM.out, List.length_map]; exact HKL.out) (by omega) (by decide) HB9.out.size ?_)))
      intro v5 w5 HO5 T5 hv5
      have HBF := Lib.hid (touch_own HB9.out (Nat.le_refl _) HO9.out T5)
      have HOF := Lib.hid HO5
      clear T5 hv5 HO5 m9 fk hn hCm
      go_wp2
      go_roundw
      case rel => exact ⟨i + 1, by omega, by go_num, by rw [HF1.out]; exact HOF.out, HBF.out⟩
      case measure => simp [intOf]; omega
    · obtain rfl : i = L.length := by omega
      rw [List.take_of_length_le (by rw [List.length_map]; exact Nat.le_refl _)] at HO
      obtain ⟨av, cv, rfl, hR, hown⟩ := HO.form
      have hN : (L.map (·.key)).length = L.length := List.length_map ..
      rw [hN]
      have HRR := Lib.hid hR
      have HOWN := Lib.hid hown
      clear HO hR hown hN
      go_wp2
      go_ret
      refine ⟨av, cv, L, rfl, HL.out, HRR.out, hb1.trans (hbr.mono hb1.size), fun ad e => ?_⟩
      rcases HOWN.out with ⟨_, e2, _⟩ | ⟨gb, e2, _, q1, q2, _⟩
      · rw [e2] at e; cases e
      · rw [e2] at e; injection e with e; subst e
        exact ⟨Nat.le_trans hb1.size q1, q2⟩
end Go.Proofs.Ytahmnpbfjfllmaa
