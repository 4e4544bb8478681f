/- All (values: numbers): what a loop over it goes through. -/
import Derived.Test.YtahmnpbfjfllmaaRising
import Derived.Test.YtahmnpbfjfllmaaRF
namespace Go.Proofs.Ytahmnpbfjfllmaa
open Go Go.RowKit
attribute [local go_sem] Oper.semAt_some

theorem rise_one {S : Nat → SlotI} {c : Nat} {L M : List SlotI} (h : RiseOf S c L) (k : RiseOf S c M) : L = M :=
  rise_unique (fun s : SlotI => s.key) h.key k.key h.up k.up fun x => (h.mem x).trans (k.mem x).symm
theorem all_any (w : World) (p : Option Addr) : Calls Try.prog 49 #[.pointer p] w fun e w' => e = .returned (.func (.func 56) #[] #[.pointer (some ⟨w.heap.size, 0, none⟩)]) ∧ w' = w.alloc (.cells #[.pointer p] 48) := by
  go_enter Try.func49, Try.ntmps49
  go_wp2
  go_ret
  exact ⟨rfl, rfl⟩
def slotArgs (x : SlotI) : Array Value := #[.agg (x.key.map U8).toArray, .int .i64 x.val]
abbrev Of' (L : List SlotI) := { x : SlotI // x ∈ L }
def AllRel {L : List SlotI} (W : World) (a : Option Addr) (cap : Nat) (J : List (Of' L) → World → Prop) (i : Value) (wr : World) : Prop :=
  ∃ k : Nat, k ≤ L.length ∧ i = .int .i64 k ∧ J (L.attach.take k) wr ∧ RowsC slotC 34 wr a cap L ∧ W.heap.size ≤ wr.heap.size
theorem RowsC.butF {α : Type} {enc : α → List Value} {K : Nat} {w w' : World} {a : Option Addr} {cap : Nat} {l : List α} {F : Nat → Prop} (h : RowsC enc K w a cap l) (t : CellsBut F w w') (hn : ∀ ad, a = some ad → ¬ F ad.block) : RowsC enc K w' a cap l := by
  refine ⟨h.fits, h.room, ?_⟩
  rcases h.rows with e | ⟨b, off, e, hb⟩
  · exact .inl e
  · exact .inr ⟨b, off, e, fun i hi => t.range (hb i hi) (hn _ e)⟩
set_option maxHeartbeats 4000000 in
set_option maxRecDepth 40000 in
theorem all1_in (n : Nat) (hn : 1 ≤ n) (F : Nat → Prop) (l Bt h b c ng g : Nat) (S : Nat → SlotI) (L : List SlotI) (J Jx : List (Of' L) → World → Prop) (W : World) (hF : ∀ k, F k → k < W.heap.size)
    (hBt : W.cell? ⟨Bt, 0, none⟩ = some (.pointer (some ⟨h, 0, none⟩))) (t : TabAt W h b c S ng g) (hL : RiseOf S c L) (hab : AbidesFrom W.heap.size J)
    (hY : ∀ pre x W1, J pre W1 → pre.length < L.length → YieldAt Fence.wide (n - 1) Try.prog l (slotArgs x.1) W1 fun e W' =>
      (e = .returned (.bool true) ∧ J (pre ++ [x]) W' ∧ CellsBut F W1 W') ∨ (e = .returned (.bool false) ∧ Jx (pre ++ [x]) W'))
    (h0 : J [] W) :
    CallsIn Fence.wide n Try.prog 56 #[.func (.yield l) #[] #[], .pointer (some ⟨Bt, 0, none⟩)] W fun e W' => (∃ v, e = .returned v) ∧
      ((∃ ys, ys = L.attach ∧ J ys W') ∨ (∃ pre, pre <+: L.attach ∧ Jx pre W')) := by
  have RI := rising_any t
  have hcM := t.look.big.2
  clear t
  obtain ⟨Z, hz, sZ⟩ : ∃ Z : Array Value, (∀ w, Sem.run Try.prog (zeroValue 93) w = .ok (.agg Z) w) ∧ Z.size = 34 := ⟨_, zero_slot, by rw [List.size_toArray]; exact length_slotC rfl⟩
  have HZ := Lib.hid sZ
  have HAB := Lib.hid hab
  have HY := Lib.hid hY
  have HF := Lib.hid hF
  have H0 := Lib.hid h0
  have HL := Lib.hid hL
  clear sZ hab hY hF h0 hL
  refine callsIn_of_wp Try.func56 rfl trivial ?_ rfl
  simp only [Try.ntmps56, List.size_toArray, List.length_cons, List.length_nil, Nat.reduceAdd, Nat.reduceSub, Array.replicate_succ, Array.replicate_zero, List.push_toArray, List.append_toArray, List.nil_append, List.cons_append]
  gi_wp2_with fail
  refine ⟨trivial, (callsIn_wide.2 RI).mono ?_⟩
  rintro e W1 ⟨a, cap, L', rfl, hL', hR, hb1, hab1⟩
  obtain rfl := rise_one HL.out hL'
  have J1 := abides_below HAB.out H0.out hb1
  have hlen : L.length ≤ 1048576 := by
    have := hL'.len
    have := Tab.cnt_le (fun i => (S i).st == 1) c
    unfold Tab.fulls at *
    omega
  have hfit := hR.fits
  have hroom := hR.room
  have hout : ∀ ad, a = some ad → ¬ F ad.block := fun ad e q => by have := HF.out _ q; have := (hab1 ad e).1; omega
  have HOUT := Lib.hid hout
  have hs1 := hb1.size
  clear hb1 hab1 hout RI hL'
  gi_wp2_with fail
  gi_loopw [8] (fun i wr => AllRel W a cap J i wr) (fun i _ => L.length - (intOf i).toNat)
  case atStart => exact ⟨0, Nat.zero_le _, rfl, by simpa using J1, hR, hs1⟩
  case round =>
    clear J1 hR
    obtain ⟨k, hk, rfl, hJ, hR, hs⟩ := hrel
    by_cases hlt : k < L.length
    · obtain ⟨b0, off, rfl, hrows⟩ := hR.rows.resolve_left (fun e => by rw [e] at hlt; simp at hlt)
      have hCm : wr.rangeAt b0 (off + k * 34) (slotC L[k]) := hrows k hlt
      have hkey := HL.out.key L[k] (List.getElem_mem hlt)
      have hlC := length_slotC hkey
      have hoC : (slotC L[k]).toArray.all (·.oneCell') = true := all_oneCell_toArray (one_slotC L[k])
      have hiC : (Try.prog.info? 93).map (·.size) = some (slotC L[k]).length := by rw [hlC]; kernel_rfl
      have hvC : (Try.prog.info? 93).map (·.size) = some (slotC L[k]).toArray.size := by rw [List.size_toArray]; exact hiC
      have hzC : Z.size = (slotC L[k]).toArray.size := HZ.out.trans (by rw [List.size_toArray]; exact hlC.symm)
      have hnw := heap_alloc_new wr (.cells Z 93)
      obtain ⟨m9, n9⟩ := made_row wr 93 Z (slotC L[k]).toArray
      have r9 := rangeAt_row m9
      rw [List.toList_toArray] at r9
      have fk := rangeAt_part r9 1 32
      rw [slotC_key hkey] at fk
      rw [show (0 : Nat) + 1 = 1 from rfl] at fk
      have fv := rangeAt_cell r9 (slotC_val hkey)
      rw [show (0 : Nat) + 33 = 33 from rfl] at fv
      have hiM : (Try.prog.info? 23).map (·.size) = some (L[k].key.map U8).length := by rw [List.length_map, hkey]; kernel_rfl
      have hla : k < L.attach.length := by rw [List.length_attach]; exact hlt
      have hx : L.attach[k] = (⟨L[k], List.getElem_mem hlt⟩ : Of' L) := by simp
      have hf1 : L.attach.take (k + 1) = L.attach.take k ++ [⟨L[k], List.getElem_mem hlt⟩] := by
        rw [List.take_succ_eq_append_getElem hla, hx]
      have J9 := abides_below HAB.out hJ n9
      obtain ⟨fn, tmps, assign, body, hy, hYR⟩ := HY.out _ ⟨L[k], List.getElem_mem hlt⟩ _ J9 (by rw [List.length_take, List.length_attach]; omega)
      have HF1 := Lib.hid hf1
      have hR9 := hR.below n9
      have HR9 := Lib.hid hR9
      have HS9 := Lib.hid (Nat.le_trans hs n9.size)
      clear hJ hR hrows hlC hkey r9 hx hf1 J9 hR9 n9
      unfold slotArgs at hy
      dsimp only at hy
      generalize hvv : L[k].val = vv at *
      generalize hMM : L[k].key.map U8 = M at *
      generalize hCC : slotC L[k] = C at *
      gi_wp2_with (first
        | (with_reducible refine in_load 93 ?_; go_must (refine wpListIn_load_mid rfl 93 _ rfl b0 (off + k * 34) rfl C _ hCm Try.underlying93 rfl hiC ?_))
        | (with_reducible refine in_load 23 ?_; go_must (refine wpListIn_load_mid rfl 23 _ rfl wr.heap.size 1 rfl M _ fk Try.underlying23 rfl hiM ?_))
        | (with_reducible refine in_store 93 ?_; go_must (refine wpListIn_store_row rfl 93 _ _ rfl wr.heap.size C.toArray rfl rfl _ Z hnw hvC hzC hoC ?_)))
      refine hYR.mono ?_
      rintro e W3 (⟨rfl, hJ3, hk3⟩ | ⟨rfl, hJx3⟩)
      · have HR3 := Lib.hid (HR9.out.butF hk3 HOUT.out)
        have HS3 := Lib.hid (Nat.le_trans HS9.out hk3.size)
        clear hk3 hYR hy hnw m9 fk fv hCm
        gi_wp2
        go_roundw
        case rel => exact ⟨k + 1, by omega, by go_num, by rw [HF1.out]; exact hJ3, HR3.out, HS3.out⟩
        case measure => simp [intOf]; omega
      · clear hYR hy hnw m9 fk fv hCm
        gi_wp2
        refine bodyPost_ret (results_none rfl _ _ _) rfl ?_
        exact ⟨⟨_, rfl⟩, .inr ⟨_, by rw [← HF1.out]; exact List.take_prefix _ _, hJx3⟩⟩
    · obtain rfl : k = L.length := by omega
      rw [List.take_of_length_le (by rw [List.length_attach]; exact Nat.le_refl _)] at hJ
      gi_wp2
      go_end0
      exact ⟨⟨_, rfl⟩, .inl ⟨_, rfl, hJ⟩⟩
theorem all_stops (n : Nat) (hn : 1 ≤ n) (F : Nat → Prop) (Bt h b c ng g : Nat) (S : Nat → SlotI) (L : List SlotI) (w : World) (hF : ∀ k, F k → k < w.heap.size)
    (hBt : w.cell? ⟨Bt, 0, none⟩ = some (.pointer (some ⟨h, 0, none⟩))) (t : TabAt w h b c S ng g) (hL : RiseOf S c L) :
    SeqStopsK Fence.wide n Try.prog 56 #[.pointer (some ⟨Bt, 0, none⟩)] (fun x : Of' L => slotArgs x.1) (CellsBut F) (fun ys => ys = L.attach) (fun pre => pre <+: L.attach) L.length w := fun l J Jx W hW hJ _ hY h0 =>
  all1_in n hn F l Bt h b c ng g S L J Jx W (fun k hk => Nat.lt_of_lt_of_le (hF k hk) hW.size) (Keeps.below hW _ _ hBt) (t.below hW) hL hJ hY h0
end Go.Proofs.Ytahmnpbfjfllmaa
