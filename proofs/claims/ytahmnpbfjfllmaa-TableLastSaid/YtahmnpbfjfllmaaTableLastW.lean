/- The law's walk: TableLast. -/
import Derived.Test.YtahmnpbfjfllmaaPlayed
namespace Go.Proofs.Ytahmnpbfjfllmaa
open Go Go.RowKit

/-- What the law's own loop has seen so far. -/
def LastRel (l : List Call) (k : List (BitVec 8)) (w2 : World) (v there i : Value) (wr : World) : Prop :=
  ∃ (j : Nat) (x : Int), j ≤ l.length ∧ i = .int .i64 j ∧ v = .int .i64 x ∧ there = .bool (lastOf (l.take j) k).isSome ∧ (∀ y, lastOf (l.take j) k = some y → x = y) ∧ ∃ n, wr = w2.drewN n
set_option maxHeartbeats 2000000 in
theorem tableLast_walk (a : Option Addr) (cap : Nat) (l0 : List Call) (k : List (BitVec 8)) (w : World) (hd : Dos w a cap l0) (hk : k.length = 32) :
    Calls Try.prog 5 #[.slice a l0.length cap, .agg (k.map U8).toArray] w fun e w' => e = .returned (.bool true) ∧ Below w.heap.size w w' := by
  have row : (w.alloc (.cells (k.map U8).toArray 23)).heap[w.heap.size]? = some (.cells (k.map U8).toArray 23 (0, 0)) := heap_alloc_new w _
  have hb0 : Below w.heap.size w (w.alloc (.cells (k.map U8).toArray 23)) := (Below.refl _ _).alloc (Nat.le_refl _) _
  have hd1 := hd.keeps (Keeps.below hb0)
  have FW := few_any a cap l0 300 300 _ rfl hd1 (by decide)
  have hd2 := hd1.take 300
  have PL := played_any a cap (l0.take 300) 300 (by decide) _ hd2
  have hlen : (l0.take 300).length ≤ 300 := by rw [List.length_take]; omega
  have hik : (Try.prog.info? 23).map (·.size) = some (k.map U8).toArray.size := by rw [List.size_toArray, List.length_map, hk]; kernel_rfl
  have HEQ := fun (m : List (BitVec 8)) (hm : m.length = 32) (w : World) => run_eq_key m k hm hk w
  have GT := fun (w : World) (h b c n g : Nat) (S : Nat → SlotI) (t : TabAt w h b c S n g) (V : Option Int) (hV : ∀ v, Tab.Has S c k v ↔ V = some v) => get_any t k hk V hV
  generalize l0.take 300 = l at *
  generalize hKE : (k.map U8).toArray = K at *
  clear hKE hd hd1
  go_enter Try.func5, Try.ntmps5
  go_wp2_with fail
  refine FW.mono ?_
  rintro e w' ⟨rfl, rfl⟩
  go_wp2_with fail
  refine PL.mono ?_
  rintro e w2 ⟨h, b, c, S, n, g, rfl, t2, hiff, hn, hh, hbb, hb2⟩
  have row2 := (hb2.block _ (by simp)).trans row
  have hd3 := hd2.keeps (Keeps.below hb2)
  have hB2 := hb0.trans (hb2.mono hb0.size)
  clear PL FW row hb0 hb2 hd2
  have hiff2 : ∀ y, Tab.Has S c k y ↔ lastOf l k = some y := fun y => by
    have := hiff k y
    rwa [List.take_of_length_le hlen] at this
  clear hiff
  have hfit := hd3.fits
  have hroom := hd3.room
  go_wp2_with fail
  go_loopw [6, 7, 8] (fun v t i wr => LastRel l k w2 v t i wr) (fun _ _ i _ => l.length - (intOf i).toNat)
  case atStart => exact ⟨0, 0, Nat.zero_le _, rfl, rfl, rfl, fun y e => (by cases e), 0, rfl⟩
  case round =>
    obtain ⟨i, x, hi, rfl, rfl, rfl, hx, nn, hwr⟩ := hrel
    have hdr := hd3.keeps (Keeps.drewN w2 nn)
    have rowr : (w2.drewN nn).heap[w.heap.size]? = some (.cells K 23 (0, 0)) := row2
    rw [← hwr] at hdr rowr
    have HWR := Lib.hid hwr
    clear hwr
    by_cases hlt : i < l.length
    · have hkey := hdr.key i hlt
      obtain ⟨b0, off, rfl, hrows⟩ := hdr.rows.resolve_left (fun e => by rw [e] at hlt; simp at hlt)
      have hr := hrows i hlt
      have hs := calls_snoc l i hlt
      have hla := lastOf_snoc (l.take i) (callAt l i) k
      rw [← hs] at hla
      have ck := rangeAt_cell hr (callC_kind _)
      have cv := rangeAt_cell hr (callC_val hkey)
      have ckey := rangeAt_part hr 1 32
      rw [callC_key hkey] at ckey
      rw [Nat.add_zero] at ck
      have hiM : (Try.prog.info? 23).map (·.size) = some ((callAt l i).key.map U8).length := by rw [List.length_map, hkey]; kernel_rfl
      have heq := HEQ (callAt l i).key hkey
      have hkk : ((callAt l i).key == k) = true ↔ (callAt l i).key = k := beq_iff_eq
      have HLA := Lib.hid hla
      have HX := Lib.hid hx
      clear hla hs hr hrows hdr hx HEQ GT
      generalize callAt l i = d at *
      generalize hbq : (lastOf (l.take i) k).isSome = sb at *
      have HBQ := Lib.hid hbq
      clear hbq
      generalize hMM : d.key.map U8 = M at *
      clear hMM
      by_cases hq : d.key = k
      · have hqb : (d.key == k) = true := hkk.2 hq
        rw [hqb] at heq
        clear hkk hqb
        go_wp2_with fail
        refine wp_region_quiet_lit (by kernel_rfl) (by kernel_rfl) ?_
        repeat (first
          | (go_big_quiet_want; refine quiet_mid_of (fun w' e => (show w'.rangeAt b0 (off + i * 34 + 1) M from by obtain ⟨_, rfl⟩ := e; exact ckey)) Try.underlying23 rfl hiM rfl rfl ?_; simp only [Act.put, List.setIfInBounds_toArray, List.set_cons_succ, List.set_cons_zero]; go_big_quiet_on)
          | (go_big_quiet_want; refine quiet_row_of (fun w' e => (show w'.heap[w.heap.size]? = some (.cells K 23 (0, 0)) from by obtain ⟨_, rfl⟩ := e; exact rowr)) Try.underlying23 rfl hik rfl rfl ?_; simp only [Act.put, List.setIfInBounds_toArray, List.set_cons_succ, List.set_cons_zero]; go_big_quiet_on)
          | go_big_quiet_step (fail)
          | quiet_step (fail))
        refine wpQuiet_nil ?_
        rintro _ ⟨nq, rfl⟩
        clear heq ckey rowr
        go_wp2_with fail
        go_quiet (fail)
        go_wp2
        go_roundw
        case rel =>
          refine ⟨i + 1, d.val, by omega, by go_num, rfl, ?_, fun y e => ?_, ?_⟩
          · rw [HLA.out, if_pos hq]
            by_cases e1 : d.kind = 1
            · rw [if_pos e1, e1]; rfl
            · rw [if_neg e1]; simp [e1]
          · rw [HLA.out, if_pos hq] at e
            by_cases e1 : d.kind = 1
            · rw [if_pos e1] at e; cases e
            · rw [if_neg e1] at e; exact Option.some.inj e
          · rw [HWR.out]
            exact ⟨nn + _, by rw [World.drewN_drewN]⟩
        case measure => simp [intOf]; omega
      · have hqb : (d.key == k) = false := by
          cases e : d.key == k with
          | false => rfl
          | true => exact (hq (hkk.1 e)).elim
        rw [hqb] at heq
        clear hkk hqb
        go_wp2_with fail
        refine wp_region_quiet_lit (by kernel_rfl) (by kernel_rfl) ?_
        repeat (first
          | (go_big_quiet_want; refine quiet_mid_of (fun w' e => (show w'.rangeAt b0 (off + i * 34 + 1) M from by obtain ⟨_, rfl⟩ := e; exact ckey)) Try.underlying23 rfl hiM rfl rfl ?_; simp only [Act.put, List.setIfInBounds_toArray, List.set_cons_succ, List.set_cons_zero]; go_big_quiet_on)
          | (go_big_quiet_want; refine quiet_row_of (fun w' e => (show w'.heap[w.heap.size]? = some (.cells K 23 (0, 0)) from by obtain ⟨_, rfl⟩ := e; exact rowr)) Try.underlying23 rfl hik rfl rfl ?_; simp only [Act.put, List.setIfInBounds_toArray, List.set_cons_succ, List.set_cons_zero]; go_big_quiet_on)
          | go_big_quiet_step (fail)
          | quiet_step (fail))
        refine wpQuiet_nil ?_
        rintro _ ⟨nq, rfl⟩
        clear heq ckey rowr
        go_wp2
        go_roundw
        case rel =>
          refine ⟨i + 1, x, by omega, by go_num, rfl, ?_, fun y e => ?_, ?_⟩
          · rw [HLA.out, if_neg hq, HBQ.out]
          · rw [HLA.out, if_neg hq] at e
            exact HX.out y e
          · rw [HWR.out]
            exact ⟨nn + _, by rw [World.drewN_drewN]⟩
        case measure => simp [intOf]; omega
    · obtain rfl : i = l.length := by omega
      rw [List.take_of_length_le (Nat.le_refl _)] at hx
      rw [List.take_of_length_le (Nat.le_refl _)]
      have td : Touch (fun _ => False) w2 (w2.drewN nn) := (Touch.refl _ _).drewN nn
      have t3 := t2.touch td id id
      have hb3 : Below w.heap.size w (w2.drewN nn) := below_drewN hB2 nn
      rw [← HWR.out] at t3 hb3
      have G3 := GT wr h b c n g S t3 (lastOf l k) hiff2
      clear GT hdr hiff2 HEQ hd3
      generalize lastOf l k = V at *
      cases V with
      | none =>
        go_wp2_with (with_reducible refine at_load 23 ?_; go_must (refine wpList_load_row_g rfl 23 _ rfl w.heap.size rfl _ K _ _ rowr Try.underlying23 rfl hik ?_))
        refine G3.mono ?_
        rintro e w4 ⟨rfl, hb4⟩
        go_wp2_with fail
        refine (lives_any _).mono ?_
        rintro e w5 ⟨rfl, hb5⟩
        go_wp2
        go_ret
        exact ⟨rfl, (hb3.trans (hb4.mono hb3.size)).trans (hb5.mono (Nat.le_trans hb3.size hb4.size))⟩
      | some y =>
        obtain rfl := hx y rfl
        go_wp2_with (with_reducible refine at_load 23 ?_; go_must (refine wpList_load_row_g rfl 23 _ rfl w.heap.size rfl _ K _ _ rowr Try.underlying23 rfl hik ?_))
        refine G3.mono ?_
        rintro e w4 ⟨rfl, hb4⟩
        go_wp2_with fail
        refine (lives_any _).mono ?_
        rintro e w5 ⟨rfl, hb5⟩
        go_wp2
        go_ret
        exact ⟨rfl, (hb3.trans (hb4.mono hb3.size)).trans (hb5.mono (Nat.le_trans hb3.size hb4.size))⟩
end Go.Proofs.Ytahmnpbfjfllmaa
