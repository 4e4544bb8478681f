/- A table behind a row of calls. -/
import Derived.Test.YtahmnpbfjfllmaaDos
import Derived.Test.YtahmnpbfjfllmaaTLives
namespace Go.Proofs.Ytahmnpbfjfllmaa
open Go Go.RowKit

/-- What was put last under a key, unless it was taken away behind. -/
def lastOf (l : List Call) (k : List (BitVec 8)) : Option Int := l.foldl (fun r d => if d.key = k then (if d.kind = 1 then none else some d.val) else r) none
theorem lastOf_snoc (l : List Call) (d : Call) (k : List (BitVec 8)) : lastOf (l ++ [d]) k = if d.key = k then (if d.kind = 1 then none else some d.val) else lastOf l k := by
  unfold lastOf
  rw [List.foldl_append]; rfl
theorem calls_snoc (l : List Call) (i : Nat) (h : i < l.length) : l.take (i + 1) = l.take i ++ [callAt l i] := by
  rw [List.take_succ_eq_append_getElem h, callAt_lt h]
def PlayRel (w : World) (l : List Call) (h : Nat) (x : Value) (wr : World) : Prop :=
  ∃ (i b c : Nat) (S : Nat → SlotI) (n g : Nat), i ≤ l.length ∧ x = .int .i64 i ∧ TabAt wr h b c S n g ∧ (∀ k v, Tab.Has S c k v ↔ lastOf (l.take i) k = some v) ∧ n ≤ i ∧ w.heap.size ≤ b ∧ Below w.heap.size w wr
def PlayedPost (w : World) (l : List Call) (N : Nat) (e : Ending) (w' : World) : Prop :=
  ∃ (h b c : Nat) (S : Nat → SlotI) (n g : Nat), e = .returned (.pointer (some ⟨h, 0, none⟩)) ∧ TabAt w' h b c S n g ∧ (∀ k v, Tab.Has S c k v ↔ lastOf (l.take N) k = some v) ∧ n ≤ N ∧ w.heap.size ≤ h ∧ w.heap.size ≤ b ∧ Below w.heap.size w w'
set_option maxHeartbeats 2000000 in
theorem played_any (a : Option Addr) (cap : Nat) (l0 : List Call) (N : Nat) (hN : N ≤ 1000) (w : World) (hd0 : Dos w a cap l0) :
    Calls Try.prog 23 #[.slice a l0.length cap, .int .i64 N] w (PlayedPost w l0 N) := by
  go_enter Try.func23, Try.ntmps23
  go_wp2_with fail
  refine (tnew_any w).mono ?_
  rintro e w1 ⟨h, b, rfl, t, hh, hb, hbw⟩
  have hd1 := hd0.keeps (Keeps.below hbw)
  go_wp2_with fail
  refine (few_any a cap l0 N N w1 rfl hd1 (by omega)).mono ?_
  rintro e w' ⟨rfl, rfl⟩
  have HD := Lib.hid (hd0.take N)
  have hlen : (l0.take N).length ≤ N := by rw [List.length_take]; omega
  generalize hl : l0.take N = l at *
  have HL := Lib.hid hl
  clear hl hd1 hd0
  have hlM : l.length ≤ 1000 := by omega
  go_wp2
  go_loopw [6] (fun x wr => PlayRel w l h x wr) (fun x _ => l.length - (intOf x).toNat)
  case atStart => exact ⟨0, b, 8, _, 0, 0, Nat.zero_le _, rfl, t, fun k v => ⟨fun hh => (Tab.has_empty zeroSlot rfl 8 k v hh).elim, fun e => by cases e⟩, Nat.le_refl _, hb, hbw⟩
  case round =>
    clear t hb
    obtain ⟨i, b, c, S, n, g, hi, rfl, t, hiff, hn, hb, hbr⟩ := hrel
    by_cases hlt : i < l.length
    · have hdr := HD.out.keeps (Keeps.below hbr)
      have hfit := hdr.fits
      have hroom := hdr.room
      have hkey := hdr.key i hlt
      obtain ⟨b0, off, rfl, hrows⟩ := hdr.rows.resolve_left (fun e => by rw [e] at hlt; simp at hlt)
      have hr := hrows i hlt
      have hs := calls_snoc l i hlt
      have hla := fun k => lastOf_snoc (l.take i) (callAt l i) k
      rw [← hs] at hla
      have ck := rangeAt_cell hr (callC_kind _)
      have cv := rangeAt_cell hr (callC_val hkey)
      have ckey := rangeAt_part hr 1 32
      rw [callC_key hkey] at ckey
      rw [Nat.add_zero] at ck
      have hiM : (Try.prog.info? 23).map (·.size) = some ((callAt l i).key.map U8).length := by rw [List.length_map, hkey]; kernel_rfl
      have HLA := Lib.hid hla
      have HIFF := Lib.hid hiff
      have HBR := Lib.hid hbr
      clear hla hs hr hrows hdr hiff
      have hhlt := t.head.lt
      generalize callAt l i = d at *
      by_cases hk1 : d.kind = 1
      · have hkb : (d.kind == 1) = true := by simp [hk1]
        have DEL : Calls Try.prog 34 #[.pointer (some ⟨h, 0, none⟩), .agg (d.key.map U8).toArray] wr fun e w' => ∃ r, e = .returned (.bool r) ∧ ∃ b' c' S' n' g', TabAt w' h b' c' S' n' g' ∧ (∀ k' v', Tab.Has S' c' k' v' ↔ k' ≠ d.key ∧ Tab.Has S c k' v') ∧ n' ≤ n ∧ (b' = b ∨ wr.heap.size ≤ b') ∧ Touch (fun y => y = h ∨ y = b) wr w' := by
          by_cases hex : ∃ v, Tab.Has S c d.key v
          · obtain ⟨v, hv⟩ := hex
            exact (del_hit t d.key hkey v hv (by omega)).mono fun e w' ⟨h1, h2⟩ => ⟨true, h1, h2⟩
          · refine (del_miss t d.key hkey fun v hv => hex ⟨v, hv⟩).mono fun e w' ⟨h1, h2⟩ => ⟨false, h1, b, c, S, n, g, t.below h2, fun k' v' => ⟨fun hh => ⟨fun e => hex ⟨v', e ▸ hh⟩, hh⟩, fun hh => hh.2⟩, Nat.le_refl _, .inl rfl, .of_below h2⟩
        clear cv
        generalize (d.key.map U8) = M at *
        go_wp2_with (with_reducible refine at_load 23 ?_; go_must (refine wpList_load_mid rfl 23 _ rfl b0 (off + i * 34 + 1) rfl M _ ckey Try.underlying23 rfl hiM ?_))
        refine DEL.mono ?_
        rintro e w3 ⟨r, rfl, b', c', S', n', g', t', hiff', hn', hb', ht'⟩
        go_wp2
        go_roundw
        case rel =>
          refine ⟨i + 1, b', c', S', n', g', by omega, by go_num, t', fun k v => ?_, by omega, by have := HBR.out.size; omega, HBR.out.trans (ht'.below (fun y e => by rcases e with e | e <;> omega) HBR.out.size)⟩
          rw [hiff', HLA.out, HIFF.out]
          by_cases e : d.key = k
          · rw [if_pos e, if_pos hk1]
            exact ⟨fun q => (q.1 e.symm).elim, fun q => by cases q⟩
          · rw [if_neg e]
            exact ⟨fun q => q.2, fun q => ⟨fun e2 => e e2.symm, q⟩⟩
        case measure => simp [intOf]; omega
      · have hkb : (d.kind == 1) = false := by simpa using hk1
        have PUT := fun (w' : World) (q : TabAt w' h b c S n g) => put_any q d.key hkey d.val (by omega)
        generalize (d.key.map U8) = M at *
        go_wp2_with fail
        refine wp_region_mid 11 (by kernel_rfl) (by kernel_rfl) rfl ?_
        simp only [List.take_succ_cons, List.take_zero, List.drop_zero]
        repeat (first
          | (go_big_quiet_want; refine quiet_mid_of (fun w' e => (show w'.rangeAt b0 (off + i * 34 + 1) M from by obtain ⟨_, rfl⟩ := e; exact ckey)) Try.underlying23 rfl hiM rfl rfl ?_; simp only [Act.put, List.setIfInBounds_toArray, List.set_cons_succ, List.set_cons_zero]; go_big_quiet_on)
          | go_big_quiet_step (fail)
          | quiet_step (fail))
        refine wpQuiet_nil ?_
        intro jj
        have tj : Touch (fun _ => False) wr (wr.drewN jj) := (Touch.refl _ _).drewN jj
        have PUTJ := PUT _ (t.touch tj id id)
        clear PUT ck cv ckey
        go_wp2_with fail
        refine PUTJ.mono ?_
        rintro e w3 ⟨rfl, b', c', S', n', g', t', hiff', hn', hb', ht'⟩
        go_wp2_with fail
        refine midPost_normal (rest_quiet (by kernel_rfl) ?_)
        simp only [List.drop_succ_cons, List.drop_nil]
        refine wpQuiet_nil ?_
        intro j2
        go_wp2
        go_roundw
        case rel =>
          have hsz : (wr.drewN jj).heap.size = wr.heap.size := rfl
          have tk : Touch (fun _ => False) w3 (w3.drewN j2) := (Touch.refl _ _).drewN j2
          have hbr2 : Below w.heap.size w (wr.drewN jj) := below_drewN HBR.out jj
          have hsz2 := HBR.out.size
          have hb2 : w.heap.size ≤ b' := by rcases hb' with e | e <;> omega
          have hbt : Below w.heap.size (wr.drewN jj) w3 := ht'.below (fun y e => by rcases e with e | e <;> omega) hsz2
          have hbf : Below w.heap.size w (w3.drewN j2) := below_drewN (hbr2.trans hbt) j2
          have htf := t'.touch tk id id
          have hn2 : n' ≤ i + 1 := by omega
          refine ⟨i + 1, b', c', S', n', g', by omega, by go_num, htf, fun k v => ?_, hn2, hb2, hbf⟩
          rw [hiff', HLA.out, HIFF.out]
          by_cases e : d.key = k
          · rw [if_pos e, if_neg hk1]
            exact ⟨fun q => by rcases q with q | q
                               · rw [q.2]
                               · exact (q.1 e.symm).elim, fun q => .inl ⟨e.symm, (Option.some.inj q).symm⟩⟩
          · rw [if_neg e]
            exact ⟨fun q => by rcases q with q | q
                               · exact (e q.1.symm).elim
                               · exact q.2, fun q => .inr ⟨fun e2 => e e2.symm, q⟩⟩
        case measure => simp [intOf]; omega
    · obtain rfl : i = l.length := by omega
      go_wp2
      go_ret
      rw [List.take_of_length_le (Nat.le_refl _)] at hiff
      exact ⟨h, b, c, S, n, g, rfl, t, fun k v => by rw [HL.out]; exact hiff k v, by omega, hh, hb, hbr⟩
end Go.Proofs.Ytahmnpbfjfllmaa
