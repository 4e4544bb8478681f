/- Whether a table is the document's: it is. -/
import Derived.Test.YtahmnpbfjfllmaaKeys
import Derived.Test.YtahmnpbfjfllmaaRefDel
import Derived.Test.YtahmnpbfjfllmaaGet
namespace Go.Proofs.Ytahmnpbfjfllmaa
open Go Go.RowKit

theorem neq_key_any (k m : List (BitVec 8)) (hk : k.length = 32) (hm : m.length = 32) (w : World) :
    (binOp .neq 23 (.agg (k.map U8).toArray) (.agg (m.map U8).toArray)).run Try.prog w = .ok (.bool (!(k == m))) w := by
  have h := run_equalIn_bytes (P := Try.prog) w 9998 23 5 32 Try.underlying23 Try.underlying5 (fun w => by kernel_rfl) (k.map ub) (m.map ub) (by simpa using hk) (by simpa using hm)
  rw [map_cell, map_cell, map_ub_beq] at h
  rw [run_neq_struct, h]
  rfl
/-- Both tables, side by side. -/
structure Both (w : World) (h b c : Nat) (S : Nat → SlotI) (n g : Nat) (x : Nat) (a : Option Addr) (cp : Nat) (L : List KV) : Prop where
  tab : TabAt w h b c S n g
  ref : RefAt w x a cp L c g
  sim : Sim S c L
  len : L.length = n
theorem Both.below {w w' : World} {h b c : Nat} {S : Nat → SlotI} {n g x : Nat} {a : Option Addr} {cp : Nat} {L : List KV} (q : Both w h b c S n g x a cp L) (k : Below w.heap.size w w') : Both w' h b c S n g x a cp L :=
  ⟨q.tab.below k, q.ref.below k, q.sim, q.len⟩
theorem Sim.val {S : Nat → SlotI} {c : Nat} {L : List KV} (h : Sim S c L) {p : KV} (hp : p ∈ L) (v : Int) : Tab.Has S c p.key v ↔ some p.val = some v := by
  rw [h.has]
  constructor
  · intro q
    have := h.one q hp rfl
    rw [← this]
  · intro q
    injection q with q
    rw [← q]; exact hp
def AlRel (L : List KV) (w3 : World) (x : Value) (wr : World) : Prop := ∃ i : Nat, i ≤ L.length ∧ x = .int .i64 i ∧ Below w3.heap.size w3 wr
set_option maxHeartbeats 4000000 in
set_option maxRecDepth 40000 in
theorem alike_any {w : World} {h b c : Nat} {S : Nat → SlotI} {n g x : Nat} {a : Option Addr} {cp : Nat} {L : List KV} (q : Both w h b c S n g x a cp L) :
    Calls Try.prog 36 #[.pointer (some ⟨h, 0, none⟩), .pointer (some ⟨x, 0, none⟩)] w fun e w' => e = .returned (.bool true) ∧ Below w.heap.size w w' := by
  have hln := q.len
  have HQ := Lib.hid q
  have c0 := q.ref.head.c0
  have kd : Keeps w w.drew := Keeps.drewN w 1
  have ne : Nonempty (Of (Keeps w)) := of_ne kd
  have y0 : ∀ y : Of (Keeps w), y.to.cell? ⟨x, 0, none⟩ = some (.slice a L.length cp) := fun y => y.ok _ _ q.ref.head.c0
  have y1 : ∀ y : Of (Keeps w), y.to.cell? ⟨x, 1, none⟩ = some (.int .i64 c) := fun y => y.ok _ _ q.ref.head.c1
  have y2 : ∀ y : Of (Keeps w), y.to.cell? ⟨x, 2, none⟩ = some (.int .i64 g) := fun y => y.ok _ _ q.ref.head.c2
  have td : Touch (fun _ => False) w w.drew := (Touch.refl _ w).drewN 1
  have LE := len_any (q.tab.touch td id id)
  have CA := cap_any (q.tab.touch td id id)
  have DE := dead_any (q.tab.touch td id id)
  have hbd : Below w.heap.size w w.drew := (Below.refl _ _).drew
  have HQD := Lib.hid (q.below hbd)
  have hfit := q.ref.rows.fits
  have hroom := q.ref.rows.room
  subst hln
  clear q td c0
  go_enter Try.func36, Try.ntmps36
  go_wp2_with fail
  refine wp_region_plan [([0, 2, 3, 4, 5, 6], some 1), ([7, 8, 9, 11, 12, 13, 14], some 10), ([15, 16, 17, 18, 20, 21, 22, 23], some 19), ([24, 25], none)] (fun w' => ∃ y : Of (Keeps w), w' = y.to) (by kernel_rfl) (by kernel_rfl) (fun _ _ d _ _ h => by cases d <;> exact h) (of_mk kd) ?_
  refine plan_some (show wpQuiet _ _ _ _ (_ :: _ :: _ :: _ :: _ :: _ :: []) _ from ?_)
  repeat (first
    | go_big_quiet_step (fail)
    | quiet_step (fail))
  refine wpQuiet_nil (show wpList _ _ _ (_ :: []) _ _ from ?_)
  go_wp2_with fail
  refine LE.mono ?_
  rintro e w' ⟨rfl, rfl⟩
  go_wp2_with fail
  refine late_normal (fun _ h => h) (of_mk kd) ?_
  refine plan_some (show wpQuiet _ _ _ _ (_ :: _ :: _ :: _ :: _ :: _ :: _ :: []) _ from ?_)
  repeat (first
    | go_big_quiet_step (fail)
    | quiet_step (fail))
  refine wpQuiet_nil (show wpList _ _ _ (_ :: []) _ _ from ?_)
  go_wp2_with fail
  refine CA.mono ?_
  rintro e w' ⟨rfl, rfl⟩
  go_wp2_with fail
  refine late_normal (fun _ h => h) (of_mk kd) ?_
  refine plan_some (show wpQuiet _ _ _ _ (_ :: _ :: _ :: _ :: _ :: _ :: _ :: _ :: []) _ from ?_)
  repeat (first
    | go_big_quiet_step (fail)
    | quiet_step (fail))
  refine wpQuiet_nil (show wpList _ _ _ (_ :: []) _ _ from ?_)
  go_wp2_with fail
  refine DE.mono ?_
  rintro e w' ⟨rfl, rfl⟩
  go_wp2_with fail
  refine late_normal (fun _ h => h) (of_mk kd) ?_
  refine plan_none (show wpQuiet _ _ _ _ (_ :: _ :: []) _ from ?_)
  repeat (first
    | go_big_quiet_step (fail)
    | quiet_step (fail))
  refine wpQuiet_nil ?_
  refine plan_nil ?_
  clear kd ne y0 y1 y2 LE CA DE
  have HBD := Lib.hid hbd
  have KE := keys_any HQD.out.tab
  clear hbd
  generalize w.drew = w2 at *
  go_wp2_with fail
  refine KE.mono ?_
  rintro e w3 ⟨ak, ck, R, rfl, hR, hK, hb3, _⟩
  have hkeys := HQD.out.sim.keys hR
  have hRl : R.length = L.length := by rw [hR.len]; exact (HQD.out.sim.len hR).symm
  have HQ3 := Lib.hid (HQD.out.below hb3)
  rw [hkeys] at hK
  rw [hRl]
  have HK := Lib.hid hK
  have HB3 := Lib.hid (HBD.out.trans (hb3.mono HBD.out.size))
  have hfk := hK.fits
  rw [List.length_map] at hfk
  have hrk := hK.room
  clear KE hR hkeys hRl hK hb3
  go_wp2_with fail
  go_loopw [6] (fun y wr => AlRel L w3 y wr) (fun y _ => L.length - (intOf y).toNat)
  case atStart => exact ⟨0, Nat.zero_le _, rfl, Below.refl _ _⟩
  case round =>
    obtain ⟨i, hi, rfl, hbr⟩ := hrel
    have qr := HQ3.out.below hbr
    have c0r := qr.ref.head.c0
    have HBR := Lib.hid hbr
    by_cases hlt : i < L.length
    · obtain ⟨b0, off, rfl, hrows⟩ := qr.ref.rows.rows.resolve_left (fun e => by rw [e] at hlt; simp at hlt)
      obtain ⟨bk, ok, rfl, hkrows⟩ := (HK.out.below hbr).rows.resolve_left (fun e => by
        have := congrArg List.length e
        rw [List.length_map] at this
        simp at this
        rw [this] at hlt
        simp at hlt)
      have hkr : wr.rangeAt bk (ok + i * 32) (L[i].key.map U8) := by
        have := hkrows i (by rw [List.length_map]; exact hlt)
        rw [List.getElem_map] at this
        exact this
      have hkey := qr.ref.key L[i] (List.getElem_mem hlt)
      have hr := hrows i hlt
      have ckey := rangeAt_part hr 0 32
      rw [kvC_key hkey, Nat.add_zero] at ckey
      have cval := rangeAt_cell hr (kvC_val hkey)
      have hiM : (Try.prog.info? 23).map (·.size) = some (L[i].key.map U8).length := by rw [List.length_map, hkey]; kernel_rfl
      have GT := get_any qr.tab L[i].key hkey (some L[i].val) (fun v => qr.sim.val (List.getElem_mem hlt) v)
      have HNE := fun w => neq_key_any L[i].key L[i].key hkey hkey w
      rw [show (L[i].key == L[i].key) = true from beq_self_eq_true _] at HNE
      have HQR := Lib.hid qr
      clear qr hrows hkrows hkey hr hbr
      generalize L[i] = li at *
      obtain ⟨vl, hvl⟩ : ∃ vl, li.val = vl := ⟨_, rfl⟩
      rw [hvl] at GT cval
      clear hvl
      generalize li.key.map U8 = M at *
      go_wp2_with (with_reducible refine at_load 23 ?_; go_must (refine wpList_load_mid rfl 23 _ rfl b0 (off + i * 33) rfl M _ ckey Try.underlying23 rfl hiM ?_))
      refine GT.mono ?_
      rintro e w4 ⟨rfl, hb4⟩
      have k4 : Keeps wr w4 := Keeps.below hb4
      have c04 := k4 _ _ c0r
      have cval4 := k4 _ _ cval
      have ckey4 : w4.rangeAt b0 (off + i * 33) M := fun o v hv => k4 _ _ (ckey o v hv)
      have hkr4 : w4.rangeAt bk (ok + i * 32) M := fun o v hv => k4 _ _ (hkr o v hv)
      have HB4 := Lib.hid (HBR.out.trans (hb4.mono HBR.out.size))
      clear GT hb4 k4 c0r cval ckey hkr
      have g1 : decide ((L.length : Int) ≤ (i : Int)) = false := decide_eq_false (by omega)
      have g2 : decide (L.length ≤ i) = false := decide_eq_false (by omega)
      go_wp2_with fail
      refine wp_region_quiet_lit (by kernel_rfl) (by kernel_rfl) ?_
      repeat (first
        | (go_big_quiet_want; refine quiet_mid_of (fun w' e => (show w'.rangeAt bk (ok + i * 32) M from by obtain ⟨_, rfl⟩ := e; exact hkr4)) Try.underlying23 rfl hiM rfl rfl ?_; simp only [Act.put, List.setIfInBounds_toArray, List.set_cons_succ, List.set_cons_zero]; go_big_quiet_on)
        | (go_big_quiet_want; refine quiet_mid_of (fun w' e => (show w'.rangeAt b0 (off + i * 33) M from by obtain ⟨_, rfl⟩ := e; exact ckey4)) Try.underlying23 rfl hiM rfl rfl ?_; simp only [Act.put, List.setIfInBounds_toArray, List.set_cons_succ, List.set_cons_zero]; go_big_quiet_on)
        | go_big_quiet_step (fail)
        | quiet_step (fail)
        | (simp only [ge_iff_le, g1])
        | (simp only [ge_iff_le, g2]))
      refine wpQuiet_nil ?_
      rintro _ ⟨nq, rfl⟩
      have HB5 := Lib.hid (below_drewN HB4.out nq)
      clear HNE c04 cval4 ckey4 hkr4
      go_wp2
      go_roundw
      case rel => exact ⟨i + 1, by omega, by go_num, HB5.out⟩
      case measure => simp [intOf]; omega
    · obtain rfl : i = L.length := by omega
      clear qr hbr
      go_wp2
      go_ret
      exact ⟨rfl, HB3.out.trans (HBR.out.mono HB3.out.size)⟩
end Go.Proofs.Ytahmnpbfjfllmaa
