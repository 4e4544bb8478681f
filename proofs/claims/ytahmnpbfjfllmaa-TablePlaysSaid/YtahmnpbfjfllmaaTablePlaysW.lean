/- The law's walk: TablePlays. -/
import Derived.Test.YtahmnpbfjfllmaaPlays2
namespace Go.Proofs.Ytahmnpbfjfllmaa
open Go Go.RowKit

set_option maxHeartbeats 4000000 in
set_option maxRecDepth 40000 in
theorem tablePlays_walk (a : Option Addr) (cap : Nat) (l0 : List Call) (w : World) (hd0 : Dos w a cap l0) :
    Calls Try.prog 8 #[.slice a l0.length cap] w fun e w' => e = .returned (.bool true) ∧ Below w.heap.size w w' := by
  have FW := few_any a cap l0 150 150 w rfl hd0 (by decide)
  have HD := Lib.hid (hd0.take 150)
  have hlen : (l0.take 150).length ≤ 150 := by rw [List.length_take]; omega
  have hbt := built_rtab
  generalize l0.take 150 = l at *
  clear hd0
  go_enter Try.func8, Try.ntmps8
  go_wp2_with fail
  refine FW.mono ?_
  rintro e w' ⟨rfl, rfl⟩
  clear FW
  go_wp2_with fail
  refine (tnew_any w).mono ?_
  rintro e w1 ⟨h, b, rfl, t, hh, hb, hbw⟩
  have hnx : (w1.alloc (.cells #[.slice none 0 0, .int .i64 8, .int .i64 0] 63)).heap[w1.heap.size]? = some (.cells #[.slice none 0 0, .int .i64 8, .int .i64 0] 63 (0, 0)) := heap_alloc_new w1 _
  have hbx : Below w1.heap.size w1 (w1.alloc (.cells #[.slice none 0 0, .int .i64 8, .int .i64 0] 63)) := (Below.refl _ _).alloc (Nat.le_refl _) _
  have HQ := Lib.hid (Both.start (t.below hbx) hnx)
  have hl1 := t.head.lt
  have hl2 := t.look.rows.lt
  have HZ := Lib.hid (show Aside w.heap.size h b w1.heap.size none from ⟨by omega, by omega, fun ad e => (by cases e), by omega, by omega, hbw.size, fun ad e => (by cases e)⟩)
  have HB := Lib.hid (hbw.trans (hbx.mono hbw.size))
  clear t hh hb hbw hnx hbx hl1 hl2
  go_wp2_with fail
  generalize w1.alloc (.cells #[.slice none 0 0, .int .i64 8, .int .i64 0] 63) = w2 at *
  generalize w1.heap.size = x at *
  go_loopw [5] (fun y wr => PlaysRel w l h x y wr) (fun y _ => l.length - (intOf y).toNat)
  case atStart => exact ⟨0, b, 8, _, 0, 0, none, 0, [], Nat.zero_le _, rfl, HQ.out, HZ.out, Nat.le_refl _, Nat.le_refl _, HB.out⟩
  case round =>
    clear HQ HZ HB
    obtain ⟨i, bb, c, S, n, g, aa, cp, L, hi, rfl, q, z, hn, hg, hbr⟩ := hrel
    by_cases hlt : i < l.length
    · obtain ⟨b0, off, rfl, ROW⟩ := HD.out.row hlt
      have hkey := HD.out.key i hlt
      have hfit := HD.out.fits
      have hroom := HD.out.room
      generalize callAt l i = d at *
      obtain ⟨ck, -, ckey⟩ := ROW wr hbr
      have hiM : (Try.prog.info? 23).map (·.size) = some (d.key.map U8).length := by rw [List.length_map, hkey]; kernel_rfl
      have AT := at_any q.ref d.key hkey
      have HQ := Lib.hid q
      have HZ := Lib.hid z
      have HBR := Lib.hid hbr
      have HR := Lib.hid ROW
      have ALL := fun (w' : World) (q' : Both w' h bb c S n g x aa cp L) (hB : w.heap.size ≤ w'.heap.size) => And.intro (pair_put q' z hB d.key hkey d.val (by omega)) (pair_del q' z hB d.key hkey (by omega))
      have HALL := Lib.hid ALL
      have GET := fun (w' : World) (q' : Both w' h bb c S n g x aa cp L) (V : Option Int) (hV : ∀ v, Tab.Has S c d.key v ↔ V = some v) => get_any q'.tab d.key hkey V hV
      have HGET := Lib.hid GET
      clear q z hbr ROW ALL GET
      generalize hM : (d.key.map U8) = M at *
      clear hM
      go_wp2_with (with_reducible refine at_load 23 ?_; go_must (refine wpList_load_mid rfl 23 _ rfl b0 (off + i * 34 + 1) rfl M _ ckey Try.underlying23 rfl hiM ?_))
      refine AT.mono ?_
      rintro e w3 ⟨⟨r, rfl, hat⟩, hb3⟩
      have HQ3 := Lib.hid (HQ.out.below hb3)
      have HB3 := Lib.hid (HBR.out.trans (hb3.mono HBR.out.size))
      obtain ⟨ck3, cv3, ckey3⟩ := HR.out w3 HB3.out
      have HAT := Lib.hid hat
      clear AT hb3 ck ckey HQ HBR hat
      by_cases hk0 : d.kind = 0
      · have hkb : (d.kind == 0) = true := by simp [hk0]
        clear hk0
        have PUT := fun j => (HALL.out (w3.drewN j) (HQ3.out.drewN j) HB3.out.size).1
        go_wp2_with fail
        refine wp_region_mid 11 (by kernel_rfl) (by kernel_rfl) rfl ?_
        simp only [List.take_succ_cons, List.take_zero, List.drop_zero]
        repeat (first
          | (go_big_quiet_want; refine quiet_mid_of (fun w' e => (show w'.rangeAt b0 (off + i * 34 + 1) M from by obtain ⟨_, rfl⟩ := e; exact ckey3)) Try.underlying23 rfl hiM rfl rfl ?_; simp only [Act.put, List.setIfInBounds_toArray, List.set_cons_succ, List.set_cons_zero]; go_big_quiet_on)
          | go_big_quiet_step (fail)
          | quiet_step (fail))
        refine wpQuiet_nil ?_
        intro jj
        have PUTJ := PUT jj
        have HB3J := Lib.hid (below_drewN HB3.out jj)
        clear PUT ck3 cv3 ckey3
        go_wp2_with fail
        refine PUTJ.mono ?_
        rintro e w4 ⟨rfl, hb4, hp4⟩
        go_wp2_with fail
        refine midPost_normal (rest_quiet (by kernel_rfl) ?_)
        simp only [List.drop_succ_cons, List.drop_nil]
        refine wpQuiet_nil ?_
        intro j2
        have HB5 := Lib.hid (below_drewN (HB3J.out.trans hb4) j2)
        have RPUT : ∀ m, Calls Try.prog 33 #[.pointer (some ⟨x, 0, none⟩), .agg M.toArray, .int .i64 d.val] ((w4.drewN j2).drewN m) (PairPost (w3.drewN jj) w.heap.size h x n g (.tuple #[])) := fun m => by rw [World.drewN_drewN]; exact hp4 _
        clear PUTJ hb4 hp4
        generalize w4.drewN j2 = w5 at *
        obtain ⟨-, cv5, ckey5⟩ := HR.out w5 HB5.out
        go_wp2_with fail
        refine wp_region_mid 11 (by kernel_rfl) (by kernel_rfl) rfl ?_
        simp only [List.take_succ_cons, List.take_zero, List.drop_zero]
        repeat (first
          | (go_big_quiet_want; refine quiet_mid_of (fun w' e => (show w'.rangeAt b0 (off + i * 34 + 1) M from by obtain ⟨_, rfl⟩ := e; exact ckey5)) Try.underlying23 rfl hiM rfl rfl ?_; simp only [Act.put, List.setIfInBounds_toArray, List.set_cons_succ, List.set_cons_zero]; go_big_quiet_on)
          | go_big_quiet_step (fail)
          | quiet_step (fail))
        refine wpQuiet_nil ?_
        intro j3
        have RPUTJ := RPUT j3
        clear RPUT cv5 ckey5
        go_wp2_with fail
        refine RPUTJ.mono ?_
        rintro e w6 ⟨rfl, hb6, b', c', S', n', g', a', cp', L', q6, z6, hn6, hg6⟩
        go_wp2_with fail
        refine midPost_normal (rest_quiet (by kernel_rfl) ?_)
        simp only [List.drop_succ_cons, List.drop_nil]
        refine wpQuiet_nil ?_
        intro j4
        have HB7 := Lib.hid (below_drewN (HB3J.out.trans hb6) j4)
        have AL := alike_any (q6.drewN j4)
        have HQ7 := Lib.hid (q6.drewN j4)
        have HZ7 := Lib.hid z6
        clear RPUTJ hb6 q6 z6
        generalize w6.drewN j4 = w7 at *
        go_wp2_with fail
        refine AL.mono ?_
        rintro e w8 ⟨rfl, hb8⟩
        go_wp2
        go_roundw
        case rel => exact ⟨i + 1, b', c', S', n', g', a', cp', L', by omega, by go_num, HQ7.out.below hb8, HZ7.out, by omega, by omega, HB7.out.trans (hb8.mono HB7.out.size)⟩
        case measure => simp [intOf]; omega
      · have hkb0 : (d.kind == 0) = false := by simpa using hk0
        clear hk0
        by_cases hk1 : d.kind = 1
        · have hkb1 : (d.kind == 1) = true := by simp [hk1]
          clear hk1
          have DEL := (HALL.out w3.drew (HQ3.out.drewN 1) HB3.out.size).2
          have HB3J := Lib.hid (below_drewN HB3.out 1)
          have ne : Nonempty (Of fun w' : World => w'.rangeAt b0 (off + i * 34 + 1) M) := of_ne ckey3
          have st0 : (fun w' : World => w'.rangeAt b0 (off + i * 34 + 1) M) w3.drew := ckey3
          go_wp2_with fail
          refine wp_region_plan [([0, 1, 2, 3, 4, 5, 7, 8, 9, 10, 11, 12], some 6), ([], some 13), ([14], none)] (fun w' => ∃ y : Of (fun w' : World => w'.rangeAt b0 (off + i * 34 + 1) M), w' = y.to) (by kernel_rfl) (by kernel_rfl) (fun _ _ d _ _ h => by cases d <;> exact h) (of_mk st0) ?_
          refine plan_some (show wpQuiet _ _ _ _ (_ :: _ :: _ :: _ :: _ :: _ :: _ :: _ :: _ :: _ :: _ :: _ :: []) _ from ?_)
          repeat (first
            | (go_big_quiet_want; refine quiet_mid_of (fun w' e => (show w'.rangeAt b0 (off + i * 34 + 1) M from by obtain ⟨y, rfl⟩ := e; exact y.ok)) Try.underlying23 rfl hiM rfl rfl ?_; simp only [Act.put, List.setIfInBounds_toArray, List.set_cons_succ, List.set_cons_zero]; go_big_quiet_on)
            | go_big_quiet_step (fail)
            | quiet_step (fail))
          refine wpQuiet_nil (show wpList _ _ _ (_ :: []) _ _ from ?_)
          clear ckey3 ck3 cv3
          go_wp2_with fail
          refine DEL.mono ?_
          rintro e w4 ⟨rr, rfl, hb4, hp4⟩
          have HB4 := Lib.hid (HB3J.out.trans hb4)
          have st4 : (fun w' : World => w'.rangeAt b0 (off + i * 34 + 1) M) w4 := (HR.out w4 HB4.out).2.2
          have RDEL := hp4 0
          rw [World.drewN_zero] at RDEL
          have hrr : (rr != rr) = false := by simp
          clear DEL hb4 hp4 st0
          go_wp2_with fail
          refine late_normal (fun _ h => h) (of_mk st4) ?_
          refine plan_some (show wpQuiet _ _ _ _ [] _ from ?_)
          refine wpQuiet_nil (show wpList _ _ _ (_ :: []) _ _ from ?_)
          go_wp2_with fail
          refine RDEL.mono ?_
          rintro e w6 ⟨rfl, hb6, b', c', S', n', g', a', cp', L', q6, z6, hn6, hg6⟩
          have HB7 := Lib.hid (HB3J.out.trans hb6)
          have st6 : (fun w' : World => w'.rangeAt b0 (off + i * 34 + 1) M) w6 := (HR.out w6 HB7.out).2.2
          have AL := alike_any q6
          have HQ7 := Lib.hid q6
          have HZ7 := Lib.hid z6
          clear RDEL hb6 q6 z6 st4
          go_wp2_with fail
          refine late_normal (fun _ h => h) (of_mk st6) ?_
          refine plan_none (show wpQuiet _ _ _ _ (_ :: []) _ from ?_)
          repeat (first
            | go_big_quiet_step (fail)
            | quiet_step (fail))
          refine wpQuiet_nil ?_
          refine plan_nil ?_
          clear st6 ne
          go_wp2_with fail
          refine AL.mono ?_
          rintro e w8 ⟨rfl, hb8⟩
          go_wp2
          go_roundw
          case rel => exact ⟨i + 1, b', c', S', n', g', a', cp', L', by omega, by go_num, HQ7.out.below hb8, HZ7.out, by omega, by omega, HB7.out.trans (hb8.mono HB7.out.size)⟩
          case measure => simp [intOf]; omega
        · have hkb1 : (d.kind == 1) = false := by simpa using hk1
          clear hk1
          have GT := HGET.out w3 HQ3.out
          rcases HAT.out with ⟨rfl, hno⟩ | ⟨j, hj, rfl, hjk⟩
          · have GT2 := GT none fun v => ⟨fun hh => by
              obtain ⟨p, hp, e⟩ := (HQ3.out.sim.had d.key).1 ⟨v, hh⟩
              exact absurd e (hno p hp), fun e => by cases e⟩
            clear GT hno cv3
            go_wp2_with (with_reducible refine at_load 23 ?_; go_must (refine wpList_load_mid rfl 23 _ rfl b0 (off + i * 34 + 1) rfl M _ ckey3 Try.underlying23 rfl hiM ?_))
            refine GT2.mono ?_
            rintro e w4 ⟨rfl, hb4⟩
            have HQ4 := Lib.hid (HQ3.out.below hb4)
            have HB4 := Lib.hid (HB3.out.trans (hb4.mono HB3.out.size))
            clear GT2 hb4 ckey3 ck3
            have AL := alike_any HQ4.out
            go_wp2_with fail
            refine AL.mono ?_
            rintro e w8 ⟨rfl, hb8⟩
            go_wp2
            go_roundw
            case rel => exact ⟨i + 1, bb, c, S, n, g, aa, cp, L, by omega, by go_num, HQ4.out.below hb8, HZ.out, by omega, by omega, HB4.out.trans (hb8.mono HB4.out.size)⟩
            case measure => simp [intOf]; omega
          · have GT2 := GT (some L[j].val) fun v => by
              rw [← hjk]
              exact HQ3.out.sim.val (List.getElem_mem hj) v
            obtain ⟨bL, oL, rfl, hrows⟩ := HQ3.out.ref.rows.rows.resolve_left (fun e => by rw [e] at hj; simp at hj)
            have cval := rangeAt_cell (hrows j hj) (kvC_val (HQ3.out.ref.key _ (List.getElem_mem hj)))
            have c0 := HQ3.out.ref.head.c0
            have hfL := HQ3.out.ref.rows.fits
            have hrL := HQ3.out.ref.rows.room
            obtain ⟨vl, hvl⟩ : ∃ vl, L[j].val = vl := ⟨_, rfl⟩
            rw [hvl] at GT2 cval
            clear GT hrows cv3 hvl hjk
            go_wp2_with (with_reducible refine at_load 23 ?_; go_must (refine wpList_load_mid rfl 23 _ rfl b0 (off + i * 34 + 1) rfl M _ ckey3 Try.underlying23 rfl hiM ?_))
            refine GT2.mono ?_
            rintro e w4 ⟨rfl, hb4⟩
            have k4 : Keeps w3 w4 := Keeps.below hb4
            have c04 := k4 _ _ c0
            have cval4 := k4 _ _ cval
            have HQ4 := Lib.hid (HQ3.out.below hb4)
            have HB4 := Lib.hid (HB3.out.trans (hb4.mono HB3.out.size))
            clear GT2 hb4 ckey3 ck3 c0 cval k4
            have g1 : decide ((j : Int) ≥ 0) = true := decide_eq_true (by omega)
            have g2 : decide (0 ≤ (j : Int)) = true := decide_eq_true (by omega)
            have AL := alike_any HQ4.out
            go_wp2_with fail
            refine AL.mono ?_
            rintro e w8 ⟨rfl, hb8⟩
            go_wp2
            go_roundw
            case rel => exact ⟨i + 1, bb, c, S, n, g, _, cp, L, by omega, by go_num, HQ4.out.below hb8, HZ.out, by omega, by omega, HB4.out.trans (hb8.mono HB4.out.size)⟩
            case measure => simp [intOf]; omega
    · obtain rfl : i = l.length := by omega
      go_wp2_with fail
      refine (lives_any wr).mono ?_
      rintro e w3 ⟨rfl, hb3⟩
      go_wp2
      go_ret
      exact ⟨rfl, hbr.trans (hb3.mono hbr.size)⟩
end Go.Proofs.Ytahmnpbfjfllmaa
