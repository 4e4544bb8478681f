/- The reference's rounds. -/
import Derived.Test.YtnodcjjmodbjiaaDoorSpread
namespace Go.Proofs.YtnodcjjmodbjiaaDoor
open Go Go.RowKit

theorem built_k : Program.built Tryd.prog 60 [(0, .int .u32 1116352408), (1, .int .u32 1899447441), (2, .int .u32 3049323471), (3, .int .u32 3921009573), (4, .int .u32 961987163), (5, .int .u32 1508970993), (6, .int .u32 2453635748), (7, .int .u32 2870763221), (8, .int .u32 3624381080), (9, .int .u32 310598401), (10, .int .u32 607225278), (11, .int .u32 1426881987), (12, .int .u32 1925078388), (13, .int .u32 2162078206), (14, .int .u32 2614888103), (15, .int .u32 3248222580), (16, .int .u32 3835390401), (17, .int .u32 4022224774), (18, .int .u32 264347078), (19, .int .u32 604807628), (20, .int .u32 770255983), (21, .int .u32 1249150122), (22, .int .u32 1555081692), (23, .int .u32 1996064986), (24, .int .u32 2554220882), (25, .int .u32 2821834349), (26, .int .u32 2952996808), (27, .int .u32 3210313671), (28, .int .u32 3336571891), (29, .int .u32 3584528711), (30, .int .u32 113926993), (31, .int .u32 338241895), (32, .int .u32 666307205), (33, .int .u32 773529912), (34, .int .u32 1294757372), (35, .int .u32 1396182291), (36, .int .u32 1695183700), (37, .int .u32 1986661051), (38, .int .u32 2177026350), (39, .int .u32 2456956037), (40, .int .u32 2730485921), (41, .int .u32 2820302411), (42, .int .u32 3259730800), (43, .int .u32 3345764771), (44, .int .u32 3516065817), (45, .int .u32 3600352804), (46, .int .u32 4094571909), (47, .int .u32 275423344), (48, .int .u32 430227734), (49, .int .u32 506948616), (50, .int .u32 659060556), (51, .int .u32 883997877), (52, .int .u32 958139571), (53, .int .u32 1322822218), (54, .int .u32 1537002063), (55, .int .u32 1747873779), (56, .int .u32 1955562222), (57, .int .u32 2024104815), (58, .int .u32 2227730452), (59, .int .u32 2361852424), (60, .int .u32 2428436474), (61, .int .u32 2756734187), (62, .int .u32 3204031479), (63, .int .u32 3329325298)] = some (arr Sha.K) := by
  kernel_rfl
def RoundsRel (st : Sha.St) (S : Words) (w : World) (a b c d e f g h i : Value) (wr : World) : Prop :=
  ∃ (k n : Nat) (v : Sha.St), k ≤ 64 ∧ v = Sha.rounds st S k ∧ a = U32 v.a ∧ b = U32 v.b ∧ c = U32 v.c ∧ d = U32 v.d ∧ e = U32 v.e ∧ f = U32 v.f ∧ g = U32 v.g ∧ h = U32 v.h ∧ i = .int .i64 k ∧ wr = w.drewN n
theorem round_step (v : Sha.St) (xk xs t o : BitVec 32) (ht : v.h + (Sha.rotr v.e 6 ^^^ Sha.rotr v.e 11 ^^^ Sha.rotr v.e 25) + (v.e &&& v.f ||| (v.e ^^^ 4294967295#32) &&& v.g) + xk + xs = t)
    (ho : t + (Sha.rotr v.a 2 ^^^ Sha.rotr v.a 13 ^^^ Sha.rotr v.a 22) + (v.a &&& v.b ||| v.a &&& v.c ||| v.b &&& v.c) = o) : Sha.step v xk xs = ⟨o, v.a, v.b, v.c, v.d + t, v.e, v.f, v.g⟩ := by
  have h1 := Sha.ch_or v.e v.f v.g
  have h2 := Sha.maj_or v.a v.b v.c
  rw [h2] at ho
  rw [show (4294967295#32) = 0xffffffff#32 from rfl, h1] at ht
  subst ht ho
  simp only [Sha.step, Sha.big1, Sha.big0, BitVec.add_assoc]
set_option maxRecDepth 40000 in
set_option maxHeartbeats 2000000 in
theorem rounds_any (st : Sha.St) (S : Words) (gs cs gw cw : Nat) (w : World) (hS : S.length = 64) (hcs : ∀ j, j < 8 → w.cell? ⟨gs, j, none⟩ = some (U32 (wordAt st.list j))) (hcw : ∀ j, j < 64 → w.cell? ⟨gw, j, none⟩ = some (U32 (wordAt S j))) :
    Calls Tryd.prog 27 #[.slice (some ⟨gs, 0, none⟩) 8 cs, .slice (some ⟨gw, 0, none⟩) 64 cw] w fun e w' => ∃ v, e = .returned v ∧ OwnsW w' w.heap.size v (st.plus (Sha.rounds st S 64)).list ∧ Below w.heap.size w w' := by
  obtain ⟨z, hz, hzl⟩ := zero_words
  have hbu := built_k
  obtain ⟨KK, hKK⟩ : ∃ L : Words, L = Sha.K := ⟨_, rfl⟩
  rw [← hKK] at hbu
  have hKl : KK.length = 64 := by rw [hKK]; rfl
  have HKK := Lib.hid hKK
  clear hKK
  have hiv : (Tryd.prog.info? 60).map (·.size) = some (arr KK).size := by rw [arr_size, hKl]; kernel_rfl
  have hsz : (arr z).size = (arr KK).size := by rw [arr_size, arr_size, hKl, hzl]
  have hov := arr_one KK
  go_enter Tryd.func27, Tryd.ntmps27
  go_wp2_with (with_reducible refine stop_build ?roundEnd)
  refine wpList_built rfl 60 _ rfl (arr KK) ?hb0 ?nx1
  case hb0 => go_simp
  clear hbu
  have h3 : (w.alloc (.cells (arr z) 60)).heap[w.heap.size]? = some (.cells (arr z) 60 (0, 0)) := ArrAt.new w 60 z
  have a4 : ArrAt ((w.alloc (.cells (arr z) 60)).setRow w.heap.size (arr KK)) w.heap.size 60 KK := (ArrAt.new w 60 z).row KK
  have t4 : Touch (fun q => q = w.heap.size) w ((w.alloc (.cells (arr z) 60)).setRow w.heap.size (arr KK)) := ((Touch.refl _ _).alloc _).trans (Touch.setRow _ _ _ rfl)
  have hb4 := t4.below (B := w.heap.size) (fun q e => by have e2 : q = w.heap.size := e; omega) (Nat.le_refl _)
  have hcs4 : ∀ j, j < 8 → ((w.alloc (.cells (arr z) 60)).setRow w.heap.size (arr KK)).cell? ⟨gs, j, none⟩ = some (U32 (wordAt st.list j)) := fun j hj => Keeps.below hb4 _ _ (hcs j hj)
  have hcw4 : ∀ j, j < 64 → ((w.alloc (.cells (arr z) 60)).setRow w.heap.size (arr KK)).cell? ⟨gw, j, none⟩ = some (U32 (wordAt S j)) := fun j hj => Keeps.below hb4 _ _ (hcw j hj)
  clear hcs hcw
  go_wp2_with (first | (refine wpList_store_row rfl 60 _ _ rfl w.heap.size (arr KK) rfl rfl _ (arr z) h3 hiv hsz hov ?_) | fail)
  generalize (w.alloc (.cells (arr z) 60)).setRow w.heap.size (arr KK) = w5 at *
  have e0 : w5.cell? ⟨gs, 0, none⟩ = some (U32 st.a) := hcs4 0 (by decide)
  have e1 : w5.cell? ⟨gs, 1, none⟩ = some (U32 st.b) := hcs4 1 (by decide)
  have e2 : w5.cell? ⟨gs, 2, none⟩ = some (U32 st.c) := hcs4 2 (by decide)
  have e3 : w5.cell? ⟨gs, 3, none⟩ = some (U32 st.d) := hcs4 3 (by decide)
  have e4 : w5.cell? ⟨gs, 4, none⟩ = some (U32 st.e) := hcs4 4 (by decide)
  have e5 : w5.cell? ⟨gs, 5, none⟩ = some (U32 st.f) := hcs4 5 (by decide)
  have e6 : w5.cell? ⟨gs, 6, none⟩ = some (U32 st.g) := hcs4 6 (by decide)
  have e7 : w5.cell? ⟨gs, 7, none⟩ = some (U32 st.h) := hcs4 7 (by decide)
  go_quiet (fail)
  have f0 : (w5.drewN nq).cell? ⟨gs, 0, none⟩ = some (U32 st.a) := e0
  have f1 : (w5.drewN nq).cell? ⟨gs, 1, none⟩ = some (U32 st.b) := e1
  have f2 : (w5.drewN nq).cell? ⟨gs, 2, none⟩ = some (U32 st.c) := e2
  have f3 : (w5.drewN nq).cell? ⟨gs, 3, none⟩ = some (U32 st.d) := e3
  have f4 : (w5.drewN nq).cell? ⟨gs, 4, none⟩ = some (U32 st.e) := e4
  have f5 : (w5.drewN nq).cell? ⟨gs, 5, none⟩ = some (U32 st.f) := e5
  have f6 : (w5.drewN nq).cell? ⟨gs, 6, none⟩ = some (U32 st.g) := e6
  have f7 : (w5.drewN nq).cell? ⟨gs, 7, none⟩ = some (U32 st.h) := e7
  have HA : Hid (ArrAt (w5.drewN nq) w.heap.size 60 KK) := Lib.hid a4
  have HB : Hid (Below w.heap.size w (w5.drewN nq)) := Lib.hid (below_drewN hb4 nq)
  have HW : Hid (∀ j, j < 64 → (w5.drewN nq).cell? ⟨gw, j, none⟩ = some (U32 (wordAt S j))) := Lib.hid hcw4
  clear e0 e1 e2 e3 e4 e5 e6 e7 a4 hb4 hcw4 hcs4 h3 hiv hsz hov t4 hz
  generalize w5.drewN nq = w6 at *
  go_wp2
  go_quiet (fail)
  have e0 : (w6.drewN nq).cell? ⟨gs, 0, none⟩ = some (U32 st.a) := f0
  have e1 : (w6.drewN nq).cell? ⟨gs, 1, none⟩ = some (U32 st.b) := f1
  have e2 : (w6.drewN nq).cell? ⟨gs, 2, none⟩ = some (U32 st.c) := f2
  have e3 : (w6.drewN nq).cell? ⟨gs, 3, none⟩ = some (U32 st.d) := f3
  have e4 : (w6.drewN nq).cell? ⟨gs, 4, none⟩ = some (U32 st.e) := f4
  have e5 : (w6.drewN nq).cell? ⟨gs, 5, none⟩ = some (U32 st.f) := f5
  have e6 : (w6.drewN nq).cell? ⟨gs, 6, none⟩ = some (U32 st.g) := f6
  have e7 : (w6.drewN nq).cell? ⟨gs, 7, none⟩ = some (U32 st.h) := f7
  have HA2 : Hid (ArrAt (w6.drewN nq) w.heap.size 60 KK) := Lib.hid HA.out
  have HB2 : Hid (Below w.heap.size w (w6.drewN nq)) := Lib.hid (below_drewN HB.out nq)
  have HW2 : Hid (∀ j, j < 64 → (w6.drewN nq).cell? ⟨gw, j, none⟩ = some (U32 (wordAt S j))) := Lib.hid HW.out
  clear f0 f1 f2 f3 f4 f5 f6 f7 HA HB HW
  generalize w6.drewN nq = w7 at *
  go_wp2
  go_loopw [6, 7, 8, 9, 10, 11, 12, 13, 14] (fun a b c d e f g h i wr => RoundsRel st S w7 a b c d e f g h i wr) (fun _ _ _ _ _ _ _ _ i _ => 64 - (intOf i).toNat)
  case atStart => exact ⟨0, 0, st, by omega, rfl, rfl, rfl, rfl, rfl, rfl, rfl, rfl, rfl, rfl, rfl⟩
  case round =>
    obtain ⟨k, n, v, hk, hv, rfl, rfl, rfl, rfl, rfl, rfl, rfl, rfl, rfl, hw⟩ := hrel
    have HWR := Lib.hid hw
    by_cases hlt : k < 64
    · have ek : wr.cell? ⟨w.heap.size, k, none⟩ = some (U32 (wordAt KK k)) := by
        rw [hw]; exact HA2.out.cell (by rw [hKl]; exact hlt)
      have es : wr.cell? ⟨gw, k, none⟩ = some (U32 (wordAt S k)) := by rw [hw]; exact HW2.out k hlt
      have hn : Sha.rounds st S (k + 1) = Sha.step v (wordAt KK k) (wordAt S k) := by rw [hv, HKK.out]; rfl
      have HN := Lib.hid hn
      clear hn hv hw e0 e1 e2 e3 e4 e5 e6 e7
      generalize wordAt KK k = xk at *
      generalize wordAt S k = xs at *
      have T6 : ∀ u, Calls Tryd.prog 38 #[U32 v.e, .int .u64 6] u fun e u' => e = .returned (U32 (Sha.rotr v.e 6)) ∧ u = u' := fun u => turned_any v.e 6 (by decide) (by decide) u
      have T11 : ∀ u, Calls Tryd.prog 38 #[U32 v.e, .int .u64 11] u fun e u' => e = .returned (U32 (Sha.rotr v.e 11)) ∧ u = u' := fun u => turned_any v.e 11 (by decide) (by decide) u
      have T25 : ∀ u, Calls Tryd.prog 38 #[U32 v.e, .int .u64 25] u fun e u' => e = .returned (U32 (Sha.rotr v.e 25)) ∧ u = u' := fun u => turned_any v.e 25 (by decide) (by decide) u
      have T2 : ∀ u, Calls Tryd.prog 38 #[U32 v.a, .int .u64 2] u fun e u' => e = .returned (U32 (Sha.rotr v.a 2)) ∧ u = u' := fun u => turned_any v.a 2 (by decide) (by decide) u
      have T13 : ∀ u, Calls Tryd.prog 38 #[U32 v.a, .int .u64 13] u fun e u' => e = .returned (U32 (Sha.rotr v.a 13)) ∧ u = u' := fun u => turned_any v.a 13 (by decide) (by decide) u
      have T22 : ∀ u, Calls Tryd.prog 38 #[U32 v.a, .int .u64 22] u fun e u' => e = .returned (U32 (Sha.rotr v.a 22)) ∧ u = u' := fun u => turned_any v.a 22 (by decide) (by decide) u
      go_wp2_with fail
      refine (T6 _).mono ?_
      rintro e w' ⟨rfl, rfl⟩
      go_wp2_with fail
      refine (T11 _).mono ?_
      rintro e w' ⟨rfl, rfl⟩
      go_wp2_with fail
      refine (T25 _).mono ?_
      rintro e w' ⟨rfl, rfl⟩
      go_wp2_with fail
      go_quiet (fail)
      go_wp2_with fail
      refine (T2 _).mono ?_
      rintro e w' ⟨rfl, rfl⟩
      go_wp2_with fail
      refine (T13 _).mono ?_
      rintro e w' ⟨rfl, rfl⟩
      go_wp2_with fail
      refine (T22 _).mono ?_
      rintro e w' ⟨rfl, rfl⟩
      clear T6 T11 T25 T2 T13 T22 ek es
      go_wp2
      go_roundw
      case rel =>
        have hstep := round_step v xk xs _ _ rfl rfl
        exact ⟨k + 1, n + nq, Sha.step v xk xs, by omega, HN.out.symm, by rw [hstep], by rw [hstep], by rw [hstep], by rw [hstep], by rw [hstep], by rw [hstep], by rw [hstep], by rw [hstep], by go_num, by rw [HWR.out, World.drewN_drewN]⟩
      case measure => simp [intOf]; omega
    · obtain rfl : k = 64 := by omega
      rw [show (((64 : Nat) : Int)) = 64 from rfl]
      have g0 : wr.cell? ⟨gs, 0, none⟩ = some (U32 st.a) := by rw [hw]; exact e0
      have g1 : wr.cell? ⟨gs, 1, none⟩ = some (U32 st.b) := by rw [hw]; exact e1
      have g2 : wr.cell? ⟨gs, 2, none⟩ = some (U32 st.c) := by rw [hw]; exact e2
      have g3 : wr.cell? ⟨gs, 3, none⟩ = some (U32 st.d) := by rw [hw]; exact e3
      have g4 : wr.cell? ⟨gs, 4, none⟩ = some (U32 st.e) := by rw [hw]; exact e4
      have g5 : wr.cell? ⟨gs, 5, none⟩ = some (U32 st.f) := by rw [hw]; exact e5
      have g6 : wr.cell? ⟨gs, 6, none⟩ = some (U32 st.g) := by rw [hw]; exact e6
      have g7 : wr.cell? ⟨gs, 7, none⟩ = some (U32 st.h) := by rw [hw]; exact e7
      subst hv
      generalize hv2 : Sha.rounds st S 64 = v at *
      have HV2 := Lib.hid hv2
      clear hv2
      have hwb : Below w.heap.size w wr := by rw [hw]; exact below_drewN HB2.out n
      have HWB := Lib.hid hwb
      clear e0 e1 e2 e3 e4 e5 e6 e7 hw hwb HWR
      go_wp2_with fail
      refine wp_region_mid 40 (by kernel_rfl) (by kernel_rfl) rfl ?_
      simp only [List.take_succ_cons, List.take_zero, List.drop_zero]
      repeat (first | go_big_quiet_step (fail) | quiet_step (fail))
      refine wpQuiet_nil ?_
      intro j
      have HB3 : Hid (Below w.heap.size w (wr.drewN j)) := Lib.hid (below_drewN HWB.out j)
      clear g0 g1 g2 g3 g4 g5 g6 g7 HWB
      generalize wr.drewN j = w8 at *
      go_wp2
      refine midPost_normal (rest_quiet (by kernel_rfl) ?_)
      simp only [List.drop_succ_cons, List.drop_nil]
      repeat (first | go_big_quiet_step (fail) | quiet_step (fail))
      refine wpQuiet_nil ?_
      intro j'
      have hown : OwnsW (w8.alloc (.cells #[U32 (st.a + v.a), U32 (st.b + v.b), U32 (st.c + v.c), U32 (st.d + v.d), U32 (st.e + v.e), U32 (st.f + v.f), U32 (st.g + v.g), U32 (st.h + v.h)] 42)) w.heap.size (.slice (some ⟨w8.heap.size, 0, none⟩) 8 8) (st.plus v).list :=
        World.ownsRow_lit w8 (e := 42) (size := 1) #[U32 (st.a + v.a), U32 (st.b + v.b), U32 (st.c + v.c), U32 (st.d + v.d), U32 (st.e + v.e), U32 (st.f + v.f), U32 (st.g + v.g), U32 (st.h + v.h)] 8 HB3.out.size (by unfold maxLen; omega) rfl
      have hbf : Below w.heap.size w (w8.alloc (.cells #[U32 (st.a + v.a), U32 (st.b + v.b), U32 (st.c + v.c), U32 (st.d + v.d), U32 (st.e + v.e), U32 (st.f + v.f), U32 (st.g + v.g), U32 (st.h + v.h)] 42)) := HB3.out.alloc HB3.out.size _
      generalize w8.alloc (.cells #[U32 (st.a + v.a), U32 (st.b + v.b), U32 (st.c + v.c), U32 (st.d + v.d), U32 (st.e + v.e), U32 (st.f + v.f), U32 (st.g + v.g), U32 (st.h + v.h)] 42) = w9 at *
      generalize hg8 : w8.heap.size = g8 at *
      clear hg8
      have HO := Lib.hid hown
      have HBF := Lib.hid hbf
      clear hown hbf
      go_wp2
      go_ret
      refine ⟨_, rfl, ?_, below_drewN HBF.out j'⟩
      rw [HV2.out]; exact HO.out
end Go.Proofs.YtnodcjjmodbjiaaDoor
