/- The law's walk: ShaHexes. -/
import Derived.Test.YtnodcjjmodbjiaaDoorRFromHex
import Derived.Test.YtnodcjjmodbjiaaDoorL
namespace Go.Proofs.YtnodcjjmodbjiaaDoor
open Go Go.RowKit

theorem hex_at (d : List (BitVec 8)) : ∀ i, i < d.length → byteAt (hexOf d) (2 * i) = hexd (byteAt d i >>> 4) ∧ byteAt (hexOf d) (2 * i + 1) = hexd (byteAt d i &&& 15#8) := by
  induction d with
  | nil => intro i h; simp at h
  | cons c d ih =>
    intro i h
    cases i with
    | zero => exact ⟨rfl, rfl⟩
    | succ i =>
      have h2 := ih i (by simpa using h)
      have e1 : byteAt (hexOf (c :: d)) (2 * (i + 1)) = byteAt (hexOf d) (2 * i) := by
        rw [show 2 * (i + 1) = 2 * i + 1 + 1 by omega]; rfl
      have e2 : byteAt (hexOf (c :: d)) (2 * (i + 1) + 1) = byteAt (hexOf d) (2 * i + 1) := by
        rw [show 2 * (i + 1) + 1 = 2 * i + 1 + 1 + 1 by omega]; rfl
      rw [e1, e2]
      exact h2
theorem pair_hex : ∀ c : BitVec 8, pairB (hexd (c >>> 4)) (hexd (c &&& 15#8)) = c ∧ 0 ≤ dig (hexd (c >>> 4)) ∧ 0 ≤ dig (hexd (c &&& 15#8)) := by decide +kernel
theorem valid_hex (d : List (BitVec 8)) (hd : d.length = 32) : Valid (hexOf d) := by
  refine ⟨by rw [length_hex, hd], fun i hi => ?_⟩
  obtain ⟨h1, h2⟩ := hex_at d (i / 2) (by omega)
  obtain ⟨_, h3, h4⟩ := pair_hex (byteAt d (i / 2))
  rcases Nat.mod_two_eq_zero_or_one i with h | h
  · rw [show 2 * (i / 2) = i by omega] at h1
    rw [h1]; exact h3
  · rw [show 2 * (i / 2) + 1 = i by omega] at h2
    rw [h2]; exact h4
theorem validB_hex (d : List (BitVec 8)) (hd : d.length = 32) : validB (hexOf d) = true := decide_eq_true (valid_hex d hd)
theorem fromR_hex (d : List (BitVec 8)) (hd : d.length = 32) : fromR (hexOf d) = d := by
  rw [fromR, validB_hex d hd, if_pos rfl]
  refine list_ext (by rw [length_fromB, hd]) fun j h => ?_
  rw [length_fromB] at h
  obtain ⟨h1, h2⟩ := hex_at d j (by omega)
  rw [fromB_at _ _ h, h1, h2, (pair_hex _).1]
theorem length_fromR (l : List (BitVec 8)) : (fromR l).length = 32 := by
  unfold fromR
  split
  · exact length_fromB l
  · rfl
theorem bs_take (l : List (BitVec 8)) (n : Nat) : (bs l).extract 0 n = bs (l.take n) := by
  apply ByteArray.ext
  simp [bs, ByteArray.data_extract, List.map_take]
theorem short_any (l : List (BitVec 8)) (hl : l.length ≤ 9223372036854775807) (w : World) : Calls Tryd.prog 22 #[.string (bs l), .int .i64 80] w fun e w' => e = .returned (.string (bs (l.take 80))) ∧ w = w' := by
  have hs := bs_size l
  by_cases h : 80 < l.length
  · have h1 : ((bs l).size : Int) > 80 := by omega
    have h2 : ((80 : Int) ≤ ((bs l).size : Int)) := by omega
    have h3 := bs_take l 80
    generalize bs (l.take 80) = s2 at *
    clear hs
    go_enter Tryd.func22, Tryd.ntmps22
    go_wp2
    go_ret
    exact ⟨by simp [h3], rfl⟩
  · have h1 : ¬ ((bs l).size : Int) > 80 := by omega
    rw [List.take_of_length_le (by omega)]
    clear hs
    go_enter Tryd.func22, Tryd.ntmps22
    go_wp2
    go_ret
    exact ⟨rfl, rfl⟩
/-- A place for a sum, and the sum in it. -/
theorem made_id (w : World) (z x : List (BitVec 8)) : IdAt ((w.alloc (.cells (z.map U8).toArray 26)).setRow w.heap.size (x.map U8).toArray) w.heap.size x ∧ Below w.heap.size w ((w.alloc (.cells (z.map U8).toArray 26)).setRow w.heap.size (x.map U8).toArray) := by
  have h1 : (w.alloc (.cells (z.map U8).toArray 26)).heap[w.heap.size]? = some (.cells (z.map U8).toArray 26 (0, 0)) := heap_alloc_new w _
  have t : Touch (fun x => x = w.heap.size) (w.alloc (.cells (z.map U8).toArray 26)) ((w.alloc (.cells (z.map U8).toArray 26)).setRow w.heap.size (x.map U8).toArray) := Touch.setRow _ _ _ rfl
  exact ⟨setRow_heap _ _ _ _ 26 _ h1, ((Below.refl _ _).alloc (Nat.le_refl _) _).trans (t.below (fun x e => by have e2 : x = w.heap.size := e; omega) (by simp))⟩
/-- A load of a whole array in any later world. -/
theorem quiet_load_row {P : Program} {w : World} {o : Oper} {a : Act} {K : Act → Prop} {ty : TypeId} {x : Operand} {g : Nat} {cs : Array Value} {t : TypeId} {fr : Nat × Nat} {d : TypeDesc}
    (hg : w.heap[g]? = some (.cells cs t fr)) (hu : P.underlying ty = some d) (hd : (match d with | .struct _ | .array _ _ => true | _ => false) = true) (hi : (P.info? ty).map (·.size) = some cs.size)
    (ho : o.op = .load ty x) (hx : a.eval x = .pointer (some ⟨g, 0, none⟩)) (hk : K (a.put o.dst (.agg cs))) : o.quiet P a (fun w' => ∃ y : Later w, w' = y.to) K := by
  refine ⟨.agg cs, ?_, hk⟩
  rintro w' ⟨y, rfl⟩
  have hlt : g < w.heap.size := by
    rcases Nat.lt_or_ge g w.heap.size with h | h
    · exact h
    · rw [Array.getElem?_eq_none h] at hg; cases hg
  have hg' : y.to.heap[g]? = some (.cells cs t fr) := (y.below.block g hlt).trans hg
  unfold Oper.quietAt execOp
  simp only [ho, hx, Instr.loadAt, Instr.sureAddr, Sem.run_bind, Sem.run_pure, Result.andThen_ok, run_loadVar_row y.to g t ty cs fr d hg' hu hd hi]
  exact ⟨rfl, rfl⟩
set_option maxHeartbeats 2000000 in
theorem shaHexes_walk (d l : List (BitVec 8)) (w : World) (hk : KTab w) (hd : d.length = 32) (hl : l.length ≤ 9223372036854775807) :
    Calls Tryd.prog 8 #[.agg (d.map U8).toArray, .string (bs l)] w fun e w' => e = .returned (.bool true) ∧ Below w.heap.size w w' := by
  obtain ⟨z, hz0, hz⟩ := zero_id
  have hzz : z = zeroId := hz0
  have hzl : z.length = 32 := by rw [hz0]; rfl
  have hbz := built_zero
  rw [← hzz] at hbz
  have hvz := id_size z hzl
  have hoz := id_one z
  clear hz0 hzz
  have hvd := id_size d hd
  have hod := id_one d
  have hl80 : (l.take 80).length ≤ 80 := by rw [List.length_take]; omega
  have hvt := id_size (fromR (l.take 80)) (length_fromR _)
  have hot := id_one (fromR (l.take 80))
  have SH := short_any l hl
  have FH := fromHex_any (l.take 80) hl80
  have RH := rfromHex_any (l.take 80) hl80
  have HH := hex_any d hd
  have RX := rhex_any d hd
  have BH := fromHex_any (hexOf d) (by rw [length_hex, hd]; omega)
  unfold Reads6 at FH RH BH
  rw [fromR_hex d hd, validB_hex d hd] at BH
  have EQX := run_eq_id (fromR (l.take 80)) (fromR (l.take 80)) (length_fromR _) (length_fromR _)
  have EQD := run_eq_id d d hd hd
  rw [beq_self_eq_true] at EQX EQD
  have hzx : (z.map U8).toArray.size = ((fromR (l.take 80)).map U8).toArray.size := by rw [List.size_toArray, List.size_toArray, List.length_map, List.length_map, length_fromR, hzl]
  have hzd : (z.map U8).toArray.size = (d.map U8).toArray.size := by rw [List.size_toArray, List.size_toArray, List.length_map, List.length_map, hd, hzl]
  have MX := fun w => made_id w z (fromR (l.take 80))
  have MD := fun w => made_id w z d
  have I0 : IdAt (w.alloc (.cells (d.map U8).toArray 26)) w.heap.size d := heap_alloc_new w _
  have B0 : Below w.heap.size w (w.alloc (.cells (d.map U8).toArray 26)) := (Below.refl _ _).alloc (Nat.le_refl _) _
  unfold IdAt at MX MD I0
  generalize fromR (l.take 80) = x at *
  generalize validB (l.take 80) = v at *
  generalize bs (l.take 80) = t at *
  generalize bs (hexOf d) = hx at *
  generalize (d.map U8).toArray = D at *
  generalize (x.map U8).toArray = X at *
  generalize (z.map U8).toArray = Z at *
  clear hl80 hd hl hzl
  go_enter Tryd.func8, Tryd.ntmps8
  go_wp2_with fail
  refine (SH _).mono ?_
  rintro e w' ⟨rfl, rfl⟩
  clear SH
  generalize w.alloc (.cells D 26) = w1 at *
  have B1 : Below w.heap.size w w1 := B0
  clear B0
  go_wp2_with fail
  refine (FH _).mono ?_
  rintro e w2 ⟨rfl, hb2⟩
  obtain ⟨m3, n3⟩ := MX w2
  have B2 := B1.trans (hb2.mono B1.size)
  have I2 := (show w2.heap[w.heap.size]? = some (.cells D 26 (0, 0)) from (hb2.block _ (heap_lt I0)).trans I0)
  have I3 := (n3.block _ (heap_lt I2)).trans I2
  have B3 := B2.trans (n3.mono B2.size)
  have hn2 := heap_alloc_new w2 (.cells Z 26)
  clear FH hb2 I2 I0 B1
  go_wp2_with (refine wpList_store_row rfl 26 _ _ rfl w2.heap.size X rfl rfl _ Z hn2 hvt hzx hot ?_)
  generalize hg5 : w2.heap.size = g5 at *
  generalize (w2.alloc (.cells Z 26)).setRow g5 X = w3 at *
  clear hn2 n3 B2 hg5
  refine (RH _).mono ?_
  rintro e w4 ⟨rfl, hb4⟩
  obtain ⟨m5, n5⟩ := MX w4
  have B4 := B3.trans (hb4.mono B3.size)
  have I4 := (show w4.heap[w.heap.size]? = some (.cells D 26 (0, 0)) from (hb4.block _ (heap_lt I3)).trans I3)
  have I5 := (n5.block _ (heap_lt I4)).trans I4
  have m4 := (show w4.heap[g5]? = some (.cells X 26 (0, 0)) from (hb4.block _ (heap_lt m3)).trans m3)
  have m4 := (n5.block _ (heap_lt m4)).trans m4
  have B5 := B4.trans (n5.mono B4.size)
  have hn4 := heap_alloc_new w4 (.cells Z 26)
  have IL := fun (y : World) (h : y.heap[w.heap.size]? = some (.cells D 26 (0, 0))) => h
  clear RH hb4 I3 I4 B3 m3
  go_wp2_with (first | (refine wpList_store_row rfl 26 _ _ rfl w4.heap.size X rfl rfl _ Z hn4 hvt hzx hot ?_) | (refine wpList_load_row rfl 26 _ rfl w.heap.size rfl _ D _ _ I5 Tryd.underlying26 rfl hvd ?_))
  generalize hg7 : w4.heap.size = g7 at *
  generalize (w4.alloc (.cells Z 26)).setRow g7 X = w5 at *
  clear hn4 n5 B4 hg7
  refine (HH _).mono ?_
  rintro e w6 ⟨rfl, hb6⟩
  have B6 := B5.trans (hb6.mono B5.size)
  have I6 := (show w6.heap[w.heap.size]? = some (.cells D 26 (0, 0)) from (hb6.block _ (heap_lt I5)).trans I5)
  have m6 := (show w6.heap[g5]? = some (.cells X 26 (0, 0)) from (hb6.block _ (heap_lt m4)).trans m4)
  have q6 := (show w6.heap[g7]? = some (.cells X 26 (0, 0)) from (hb6.block _ (heap_lt m5)).trans m5)
  clear hb6 I5 m4 m5 B5
  go_wp2_with fail
  refine (BH _).mono ?_
  rintro e w7 ⟨rfl, hb7⟩
  have B7 := B6.trans (hb7.mono B6.size)
  have I7 := (show w7.heap[w.heap.size]? = some (.cells D 26 (0, 0)) from (hb7.block _ (heap_lt I6)).trans I6)
  have m7 := (show w7.heap[g5]? = some (.cells X 26 (0, 0)) from (hb7.block _ (heap_lt m6)).trans m6)
  have q7 := (show w7.heap[g7]? = some (.cells X 26 (0, 0)) from (hb7.block _ (heap_lt q6)).trans q6)
  obtain ⟨m9, n9⟩ := MD w7
  have B8 := B7.trans (n9.mono B7.size)
  have I8 := (n9.block _ (heap_lt I7)).trans I7
  have m8 := (n9.block _ (heap_lt m7)).trans m7
  have q8 := (n9.block _ (heap_lt q7)).trans q7
  have hn7 := heap_alloc_new w7 (.cells Z 26)
  clear BH hb7 I6 m6 q6 B6 B7 I7 m7 q7
  go_wp2_with (refine wpList_store_row rfl 26 _ _ rfl w7.heap.size D rfl rfl _ Z hn7 hvd hzd hod ?_)
  generalize hg9 : w7.heap.size = g9 at *
  generalize (w7.alloc (.cells Z 26)).setRow g9 D = w8 at *
  have HK8 := hk.keeps (Keeps.below B8)
  clear hn7 n9 hg9 MX MD IL hk
  refine wp_region_later (by kernel_rfl) (by kernel_rfl) ?_
  iterate 27
    (go_big_quiet_want
     first
      | refine quiet_load_row I8 Tryd.underlying26 rfl hvd rfl rfl ?_
      | refine quiet_load_row m8 Tryd.underlying26 rfl hvt rfl rfl ?_
      | refine quiet_load_row q8 Tryd.underlying26 rfl hvt rfl rfl ?_
      | refine quiet_load_row m9 Tryd.underlying26 rfl hvd rfl rfl ?_
      | go_big_quiet_op
     first
      | (simp only [Act.put, List.setIfInBounds_toArray, List.set_cons_succ, List.set_cons_zero]; go_big_quiet_on)
      | go_big_quiet_on
      | go_big_quiet_call (first | with_reducible exact Later.calls _ (HH _) | with_reducible exact Later.calls _ (RX _) | exact Later.calls _ (lives_any _ (HK8.keeps (Keeps.below (Later.below _))))))
  refine wpQuiet_nil ?_
  rintro _ ⟨y, rfl⟩
  have B9 := B8.trans (y.below.mono B8.size)
  generalize y.to = w9 at *
  go_wp2
  go_ret
  exact ⟨rfl, B9⟩
end Go.Proofs.YtnodcjjmodbjiaaDoor
