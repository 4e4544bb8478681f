/- Sums out of digits: the program's FromHex. -/
import Derived.Test.YtnodcjjmodbjiaaDoorDigits
import Derived.Test.YtnodcjjmodbjiaaDoorShaNobodyW
namespace Go.Proofs.YtnodcjjmodbjiaaDoor
open Go Go.RowKit

theorem results_cell_tmp {P : Program} {fn : Func} {p q : Tmp} {ty : TypeId} (h : fn.results = #[.cell p ty, .tmp q]) (tmps : Array Value) (w : World) (g : Nat) (t : TypeId) (cs : Array Value) (fr : Nat × Nat) (d : TypeDesc)
    (hp : tmps.getD p undef = .pointer (some ⟨g, 0, none⟩)) (hg : w.heap[g]? = some (.cells cs t fr))
    (hu : P.underlying ty = some d) (hd : (match d with | .struct _ | .array _ _ => true | _ => false) = true) (hi : (P.info? ty).map (·.size) = some cs.size) :
    (results fn tmps).run P w = .ok (.tuple #[.agg cs, tmps.getD q undef]) w := by
  have hp' : tmps[p]?.getD undef = .pointer (some ⟨g, 0, none⟩) := by simpa using hp
  simp [results, h, hp', asAddr, run_loadVar_row w g t ty cs fr d hg hu hd hi]
theorem bs_get (l : List (BitVec 8)) (i : Nat) (h : i < l.length) (h2 : i < (bs l).size) : ((bs l)[i]'h2).toNat = (byteAt l i).toNat := by
  have e : (bs l).data[i]? = some (ub (byteAt l i)) := by simp [bs, byteAt_lt h, h]
  have h3 : i < (bs l).data.size := h2
  have e2 : (bs l).data[i]? = some ((bs l).data[i]'h3) := Array.getElem?_eq_getElem h3
  have e3 : (bs l)[i]'h2 = (bs l).data[i]'h3 := rfl
  rw [e3]
  rw [e] at e2
  rw [← Option.some.inj e2]
  simp [ub]
theorem run_index_bs (l : List (BitVec 8)) (i : Nat) (h : i < l.length) (w : World) : (Instr.index 9 (.string (bs l)) (.int .i64 i)).run Tryd.prog w = .ok (U8 (byteAt l i)) w := by
  have hs := bs_size l
  rw [run_index_string w 9 _ .i64 (i : Int) Tryd.underlying9, dif_pos ⟨by omega, by rw [hs]; omega⟩]
  have h2 := bs_get l i h (by rw [hs]; exact h)
  simp only [Int.toNat_natCast]
  rw [h2]; rfl
def pairB (a b : BitVec 8) : BitVec 8 := BitVec.ofInt 8 (dig a) * 16#8 + BitVec.ofInt 8 (dig b)
def fromB (l : List (BitVec 8)) : List (BitVec 8) := (List.range 32).map fun i => pairB (byteAt l (2 * i)) (byteAt l (2 * i + 1))
theorem fromB_at (l : List (BitVec 8)) (i : Nat) (h : i < 32) : byteAt (fromB l) i = pairB (byteAt l (2 * i)) (byteAt l (2 * i + 1)) := by
  simp [byteAt, fromB, List.getD_eq_getElem?_getD, h]
theorem length_fromB (l : List (BitVec 8)) : (fromB l).length = 32 := by simp [fromB]
def Valid (l : List (BitVec 8)) : Prop := l.length = 64 ∧ ∀ i, i < 64 → 0 ≤ dig (byteAt l i)
instance (l : List (BitVec 8)) : Decidable (Valid l) := by unfold Valid; infer_instance
def validB (l : List (BitVec 8)) : Bool := decide (Valid l)
def fromR (l : List (BitVec 8)) : List (BitVec 8) := if validB l then fromB l else zeroId
def Reads6 (l : List (BitVec 8)) (w : World) (e : Ending) (w' : World) : Prop := e = .returned (.tuple #[.agg ((fromR l).map U8).toArray, .bool (validB l)]) ∧ Below w.heap.size w w'
theorem reads6_bad {l : List (BitVec 8)} {w w' : World} (h : ¬ Valid l) (hb : Below w.heap.size w w') : Reads6 l w (.returned (.tuple #[.agg (zeroId.map U8).toArray, .bool false])) w' := by
  have h1 : validB l = false := by unfold validB; exact decide_eq_false h
  exact ⟨by rw [fromR, h1]; rfl, hb⟩
theorem reads6_ok {l : List (BitVec 8)} {w w' : World} (h : Valid l) (hb : Below w.heap.size w w') : Reads6 l w (.returned (.tuple #[.agg ((fromB l).map U8).toArray, .bool true])) w' := by
  have h1 : validB l = true := by unfold validB; exact decide_eq_true h
  exact ⟨by rw [fromR, h1]; rfl, hb⟩
theorem digit_quiet (c : BitVec 8) (w : World) (j : Nat) : Calls Tryd.prog 35 #[U8 c] (w.drewN j) fun e w'' => e = .returned (.int .i64 (dig c)) ∧ ∃ m, w'' = w.drewN m :=
  (digit_any c _).mono fun _ _ ⟨he, hw⟩ => ⟨he, j, hw.symm⟩
def FromRel (l z : List (BitVec 8)) (gd B : Nat) (w : World) (i : Value) (wr : World) : Prop :=
  ∃ (k : Nat) (f : List (BitVec 8)), k ≤ 32 ∧ i = .int .i64 k ∧ f.length = 32 ∧ IdAt wr gd f ∧ (∀ j, j < k → byteAt f j = pairB (byteAt l (2 * j)) (byteAt l (2 * j + 1))) ∧ (∀ j, j < 2 * k → 0 ≤ dig (byteAt l j)) ∧ IdAt wr B z ∧ Below B w wr
theorem or_nib : ∀ h l : Fin 16, bits .or .i64 ((h.val : Int) * 16) (l.val : Int) = (h.val : Int) * 16 + (l.val : Int) := by decide +kernel
theorem pair_val (h g : Nat) (hh : (h : Int) ≤ 15) (hg : (g : Int) ≤ 15) : Value.int .u8 ((h : Int) * 16 + g) = U8 (BitVec.ofInt 8 h * 16#8 + BitVec.ofInt 8 g) := by
  unfold U8
  congr 1
  rw [BitVec.toNat_add, BitVec.toNat_mul, BitVec.toNat_ofInt, BitVec.toNat_ofInt]
  simp
  omega
set_option maxHeartbeats 1000000 in
theorem fromHex_any (l : List (BitVec 8)) (hl : l.length ≤ 80) (w : World) : Calls Tryd.prog 23 #[.string (bs l)] w (Reads6 l w) := by
  obtain ⟨z, hz0, hz⟩ := zero_id
  have hzz : z = zeroId := hz0
  have hzl : z.length = 32 := by rw [hz0]; rfl
  have hbz := built_zero
  rw [← hzz] at hbz
  have hiz := id_size z hzl
  have hoz := id_one z
  have HZ := Lib.hid hzz
  clear hz0 hzz
  obtain ⟨B, hB⟩ : ∃ B, w.heap.size = B := ⟨_, rfl⟩
  have i1 : IdAt (w.alloc (.cells (z.map U8).toArray 26)) B z := by rw [← hB]; exact heap_alloc_new w _
  have i2 : IdAt ((w.alloc (.cells (z.map U8).toArray 26)).alloc (.cells (z.map U8).toArray 26)) B z := i1.below ((Below.refl _ _).alloc (Nat.le_refl _) _)
  have d2 : IdAt ((w.alloc (.cells (z.map U8).toArray 26)).alloc (.cells (z.map U8).toArray 26)) (B + 1) z := by
    have := heap_alloc_new (w.alloc (.cells (z.map U8).toArray 26)) (.cells (z.map U8).toArray 26)
    have e : (w.alloc (.cells (z.map U8).toArray 26)).heap.size = B + 1 := by simp [hB]
    rw [e] at this; exact this
  have hb2 : Below B w ((w.alloc (.cells (z.map U8).toArray 26)).alloc (.cells (z.map U8).toArray 26)) := ((hB ▸ Below.refl _ _ : Below B w w).alloc (by omega) _).alloc (by simp; omega) _
  have hlen := bs_size l
  clear i1
  by_cases h64 : l.length = 64
  · have hlI : ((bs l).size : Int) = 64 := by rw [hlen, h64]; rfl
    have hneq : (((bs l).size : Int) != 64) = false := by rw [hlI]; rfl
    have IX := fun i (hi : i < l.length) w => run_index_bs l i hi w
    have HL := Lib.hid h64
    go_enter Tryd.func23, Tryd.ntmps23
    go_wp2_with fail
    generalize (w.alloc (.cells (z.map U8).toArray 26)).alloc (.cells (z.map U8).toArray 26) = w2 at *
    have hBle : B ≤ w.heap.size := by omega
    have HB := Lib.hid hB
    have hgd : w.heap.size + 1 = B + 1 := by omega
    clear hlI hneq hlen h64 hz
    go_loopw [12] (fun i wr => FromRel l z (B + 1) B w i wr) (fun i _ => 32 - (intOf i).toNat)
    case atStart => exact ⟨0, z, by omega, rfl, hzl, d2, fun j h => by omega, fun j h => by omega, i2, hb2⟩
    case round =>
      clear i2 d2 hb2
      obtain ⟨k, f, hk, rfl, hfl, hd, hj, hv, hi, hbw⟩ := hrel
      by_cases hlt : k < 32
      · have h1 := IX (2 * k) (by have := HL.out; omega)
        have h2 := IX (2 * k + 1) (by have := HL.out; omega)
        obtain ⟨p, hp⟩ : ∃ p : Nat, 2 * (k : Int) = p := ⟨2 * k, by omega⟩
        obtain ⟨q, hq⟩ : ∃ q : Nat, (p : Int) + 1 = q := ⟨2 * k + 1, by omega⟩
        have hpk : p = 2 * k := by omega
        have hqk : q = 2 * k + 1 := by omega
        rw [← hpk] at h1
        rw [← hqk] at h2
        have ra := dig_range (byteAt l p)
        have rb := dig_range (byteAt l q)
        have HPK := Lib.hid hpk
        have HQK := Lib.hid hqk
        have hth := hd.thawed k
        have hcd := hd.cell (i := k) (by omega)
        have HD := Lib.hid hd
        have HJ := Lib.hid hj
        have HV := Lib.hid hv
        have HI := Lib.hid hi
        have HBW := Lib.hid hbw
        clear hpk hqk hd hj hv hi hbw
        generalize hca : byteAt l p = ca at *
        generalize hcb : byteAt l q = cb at *
        have HCA := Lib.hid hca
        have HCB := Lib.hid hcb
        clear hca hcb
        go_wp2_with fail
        go_quiet (exact digit_quiet _ _ _)
        have HD2 : Hid (IdAt (wr.drewN nq) (B + 1) f) := Lib.hid HD.out
        have HI2 : Hid (IdAt (wr.drewN nq) B z) := Lib.hid HI.out
        have HBW2 : Hid (Below B w (wr.drewN nq)) := Lib.hid (below_drewN (HB.out ▸ HBW.out) nq)
        have hth2 : (wr.drewN nq).frozen? ⟨B + 1, k, none⟩ = false := hth
        have hcd2 : (wr.drewN nq).cell? ⟨B + 1, k, none⟩ = some (U8 (byteAt f k)) := hcd
        clear h1 h2 hth hcd HD HI HBW hp hq
        generalize wr.drewN nq = w6 at *
        by_cases hbad : dig ca < 0 ∨ dig cb < 0
        · have hnv : ¬ Valid l := fun hv => by
            have h1 := hv.2 p (by have := HPK.out; omega)
            have h2 := hv.2 q (by have := HQK.out; omega)
            rw [HCA.out] at h1
            rw [HCB.out] at h2
            omega
          have hi2 : w6.heap[B]? = some (.cells (z.map U8).toArray 26 (0, 0)) := HI2.out
          have hivL := id_size zeroId rfl
          have hovL := id_one zeroId
          have hzfL : (z.map U8).toArray.size = (zeroId.map U8).toArray.size := by rw [HZ.out]
          have hr2 : (w6.setRow B (zeroId.map U8).toArray).heap[B]? = some (.cells (zeroId.map U8).toArray 26 (0, 0)) := setRow_heap w6 B _ _ 26 _ hi2
          have tR : Touch (fun x => x = B) w6 (w6.setRow B (zeroId.map U8).toArray) := Touch.setRow w6 _ _ rfl
          have hbf := HBW2.out.trans (tR.below (fun x e => by have e2 : x = B := e; omega) (by have := HBW2.out.size; omega))
          have hfin := reads6_bad (w := w) hnv (w' := w6.setRow B (zeroId.map U8).toArray) (by rw [HB.out]; exact hbf)
          clear hbf
          have hor : dig ca < 0 ∨ (¬ dig ca < 0 ∧ dig cb < 0) := by omega
          clear hbad hth2 hcd2 ra rb hnv
          rcases hor with hor | ⟨hor, hor2⟩
          · go_wp2_with (refine wpList_store_row rfl 26 _ _ rfl B (zeroId.map U8).toArray rfl rfl _ (z.map U8).toArray hi2 hivL hzfL hovL ?_)
            refine bodyPost_ret (results_cell_tmp rfl _ _ B _ (zeroId.map U8).toArray _ _ rfl hr2 Tryd.underlying26 rfl hivL) rfl ?_
            exact hfin
          · go_wp2_with (refine wpList_store_row rfl 26 _ _ rfl B (zeroId.map U8).toArray rfl rfl _ (z.map U8).toArray hi2 hivL hzfL hovL ?_)
            refine bodyPost_ret (results_cell_tmp rfl _ _ B _ (zeroId.map U8).toArray _ _ rfl hr2 Tryd.underlying26 rfl hivL) rfl ?_
            exact hfin
        · have hpair : pairB ca cb = BitVec.ofInt 8 (dig ca) * 16#8 + BitVec.ofInt 8 (dig cb) := rfl
          obtain ⟨h, hh⟩ : ∃ h : Nat, dig ca = h := ⟨(dig ca).toNat, by omega⟩
          obtain ⟨g, hg⟩ : ∃ g : Nat, dig cb = g := ⟨(dig cb).toNat, by omega⟩
          have hdh : 0 ≤ dig ca := by omega
          have hdg : 0 ≤ dig cb := by omega
          have hor := or_nib ⟨h, by omega⟩ ⟨g, by omega⟩
          simp only [] at hor
          have hh15 : (h : Int) ≤ 15 := by omega
          have hg15 : (g : Int) ≤ 15 := by omega
          have HDH := Lib.hid hdh
          have HDG := Lib.hid hdg
          rw [hh, hg] at hpair ⊢
          have HPAIR := Lib.hid hpair
          clear hbad ra rb hh hg hdh hdg hpair
          go_wp2_with fail
          go_roundw
          case rel =>
            have hpk := HPK.out
            have hqk := HQK.out
            have hv2 := pair_val h g hh15 hg15
            rw [← HPAIR.out] at hv2
            have t : Touch (fun x => x = B + 1) w6 (w6.setCell ⟨B + 1, k, none⟩ (U8 (pairB ca cb))) := Touch.set w6 (B + 1) k _ rfl
            rw [hv2]
            refine ⟨k + 1, f.set k (pairB ca cb), by omega, by go_num, by simp [hfl], HD2.out.set k _, fun j hj => ?_, fun j hj => ?_, HI2.out.touch t (show ¬ (B = B + 1) by omega), HBW2.out.trans (t.below (fun x e => by have e2 : x = B + 1 := e; omega) (by have := HBW2.out.size; omega))⟩
            · rw [byteAt_set _ _ _ _ (by omega)]
              split
              · rename_i e; subst e; rw [← hqk, ← hpk, HCA.out, HCB.out]
              · exact HJ.out j (by omega)
            · rcases Nat.lt_or_ge j (2 * k) with h1 | h1
              · exact HV.out j h1
              · rcases Nat.lt_or_ge j (2 * k + 1) with h2 | h2
                · obtain rfl : j = p := by omega
                  rw [HCA.out]; exact HDH.out
                · obtain rfl : j = q := by omega
                  rw [HCB.out]; exact HDG.out
          case measure => simp [intOf]; omega
      · obtain rfl : k = 32 := by omega
        have hval : Valid l := ⟨HL.out, fun i hi => hv i (by omega)⟩
        have e0 : f = fromB l := list_ext (by rw [hfl, length_fromB]) fun j h => by rw [hj j (by omega), fromB_at _ _ (by omega)]
        have hiv := id_size f hfl
        have hov := id_one f
        have hzf : (z.map U8).toArray.size = (f.map U8).toArray.size := by rw [List.size_toArray, List.size_toArray, List.length_map, List.length_map, hfl, hzl]
        have hr2 : (wr.setRow B (f.map U8).toArray).heap[B]? = some (.cells (f.map U8).toArray 26 (0, 0)) := setRow_heap wr B _ _ 26 _ hi
        have tR : Touch (fun x => x = B) wr (wr.setRow B (f.map U8).toArray) := Touch.setRow wr _ _ rfl
        have hbf := (HB.out ▸ hbw : Below B w wr).trans (tR.below (fun x e => by have e2 : x = B := e; omega) (by have := hbw.size; omega))
        have hfin := reads6_ok (w := w) hval (w' := wr.setRow B (f.map U8).toArray) (by rw [HB.out]; exact hbf)
        rw [← e0] at hfin
        have hd2 : wr.heap[B + 1]? = some (.cells (f.map U8).toArray 26 (0, 0)) := hd
        have hi2 : wr.heap[B]? = some (.cells (z.map U8).toArray 26 (0, 0)) := hi
        clear hbf hd hi hj hv hbw hval e0
        generalize (f.map U8).toArray = E at *
        go_wp2_with (first | (refine wpList_load_row rfl 26 _ rfl (B + 1) rfl _ E _ _ hd2 Tryd.underlying26 rfl hiv ?_) | (refine wpList_store_row rfl 26 _ _ rfl B E rfl rfl _ (z.map U8).toArray hi2 hiv hzf hov ?_))
        refine bodyPost_ret (results_cell_tmp rfl _ _ B _ E _ _ rfl hr2 Tryd.underlying26 rfl hiv) rfl ?_
        exact hfin
  · have hneq : (((bs l).size : Int) != 64) = true := by rw [hlen]; simp; omega
    have hnv : ¬ Valid l := fun hv => h64 hv.1
    have hi2 : ((w.alloc (.cells (z.map U8).toArray 26)).alloc (.cells (z.map U8).toArray 26)).heap[B]? = some (.cells (z.map U8).toArray 26 (0, 0)) := i2
    have hd2 : ((w.alloc (.cells (z.map U8).toArray 26)).alloc (.cells (z.map U8).toArray 26)).heap[B + 1]? = some (.cells (z.map U8).toArray 26 (0, 0)) := d2
    have hr2 : (((w.alloc (.cells (z.map U8).toArray 26)).alloc (.cells (z.map U8).toArray 26)).setRow B (z.map U8).toArray).heap[B]? = some (.cells (z.map U8).toArray 26 (0, 0)) := setRow_heap _ B _ _ 26 _ hi2
    have tR : Touch (fun x => x = B) ((w.alloc (.cells (z.map U8).toArray 26)).alloc (.cells (z.map U8).toArray 26)) (((w.alloc (.cells (z.map U8).toArray 26)).alloc (.cells (z.map U8).toArray 26)).setRow B (z.map U8).toArray) := Touch.setRow _ _ _ rfl
    have hbf := hb2.trans (tR.below (fun x e => by have e2 : x = B := e; omega) (by have := hb2.size; omega))
    have hfin := reads6_bad (w := w) hnv (w' := ((w.alloc (.cells (z.map U8).toArray 26)).alloc (.cells (z.map U8).toArray 26)).setRow B (z.map U8).toArray) (by rw [hB]; exact hbf)
    rw [← HZ.out] at hfin
    clear hbf i2 d2 hb2 hlen h64 hnv tR
    generalize (z.map U8).toArray = E at *
    go_enter Tryd.func23, Tryd.ntmps23
    go_wp2_with (first | (refine wpList_load_row rfl 26 _ rfl (B + 1) rfl _ E _ _ hd2 Tryd.underlying26 rfl hiz ?_) | (refine wpList_store_row rfl 26 _ _ rfl B E rfl rfl _ E hi2 hiz rfl hoz ?_))
    refine bodyPost_ret (results_cell_tmp rfl _ _ B _ E _ _ rfl hr2 Tryd.underlying26 rfl hiz) rfl ?_
    exact hfin
end Go.Proofs.YtnodcjjmodbjiaaDoor
