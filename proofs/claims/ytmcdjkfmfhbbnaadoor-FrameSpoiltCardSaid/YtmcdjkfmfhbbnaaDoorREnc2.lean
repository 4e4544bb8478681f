/- The reference's Encode, where it encodes. -/
import Derived.Test.YtmcdjkfmfhbbnaaDoorREnc
namespace Go.Proofs.YtmcdjkfmfhbbnaaDoor
open Go Go.RowKit

theorem rput_at (x : BitVec 64) (w : World) : Calls Tryd.prog 32 #[U64 x, .int .i64 4] w fun e w' =>
    ∃ v, e = .returned v ∧ Owns w' w.heap.size 5 v (leB x 4) ∧ Below w.heap.size w w' := rput_any x 4 (by decide) (by decide) w
def REncRel (w1 : World) (tb : BitVec 8) (key : List (BitVec 8)) (v i : Value) (wr : World) : Prop :=
  ∃ k : Nat, k ≤ 32 ∧ i = .int .i64 k ∧ Owns wr w1.heap.size 5 v (tb :: key.take k) ∧ Below w1.heap.size w1 wr
theorem key_take (key : List (BitVec 8)) (k : Nat) (hk : key.length = 32) (h : k < 32) (tb : BitVec 8) : tb :: key.take (k + 1) = (tb :: key.take k) ++ [byteAt key k] := by
  rw [take_snoc key k (by omega)]; rfl
set_option maxHeartbeats 2000000 in
theorem rencode_yes (e : Ent) (a : Option Addr) (cap : Nat) (hk : e.key.length = 32) (w : World) (hr : Reads w a cap e.data) (hc : chk e = 0) :
    Calls Tryd.prog 13 #[.agg (entC e (.slice a e.data.length cap)).toArray] w (EncPost w e) := by
  have hE := entAt_alloc w e (.slice a e.data.length cap) 26 hk
  have hb := (Below.refl w.heap.size w).alloc (Nat.le_refl _) (.cells (entC e (.slice a e.data.length cap)).toArray 26)
  have hsz := size_le e
  have he : enc e = sumB (body e) ++ body e := by unfold enc; rw [if_pos hc]; rfl
  have hbody : body e = leB (BitVec.ofNat 64 (size e)) 4 ++ ([BitVec.ofInt 8 e.tag] ++ ((if e.tag = 2 then [] else e.key) ++ e.data)) := rfl
  have hlb := length_body hk hc
  have hco := chk_ok hc
  unfold EncPost
  rw [he, hc]
  have CC := Lib.hid (fun (W : World) (hw : Below (w.alloc (.cells (entC e (.slice a e.data.length cap)).toArray 26)).heap.size (w.alloc (.cells (entC e (.slice a e.data.length cap)).toArray 26)) W) =>
    (show W.cell? ⟨w.heap.size, 0, none⟩ = some (.int .i64 e.tag) ∧ W.rangeAt w.heap.size 1 (e.key.map U8) ∧ BytesAt W w.heap.size 1 e.key ∧ W.cell? ⟨w.heap.size, 33, none⟩ = some (.slice a e.data.length cap) from by
      have q := hE.keeps (Keeps.below hw)
      have q33 := q.c33
      have qk := q.ck
      rw [Nat.zero_add] at q33 qk
      refine ⟨q.c0, qk, fun i hi => ?_, q33⟩
      rw [qk i (U8 (byteAt e.key i)) (by rw [List.getElem?_map, List.getElem?_eq_getElem hi, byteAt_lt hi]; rfl)]))
  have hik : (Tryd.prog.info? 23).map (·.size) = some (e.key.map U8).length := by rw [List.length_map, hk]; kernel_rfl
  have hbk := built_key
  have hnk := run_neq_key e.key zeroKey hk rfl
  have HR := Lib.hid hr
  have HB1 := Lib.hid hb
  have hsz1 : w.heap.size < (w.alloc (.cells (entC e (.slice a e.data.length cap)).toArray 26)).heap.size := by simp
  have hw1 := CC.out _ (Below.refl _ _)
  obtain ⟨n, hn⟩ : ∃ n, size e = n := ⟨_, rfl⟩
  rw [hn] at hbody hlb hsz
  have hs9 : 9 ≤ n := by
    rw [← hn]; unfold size; rw [if_pos hc]; split <;> omega
  clear hn hc he hE hr hb
  generalize hBd : body e = Bd at *
  clear hBd
  have HKL := Lib.hid hk
  clear hk
  generalize entC e (.slice a e.data.length cap) = C at *
  generalize hkey : e.key = key at *
  generalize hdat : e.data = data at *
  generalize htag : e.tag = tag at *
  clear hkey hdat htag
  have HLB := Lib.hid hlb
  have HBD := Lib.hid hbody
  clear hlb hbody
  have hl : data.length ≤ 16384 := by
    rcases hco with h | h | h
    · exact h.2
    · rw [h.2]; exact Nat.zero_le _
    · rw [h.2.2]; exact Nat.zero_le _
  obtain ⟨c0, ckr, ck, c33⟩ := hw1
  -- the end of the walk
  have htb : Value.int .u8 tag = U8 (BitVec.ofInt 8 tag) := u8_of tag (by rcases hco with h | h | h <;> rw [h.1] <;> decide) (by rcases hco with h | h | h <;> rw [h.1] <;> decide)
  generalize hTB : BitVec.ofInt 8 tag = tb at *
  clear hTB
  have DAT := Lib.hid (fun (W : World) (hw : Below (w.alloc (.cells C.toArray 26)).heap.size (w.alloc (.cells C.toArray 26)) W) => (show Below w.heap.size w W ∧ Reads W a cap data from by
    have q := HB1.out.trans (hw.mono (by simp))
    exact ⟨q, HR.out.keeps (Keeps.below q)⟩))
  clear HR HB1
  have rl1 : Reads ((w.alloc (.cells C.toArray 26)).alloc (.cells #[.int .u8 tag] 5)) (some ⟨(w.alloc (.cells C.toArray 26)).heap.size, 0, none⟩) 1 [tb] := reads_lit _ #[.int .u8 tag] 5 (0, 0) [tb] (by rw [htb]; rfl) (by simp)
  have ow1 : Owns ((w.alloc (.cells C.toArray 26)).alloc (.cells #[.int .u8 tag] 5)) (w.alloc (.cells C.toArray 26)).heap.size 5 (.slice (some ⟨w.heap.size + 1, 0, none⟩) 1 1) [tb] := by
    rw [show w.heap.size + 1 = (w.alloc (.cells C.toArray 26)).heap.size by simp]
    refine ⟨rfl, .inr ⟨_, 1, #[.int .u8 tag], rfl, Nat.le_refl _, heap_alloc_new _ _, Nat.le_refl _, by unfold maxLen; omega, rfl, ?_⟩⟩
    rw [htb]; rfl
  have bl1 : Below (w.alloc (.cells C.toArray 26)).heap.size (w.alloc (.cells C.toArray 26)) ((w.alloc (.cells C.toArray 26)).alloc (.cells #[.int .u8 tag] 5)) := (Below.refl _ _).alloc (Nat.le_refl _) _
  clear rl1 htb
  rcases hco with ⟨rfl, hd⟩ | ⟨rfl, hd⟩ | ⟨rfl, hkz, hd⟩
  · have hd' : ¬ (16384 : Int) < (data.length : Int) := by omega
    have HBD2 := Lib.hid (show Bd = leB (BitVec.ofNat 64 n) 4 ++ ([tb] ++ (key ++ data)) from HBD.out)
    clear HBD
    have HBD := HBD2
    clear HBD2
    go_enter Tryd.func13, Tryd.ntmps13
    go_wp2_with fail
    generalize (w.alloc (.cells C.toArray 26)).alloc (.cells #[.int .u8 0] 5) = w2 at *
    generalize hw1g : w.alloc (.cells C.toArray 26) = w1 at *
    clear hw1g c0 ck ckr c33
    go_loopw [4, 5] (fun v i wr => REncRel w1 tb key v i wr) (fun _ i _ => 32 - (intOf i).toNat)
    case atStart => exact ⟨0, by omega, rfl, ow1, bl1⟩
    case round =>
      clear ow1 bl1
      obtain ⟨k, hk, rfl, hor, hbr⟩ := hrel
      obtain ⟨c0r, _, ckr, _⟩ := CC.out _ hbr
      by_cases hlt : k < 32
      · have ckk := ckr k (by rw [HKL.out]; exact hlt)
        have hkt := key_take key k HKL.out hlt tb
        have HKT := Lib.hid hkt
        have hlen : (tb :: key.take k).length ≤ 33 := by rw [List.length_cons, List.length_take]; omega
        clear hkt ckr
        generalize byteAt key k = c at *
        generalize tb :: key.take k = L at *
        have hlx : L.length + 1 ≤ 140737488355328 := by omega
        have hor' := hor.below (w' := wr.alloc (.cells #[U8 c] 5)) ((Below.refl _ _).alloc (Nat.le_refl _) _)
        have hbs := hbr.size
        have hrz := reads_lit wr #[U8 c] 5 (0, 0) [c] rfl (by simp)
        have hz' : w1.heap.size ≤ (wr.alloc (.cells #[U8 c] 5)).heap.size := by simp; omega
        go_wp2_with (at_builtin; go_must (refine wpList_append_n byteSlice rfl _ _ rfl w1.heap.size _ L rfl hor' _ 1 1 [c] rfl rfl hrz hlx hz' ?_))
        intro v3 w3 ho3 hg3
        go_wp2_with fail
        go_roundw
        case rel =>
          refine ⟨k + 1, by omega, by go_num, ?_, grown_below (hbr.trans (((Below.refl _ _).alloc (Nat.le_refl _) _).mono hbs)) (Nat.le_refl _) hor' hg3⟩
          rw [HKT.out]; exact ho3
        case measure => simp [intOf]; omega
      · obtain rfl : k = 32 := by omega
        rw [List.take_of_length_le (by rw [HKL.out]; exact Nat.le_refl _)] at hor
        clear ckr
        obtain ⟨K, hKe⟩ : ∃ K, key = K := ⟨_, rfl⟩
        have hKl : K.length ≤ 32 := by rw [← hKe, HKL.out]; exact Nat.le_refl _
        have hBDk : Bd = leB (BitVec.ofNat 64 n) 4 ++ ([tb] ++ (K ++ data)) := by rw [← hKe]; exact HBD.out
        rw [hKe] at hor
        clear hKe HBD
        have HBD := Lib.hid hBDk
        clear hBDk
        obtain ⟨L3, hL3⟩ : ∃ L3, tb :: K = L3 := ⟨_, rfl⟩
        have HL3 := Lib.hid (show L3.length = K.length + 1 by rw [← hL3]; rfl)
        rw [hL3] at hor
        have HE3 := Lib.hid hL3
        clear hL3
        obtain ⟨_, _, _, c33r⟩ := CC.out _ hbr
        have rdr := (DAT.out _ hbr).2
        have hsr := hbr.size
        go_wp2_with (at_builtin; go_must (refine wpList_append_bytes byteSlice rfl _ _ rfl w1.heap.size _ L3 rfl hor a cap data rfl rdr (by rw [HL3.out]; omega) hsr ?_))
        intro v4 w4 ho4 hg4
        have hb4 := grown_below hbr (Nat.le_refl _) hor hg4
        obtain ⟨L4, hL4⟩ : ∃ L4, L3 ++ data = L4 := ⟨_, rfl⟩
        have hB4 : leB (BitVec.ofNat 64 n) 4 ++ L4 = Bd := by rw [HBD.out, ← hL4, ← HE3.out]; rfl
        have hl4 : L4.length + 8 = n := by
          have q := HLB.out
          rw [← hB4, List.length_append, length_leB] at q
          omega
        rw [hL4] at ho4
        have PU := fun (W : World) => rput_at (BitVec.ofNat 64 n) W
        rw [← u64_nat n (by omega), show (n : Int) = (L4.length : Int) + 8 by omega] at PU
        have hx4 := Lib.hid (length_leB (BitVec.ofNat 64 n) 4)
        have HL4 := Lib.hid hl4
        have HB4 := Lib.hid hB4
        have hl4' : (L4.length : Int) ≤ 1000000 := by omega
        clear hL4 hor hg4 c33r rdr hl4 hB4 hsr
        generalize leB (BitVec.ofNat 64 n) 4 = x at *
        obtain ⟨a4, c4, rfl, r4⟩ := ho4.reads
        go_wp2_with fail
        refine (PU _).mono ?_
        rintro en w5 ⟨v5, rfl, ho5, hb5⟩
        have ho5 := ho5.mono (B' := w1.heap.size) hb4.size
        have r5 := r4.keeps (Keeps.below hb5)
        have hb5 := hb4.trans (hb5.mono hb4.size)
        have hs5 := hb5.size
        clear PU ho4 r4 hb4
        go_wp2_with (at_builtin; go_must (refine wpList_append_bytes byteSlice rfl _ _ rfl w1.heap.size v5 x rfl ho5 a4 c4 L4 rfl r5 (by rw [hx4.out]; omega) hs5 ?_))
        intro v6 w6 ho6 hg6
        have hb6 := grown_below hb5 (Nat.le_refl _) ho5 hg6
        rw [HB4.out] at ho6
        have hB6 := ho6
        have hbl : Bd.length ≤ 1000000 := by have := HLB.out; omega
        clear ho5 hg6 r5 hb5 hs5
        obtain ⟨a6, c6, rfl, r6⟩ := ho6.reads
        have SU := refSum_any a6 c6 Bd w6 r6
        have PU2 := fun W => rput_at ((CrcMath.sum Bd).setWidth 64) W
        have hy4 := Lib.hid (length_leB ((CrcMath.sum Bd).setWidth 64) 4)
        generalize hY : leB ((CrcMath.sum Bd).setWidth 64) 4 = y at *
        have HY := Lib.hid hY
        clear hY hB6
        go_wp2_with fail
        refine SU.mono ?_
        rintro en w' ⟨rfl, rfl⟩
        go_wp2_with fail
        refine (PU2 _).mono ?_
        rintro en w7 ⟨v7, rfl, ho7, hb7⟩
        have ho7 := ho7.mono (B' := w1.heap.size) hb6.size
        have r7 := r6.keeps (Keeps.below hb7)
        have hb7 := hb6.trans (hb7.mono hb6.size)
        have hs7 := hb7.size
        clear PU2 SU ho6 r6 hb6
        go_wp2_with (at_builtin; go_must (refine wpList_append_bytes byteSlice rfl _ _ rfl w1.heap.size v7 y rfl ho7 a6 c6 Bd rfl r7 (by rw [hy4.out]; omega) hs7 ?_))
        intro v8 w8 ho8 hg8
        have hb8 := grown_below hb7 (Nat.le_refl _) ho7 hg8
        go_wp2_with fail
        go_ret2
        exact ⟨_, rfl, by unfold sumB; rw [HY.out]; exact ho8.mono (by omega), (DAT.out _ hb8).1⟩
  · have hd0 : data.length = 0 := by rw [hd]; rfl
    have HDD := Lib.hid hd
    clear hd
    have HBD2 := Lib.hid (show Bd = leB (BitVec.ofNat 64 n) 4 ++ ([tb] ++ (key ++ data)) from HBD.out)
    clear HBD
    have HBD := HBD2
    clear HBD2
    go_enter Tryd.func13, Tryd.ntmps13
    go_wp2_with fail
    generalize (w.alloc (.cells C.toArray 26)).alloc (.cells #[.int .u8 1] 5) = w2 at *
    generalize hw1g : w.alloc (.cells C.toArray 26) = w1 at *
    clear hw1g c0 ck ckr c33
    go_loopw [4, 5] (fun v i wr => REncRel w1 tb key v i wr) (fun _ i _ => 32 - (intOf i).toNat)
    case atStart => exact ⟨0, by omega, rfl, ow1, bl1⟩
    case round =>
      clear ow1 bl1
      obtain ⟨k, hk, rfl, hor, hbr⟩ := hrel
      obtain ⟨c0r, _, ckr, _⟩ := CC.out _ hbr
      by_cases hlt : k < 32
      · have ckk := ckr k (by rw [HKL.out]; exact hlt)
        have hkt := key_take key k HKL.out hlt tb
        have HKT := Lib.hid hkt
        have hlen : (tb :: key.take k).length ≤ 33 := by rw [List.length_cons, List.length_take]; omega
        clear hkt ckr
        generalize byteAt key k = c at *
        generalize tb :: key.take k = L at *
        have hlx : L.length + 1 ≤ 140737488355328 := by omega
        have hor' := hor.below (w' := wr.alloc (.cells #[U8 c] 5)) ((Below.refl _ _).alloc (Nat.le_refl _) _)
        have hbs := hbr.size
        have hrz := reads_lit wr #[U8 c] 5 (0, 0) [c] rfl (by simp)
        have hz' : w1.heap.size ≤ (wr.alloc (.cells #[U8 c] 5)).heap.size := by simp; omega
        go_wp2_with (at_builtin; go_must (refine wpList_append_n byteSlice rfl _ _ rfl w1.heap.size _ L rfl hor' _ 1 1 [c] rfl rfl hrz hlx hz' ?_))
        intro v3 w3 ho3 hg3
        go_wp2_with fail
        go_roundw
        case rel =>
          refine ⟨k + 1, by omega, by go_num, ?_, grown_below (hbr.trans (((Below.refl _ _).alloc (Nat.le_refl _) _).mono hbs)) (Nat.le_refl _) hor' hg3⟩
          rw [HKT.out]; exact ho3
        case measure => simp [intOf]; omega
      · obtain rfl : k = 32 := by omega
        rw [List.take_of_length_le (by rw [HKL.out]; exact Nat.le_refl _)] at hor
        clear ckr
        obtain ⟨K, hKe⟩ : ∃ K, key = K := ⟨_, rfl⟩
        have hKl : K.length ≤ 32 := by rw [← hKe, HKL.out]; exact Nat.le_refl _
        have hBDk : Bd = leB (BitVec.ofNat 64 n) 4 ++ ([tb] ++ (K ++ data)) := by rw [← hKe]; exact HBD.out
        rw [hKe] at hor
        clear hKe HBD
        have HBD := Lib.hid hBDk
        clear hBDk
        obtain ⟨L3, hL3⟩ : ∃ L3, tb :: K = L3 := ⟨_, rfl⟩
        have HL3 := Lib.hid (show L3.length = K.length + 1 by rw [← hL3]; rfl)
        rw [hL3] at hor
        have HE3 := Lib.hid hL3
        clear hL3
        obtain ⟨_, _, _, c33r⟩ := CC.out _ hbr
        have rdr := (DAT.out _ hbr).2
        have hsr := hbr.size
        go_wp2_with (at_builtin; go_must (refine wpList_append_n byteSlice rfl _ _ rfl w1.heap.size _ L3 rfl hor a 0 cap data rfl (by omega) rdr (by rw [HL3.out]; omega) hsr ?_))
        intro v4 w4 ho4 hg4
        have hb4 := grown_below hbr (Nat.le_refl _) hor hg4
        obtain ⟨L4, hL4⟩ : ∃ L4, L3 ++ data = L4 := ⟨_, rfl⟩
        have hB4 : leB (BitVec.ofNat 64 n) 4 ++ L4 = Bd := by rw [HBD.out, ← hL4, ← HE3.out]; rfl
        have hl4 : L4.length + 8 = n := by
          have q := HLB.out
          rw [← hB4, List.length_append, length_leB] at q
          omega
        rw [hL4] at ho4
        have PU := fun (W : World) => rput_at (BitVec.ofNat 64 n) W
        rw [← u64_nat n (by omega), show (n : Int) = (L4.length : Int) + 8 by omega] at PU
        have hx4 := Lib.hid (length_leB (BitVec.ofNat 64 n) 4)
        have HL4 := Lib.hid hl4
        have HB4 := Lib.hid hB4
        have hl4' : (L4.length : Int) ≤ 1000000 := by omega
        clear hL4 hor hg4 c33r rdr hl4 hB4 hsr
        generalize leB (BitVec.ofNat 64 n) 4 = x at *
        obtain ⟨a4, c4, rfl, r4⟩ := ho4.reads
        go_wp2_with fail
        refine (PU _).mono ?_
        rintro en w5 ⟨v5, rfl, ho5, hb5⟩
        have ho5 := ho5.mono (B' := w1.heap.size) hb4.size
        have r5 := r4.keeps (Keeps.below hb5)
        have hb5 := hb4.trans (hb5.mono hb4.size)
        have hs5 := hb5.size
        clear PU ho4 r4 hb4
        go_wp2_with (at_builtin; go_must (refine wpList_append_bytes byteSlice rfl _ _ rfl w1.heap.size v5 x rfl ho5 a4 c4 L4 rfl r5 (by rw [hx4.out]; omega) hs5 ?_))
        intro v6 w6 ho6 hg6
        have hb6 := grown_below hb5 (Nat.le_refl _) ho5 hg6
        rw [HB4.out] at ho6
        have hB6 := ho6
        have hbl : Bd.length ≤ 1000000 := by have := HLB.out; omega
        clear ho5 hg6 r5 hb5 hs5
        obtain ⟨a6, c6, rfl, r6⟩ := ho6.reads
        have SU := refSum_any a6 c6 Bd w6 r6
        have PU2 := fun W => rput_at ((CrcMath.sum Bd).setWidth 64) W
        have hy4 := Lib.hid (length_leB ((CrcMath.sum Bd).setWidth 64) 4)
        generalize hY : leB ((CrcMath.sum Bd).setWidth 64) 4 = y at *
        have HY := Lib.hid hY
        clear hY hB6
        go_wp2_with fail
        refine SU.mono ?_
        rintro en w' ⟨rfl, rfl⟩
        go_wp2_with fail
        refine (PU2 _).mono ?_
        rintro en w7 ⟨v7, rfl, ho7, hb7⟩
        have ho7 := ho7.mono (B' := w1.heap.size) hb6.size
        have r7 := r6.keeps (Keeps.below hb7)
        have hb7 := hb6.trans (hb7.mono hb6.size)
        have hs7 := hb7.size
        clear PU2 SU ho6 r6 hb6
        go_wp2_with (at_builtin; go_must (refine wpList_append_bytes byteSlice rfl _ _ rfl w1.heap.size v7 y rfl ho7 a6 c6 Bd rfl r7 (by rw [hy4.out]; omega) hs7 ?_))
        intro v8 w8 ho8 hg8
        have hb8 := grown_below hb7 (Nat.le_refl _) ho7 hg8
        go_wp2_with fail
        go_ret2
        exact ⟨_, rfl, by unfold sumB; rw [HY.out]; exact ho8.mono (by omega), (DAT.out _ hb8).1⟩
  · have hd0 : data.length = 0 := by rw [hd]; rfl
    have HDD := Lib.hid hd
    have hkk : (key == zeroKey) = true := by rw [hkz]; exact beq_self_eq_true _
    rw [hkk] at hnk
    have HKZ := Lib.hid hkz
    clear hd hkz hkk
    have HBD2 := Lib.hid (show Bd = leB (BitVec.ofNat 64 n) 4 ++ ([tb] ++ ([] ++ data)) from HBD.out)
    clear HBD
    have HBD := HBD2
    clear HBD2
    generalize (zeroKey.map U8).toArray = Z at *
    generalize key.map U8 = KM at *
    go_enter Tryd.func13, Tryd.ntmps13
    go_wp2_with (first
      | (with_reducible refine at_load 23 ?_; go_must (refine wpList_load_mid_g rfl 23 _ rfl w.heap.size 1 rfl KM _ ckr Tryd.underlying23 rfl hik ?_))
      | (with_reducible refine at_build 23 ?_; go_must (refine wpList_built_g rfl 23 _ rfl Z (by go_simp) ?_)))
    generalize (w.alloc (.cells C.toArray 26)).alloc (.cells #[.int .u8 2] 5) = w2 at *
    generalize hw1g : w.alloc (.cells C.toArray 26) = w1 at *
    clear hw1g c0 ck ckr c33 hnk
    obtain ⟨c0r, _, _, _⟩ := CC.out _ bl1
    refine wp_loop_once ?_
    have hor := ow1
    have hbr := bl1
    obtain ⟨K, hKe⟩ : ∃ K : List (BitVec 8), [] = K := ⟨_, rfl⟩
    have hKl : K.length ≤ 32 := by rw [← hKe]; exact Nat.zero_le _
    have hBDk : Bd = leB (BitVec.ofNat 64 n) 4 ++ ([tb] ++ (K ++ data)) := by rw [← hKe]; exact HBD.out
    rw [hKe] at hor
    clear hKe HBD ow1 bl1
    have HBD := Lib.hid hBDk
    clear hBDk
    obtain ⟨L3, hL3⟩ : ∃ L3, tb :: K = L3 := ⟨_, rfl⟩
    have HL3 := Lib.hid (show L3.length = K.length + 1 by rw [← hL3]; rfl)
    rw [hL3] at hor
    have HE3 := Lib.hid hL3
    clear hL3
    obtain ⟨_, _, _, c33r⟩ := CC.out _ hbr
    have rdr := (DAT.out _ hbr).2
    have hsr := hbr.size
    go_wp2_with (at_builtin; go_must (refine wpList_append_n byteSlice rfl _ _ rfl w1.heap.size _ L3 rfl hor a 0 cap data rfl (by omega) rdr (by rw [HL3.out]; omega) hsr ?_))
    intro v4 w4 ho4 hg4
    have hb4 := grown_below hbr (Nat.le_refl _) hor hg4
    obtain ⟨L4, hL4⟩ : ∃ L4, L3 ++ data = L4 := ⟨_, rfl⟩
    have hB4 : leB (BitVec.ofNat 64 n) 4 ++ L4 = Bd := by rw [HBD.out, ← hL4, ← HE3.out]; rfl
    have hl4 : L4.length + 8 = n := by
      have q := HLB.out
      rw [← hB4, List.length_append, length_leB] at q
      omega
    rw [hL4] at ho4
    have PU := fun (W : World) => rput_at (BitVec.ofNat 64 n) W
    rw [← u64_nat n (by omega), show (n : Int) = (L4.length : Int) + 8 by omega] at PU
    have hx4 := Lib.hid (length_leB (BitVec.ofNat 64 n) 4)
    have HL4 := Lib.hid hl4
    have HB4 := Lib.hid hB4
    have hl4' : (L4.length : Int) ≤ 1000000 := by omega
    clear hL4 hor hg4 c33r rdr hl4 hB4 hsr
    generalize leB (BitVec.ofNat 64 n) 4 = x at *
    obtain ⟨a4, c4, rfl, r4⟩ := ho4.reads
    go_wp2_with fail
    refine (PU _).mono ?_
    rintro en w5 ⟨v5, rfl, ho5, hb5⟩
    have ho5 := ho5.mono (B' := w1.heap.size) hb4.size
    have r5 := r4.keeps (Keeps.below hb5)
    have hb5 := hb4.trans (hb5.mono hb4.size)
    have hs5 := hb5.size
    clear PU ho4 r4 hb4
    go_wp2_with (at_builtin; go_must (refine wpList_append_bytes byteSlice rfl _ _ rfl w1.heap.size v5 x rfl ho5 a4 c4 L4 rfl r5 (by rw [hx4.out]; omega) hs5 ?_))
    intro v6 w6 ho6 hg6
    have hb6 := grown_below hb5 (Nat.le_refl _) ho5 hg6
    rw [HB4.out] at ho6
    have hB6 := ho6
    have hbl : Bd.length ≤ 1000000 := by have := HLB.out; omega
    clear ho5 hg6 r5 hb5 hs5
    obtain ⟨a6, c6, rfl, r6⟩ := ho6.reads
    have SU := refSum_any a6 c6 Bd w6 r6
    have PU2 := fun W => rput_at ((CrcMath.sum Bd).setWidth 64) W
    have hy4 := Lib.hid (length_leB ((CrcMath.sum Bd).setWidth 64) 4)
    generalize hY : leB ((CrcMath.sum Bd).setWidth 64) 4 = y at *
    have HY := Lib.hid hY
    clear hY hB6
    go_wp2_with fail
    refine SU.mono ?_
    rintro en w' ⟨rfl, rfl⟩
    go_wp2_with fail
    refine (PU2 _).mono ?_
    rintro en w7 ⟨v7, rfl, ho7, hb7⟩
    have ho7 := ho7.mono (B' := w1.heap.size) hb6.size
    have r7 := r6.keeps (Keeps.below hb7)
    have hb7 := hb6.trans (hb7.mono hb6.size)
    have hs7 := hb7.size
    clear PU2 SU ho6 r6 hb6
    go_wp2_with (at_builtin; go_must (refine wpList_append_bytes byteSlice rfl _ _ rfl w1.heap.size v7 y rfl ho7 a6 c6 Bd rfl r7 (by rw [hy4.out]; omega) hs7 ?_))
    intro v8 w8 ho8 hg8
    have hb8 := grown_below hb7 (Nat.le_refl _) ho7 hg8
    go_wp2_with fail
    go_ret2
    exact ⟨_, rfl, by unfold sumB; rw [HY.out]; exact ho8.mono (by omega), (DAT.out _ hb8).1⟩
theorem rencode_any (e : Ent) (a : Option Addr) (cap : Nat) (hk : e.key.length = 32) (hl : e.data.length ≤ 1048576) (w : World) (hr : Reads w a cap e.data) :
    Calls Tryd.prog 13 #[.agg (entC e (.slice a e.data.length cap)).toArray] w (EncPost w e) := by
  by_cases hc : chk e = 0
  · exact rencode_yes e a cap hk w hr hc
  · exact rencode_no e a cap hk hl w hc
end Go.Proofs.YtmcdjkfmfhbbnaaDoor
