/- The law's walk: ShaPieces. -/
import Derived.Test.YtnodcjjmodbjiaaDoorHCopy
namespace Go.Proofs.YtnodcjjmodbjiaaDoor
open Go Go.RowKit

theorem Hasher.mono {w : World} {B B' b : Nat} {v : Value} {l : List (BitVec 8)} (h : Hasher w B b v l) (hB : B' ≤ B) : Hasher w B' b v l := ⟨h.at_, h.own.mono hB, h.vb, Nat.le_trans hB h.low⟩
def PiecesRel (m : List (BitVec 8)) (n40 : Nat) (B : Nat) (w : World) (h r i : Value) (wr : World) : Prop :=
  ∃ (j k b : Nat) (v : Value) (a1 : Option Addr) (c1 : Nat), j ≤ 40 ∧ j ≤ n40 ∧ k ≤ m.length ∧ h = .pointer (some ⟨b, 0, none⟩) ∧ r = .slice a1 (m.length - k) c1 ∧ i = .int .i64 j ∧
    Hasher wr B b v (m.take k) ∧ Reads wr a1 c1 (m.drop k) ∧ (m ≠ [] → ∀ ad, a1 = some ad → ad.block < B) ∧ Below B w wr
theorem within_nat (x : Int) (n : Nat) : ∃ k : Nat, within x 0 n = k ∧ k ≤ n := by
  refine ⟨(within x 0 n).toNat, ?_, ?_⟩ <;> unfold within <;> split <;> (try split) <;> omega
set_option maxRecDepth 40000 in
set_option maxHeartbeats 2000000 in
theorem shaPieces_walk (a : Option Addr) (cap : Nat) (l : List (BitVec 8)) (a2 : Option Addr) (cap2 : Nat) (cuts : List Int) (cp : Bool) (w : World) (hk : KTab w) (hr : Reads w a cap l) (hr2 : IReads w a2 cap2 cuts) :
    Calls Tryd.prog 6 #[.slice a l.length cap, .slice a2 cuts.length cap2, .bool cp] w fun e w' => e = .returned (.bool true) ∧ Below w.heap.size w w' := by
  go_enter Tryd.func6, Tryd.ntmps6
  go_wp2_with fail
  refine (cut_any _ _ l 1000 _ _ rfl hr (by decide)).mono ?_
  rintro e w' ⟨rfl, rfl⟩
  have hm := hr.take 1000
  have hlen : (l.take 1000).length ≤ 1000 := by rw [List.length_take]; omega
  generalize l.take 1000 = m at *
  go_wp2_with fail
  refine (new_any w).mono ?_
  rintro e w1 ⟨b0, rfl, hb0, hh0, hbl0⟩
  have hm1 := hm.keeps (Keeps.below hbl0)
  have hlt0 : m ≠ [] → ∀ ad, a = some ad → ad.block < w.heap.size := fun h => hm.lt h
  have hBk := hk.lt
  have hrc := hr2.fits
  have hrr := hr2.room
  go_wp2
  obtain ⟨B, hB⟩ : ∃ B, w.heap.size = B := ⟨_, rfl⟩
  rw [hB] at hb0 hh0 hbl0 hlt0 hBk
  go_loopw [7, 8, 9] (fun h r i wr => PiecesRel m cuts.length B w h r i wr) (fun _ _ i _ => 40 - (intOf i).toNat)
  case atStart => exact ⟨0, 0, b0, _, a, cap, by omega, by omega, by omega, rfl, rfl, rfl, hh0, hm1, hlt0, hbl0⟩
  case round =>
    clear hb0 hh0 hbl0 hm1
    obtain ⟨j, k, b, v, a1, c1, hj40, hjn, hk1, rfl, rfl, rfl, hh, hrr1, hlt1, hbw⟩ := hrel
    have hBs : B ≤ wr.heap.size := hB ▸ hbw.size
    have hkr := hk.keeps (Keeps.below (hB.symm ▸ hbw))
    by_cases hgo : j < cuts.length ∧ j < 40
    · obtain ⟨hg1, hg2⟩ := hgo
      obtain ⟨gb, goff, rfl, hcell⟩ := hr2.ints.resolve_left (fun e => by rw [e] at hg1; simp at hg1)
      have hc : wr.cell? ⟨gb, goff + j, none⟩ = some (.int .i64 (cuts.getD j 0)) := Keeps.below (hB.symm ▸ hbw) _ _ (hcell j hg1)
      obtain ⟨n, hn, hn2⟩ := within_nat (cuts.getD j 0) (m.length - k)
      have WI := fun w' => within_any (cuts.getD j 0) 0 ((m.length - k : Nat) : Int) w'
      rw [hn] at WI
      have hdl : (m.drop k).length = m.length - k := List.length_drop
      have hfit := hrr1.fits
      rw [hdl] at hfit
      have hs1 := fun w => run_slice_to (P := Tryd.prog) byteSlice w a1 (m.length - k) c1 .i64 n n rfl (by omega)
      have hs2 := fun w => run_slice_from (P := Tryd.prog) byteSlice w a1 (m.length - k) c1 .i64 n n rfl hn2
      have hrx := hrr1.take n
      have hrd := hrr1.drop n (by omega)
      rw [List.drop_drop] at hrd
      have hxl : ((m.drop k).take n).length = n := by rw [List.length_take, hdl]; omega
      have happ : m.take k ++ (m.drop k).take n = m.take (k + n) := by rw [List.take_add]
      have WR := hwrite_any hh hBs hBk hkr a1 c1 ((m.drop k).take n) hrx (by rw [hxl, List.length_take]; omega) (fun hne ad e => by
        have hm0 : m ≠ [] := fun e2 => by rw [e2] at hne; simp at hne
        have h1 := hlt1 hm0 ad e
        have h2 := hh.low
        refine ⟨by omega, fun e3 => ?_⟩
        have := (hh.lt.2 _ e3).1; omega)
      rw [hxl] at WR
      unfold Wrote at WR
      rw [happ] at WR
      generalize cuts.getD j 0 = x at *
      have hjj : (j : Int) < 40 := by omega
      have hjc : (j : Int) < cuts.length := by omega
      have HRD := Lib.hid hrd
      have HLT := Lib.hid hlt1
      have HBW := Lib.hid hbw
      have HKR := Lib.hid hkr
      have hlk : m.length - (k + n) = m.length - k - n := by omega
      have HLK := Lib.hid hlk
      have hlow := hh.lt
      have HLOW := Lib.hid hlow
      clear hlk happ hxl hrx hrd hdl hcell hn hbw hlt1 hkr hlow hrr1 hh
      generalize hq : m.length - k = q at *
      have HQ := Lib.hid hq
      clear hq
      go_wp2_with fail
      refine (WI _).mono ?_
      rintro e w' ⟨rfl, rfl⟩
      clear WI hc
      go_wp2_with fail
      refine WR.mono ?_
      rintro e w2 ⟨v2, rfl, hh2, ht2, hv2⟩
      clear WR
      have hb2 : Below B wr w2 := ht2.below (fun p e => by
        rcases e with e | e
        · have := HLOW.out.1; have h3 := hh2.low; omega
        · exact (HLOW.out.2 p e).1) hBs
      have hbw2 := HBW.out.trans hb2
      have hs2' := ht2.size
      have HRD2 : Hid (Reads w2 (dropAddr a1 c1 n) (c1 - n) (m.drop (k + n))) := Lib.hid (HRD.out.touch' ht2 (fun hne ad e => by
        obtain ⟨ad0, e1, e2⟩ := drop_from e
        have hm0 : m ≠ [] := fun e2 => by rw [e2] at hne; simp at hne
        have h1 := HLT.out hm0 ad0 e1
        rw [e2]
        rintro (e3 | e3)
        · have := hh2.low; omega
        · have := (HLOW.out.2 _ e3).1; omega))
      have HLT2 : Hid (m ≠ [] → ∀ ad, dropAddr a1 c1 n = some ad → ad.block < B) := Lib.hid (fun hm0 ad e => by
        obtain ⟨ad0, e1, e2⟩ := drop_from e
        rw [e2]; exact HLT.out hm0 ad0 e1)
      cases cp
      · have HH2 := Lib.hid hh2
        have HB2 := Lib.hid hbw2
        clear hh2 hbw2 ht2 hb2
        go_wp2
        go_roundw
        case rel =>
          have h1 := HLK.out
          have h2 := HQ.out
          refine ⟨j + 1, k + n, b, v2, _, _, by omega, by omega, by omega, rfl, ?_, by go_num, HH2.out, HRD2.out, HLT2.out, HB2.out⟩
          rw [show m.length - (k + n) = q - n by omega]
        case measure => simp [intOf]; omega
      · have CPY := hcopy_any hh2
        have hkB : 0 < B := hBk
        have hk2 : KTab w2 := HKR.out.touch ht2 (fun e => by
          rcases e with e | e
          · have := hh2.low; have e2 : 0 = b := e; omega
          · have := (HLOW.out.2 _ e).1; omega)
        have HK2 := Lib.hid hk2
        have HH2 := Lib.hid hh2
        have HB2 := Lib.hid hbw2
        have HL2 := Lib.hid hh2.lt
        have hBw2 : B ≤ w2.heap.size := Nat.le_trans hBs hs2'
        clear hh2 hbw2 ht2 hb2 hk2
        go_wp2_with fail
        refine CPY.mono ?_
        rintro e w3 ⟨b3, v3, rfl, hh3, hb3⟩
        have hs3 := hb3.size
        have hh3b := (HH2.out.below hb3).below (w' := w3.alloc (.cells #[.int .u8 1, .int .u8 2, .int .u8 3] 5)) ((Below.refl _ _).alloc (Nat.le_refl _) _)
        have hb4 := (Below.refl w3.heap.size w3).alloc (Nat.le_refl _) (.cells #[.int .u8 1, .int .u8 2, .int .u8 3] 5)
        have hk4 := (HK2.out.keeps (Keeps.below hb3)).keeps (Keeps.below hb4)
        have hr4 := reads_lit w3 #[.int .u8 1, .int .u8 2, .int .u8 3] 5 (0, 0) [1#8, 2#8, 3#8] rfl (by decide)
        have hB4 : B ≤ (w3.alloc (.cells #[.int .u8 1, .int .u8 2, .int .u8 3] 5)).heap.size := by simp; omega
        have hh3c := hh3.below hb4
        have WR4 := hwrite_any hh3b hB4 hBk hk4 (some ⟨w3.heap.size, 0, none⟩) 3 [1#8, 2#8, 3#8] hr4 (by rw [List.length_take]; simp; omega) (fun _ ad e => by
          injection e with e
          rw [← e]
          refine ⟨by have := HL2.out.1; show w3.heap.size ≠ b; omega, fun e3 => ?_⟩
          have := (HL2.out.2 _ e3).2
          have e4 : (⟨w3.heap.size, 0, none⟩ : Addr).block = w3.heap.size := rfl
          omega)
        have HH3 := Lib.hid hh3c
        have HH3L := Lib.hid hh3.low
        have HV3 := Lib.hid hh3.lt
        have HB4 := Lib.hid ((HB2.out.trans (hb3.mono hBw2)).trans (hb4.mono (Nat.le_trans hBw2 hs3)))
        have HR4 := Lib.hid ((HRD2.out.keeps (Keeps.below hb3)).keeps (Keeps.below hb4))
        have hL3 : ∀ q, v3.ownBlock = some q → w2.heap.size ≤ q := fun q hq => (hh3.lt.2 q hq).1
        have HL3 := Lib.hid hL3
        clear hh3 hh3b hh3c hk4 hr4 CPY hL3 hb3 hb4
        go_wp2_with fail
        generalize w3.alloc (.cells #[.int .u8 1, .int .u8 2, .int .u8 3] 5) = w4 at *
        refine WR4.mono ?_
        rintro e w5 ⟨v5, rfl, hh5, ht5, _⟩
        have hfoot : ∀ q, (q = b ∨ v2.ownBlock = some q) → B ≤ q ∧ q < w2.heap.size := fun q e => by
          rcases e with e | e
          · rw [e]; exact ⟨hh5.low, HL2.out.1⟩
          · exact HL2.out.2 q e
        have HH5 := Lib.hid ((HH3.out.touch ht5 (fun e => by have := (hfoot _ e).2; have := HH3L.out; omega) (fun q hq e => by have := (hfoot _ e).2; have := HL3.out q hq; omega)).mono (B' := B) hBw2)
        have HB5 := Lib.hid (HB4.out.trans (ht5.below (fun q e => (hfoot q e).1) hB4))
        have HR5 := Lib.hid (HR4.out.touch' ht5 (fun hne ad e => by
          have hm0 : m ≠ [] := fun e2 => by rw [e2] at hne; simp at hne
          intro e3
          have h1 := HLT2.out hm0 ad e
          have := (hfoot _ e3).1; omega))
        clear WR4 hh5 ht5 hfoot hB4
        go_wp2
        go_roundw
        case rel =>
          have h1 := HLK.out
          have h2 := HQ.out
          refine ⟨j + 1, k + n, b3, v3, _, _, by omega, by omega, by omega, rfl, ?_, by go_num, HH5.out, HR5.out, HLT2.out, HB5.out⟩
          rw [show m.length - (k + n) = q - n by omega]
        case measure => simp [intOf]; omega
    · have hgo2 : j = cuts.length ∨ j = 40 := by omega
      have hdl : (m.drop k).length = m.length - k := List.length_drop
      have WR := hwrite_any hh hBs hBk hkr a1 c1 (m.drop k) hrr1 (by rw [hdl, List.length_take]; omega) (fun hne ad e => by
        have hm0 : m ≠ [] := fun e2 => by rw [e2] at hne; simp at hne
        have h1 := hlt1 hm0 ad e
        have h2 := hh.low
        refine ⟨by omega, fun e3 => ?_⟩
        have := (hh.lt.2 _ e3).1; omega)
      rw [hdl] at WR
      unfold Wrote at WR
      rw [List.take_append_drop] at WR
      have HBW := Lib.hid hbw
      have HKR := Lib.hid hkr
      have hlow := hh.lt
      have HLOW := Lib.hid hlow
      have hj1 : ¬ ((j : Int) < cuts.length) ∨ ((j : Int) < cuts.length ∧ ¬ ((j : Int) < 40)) := by omega
      clear hdl hlt1 hkr hbw hlow hrr1 hh hgo hgo2
      rcases hj1 with hj1 | ⟨hj1, hj2⟩
      · go_wp2_with fail
        refine WR.mono ?_
        rintro e w2 ⟨v2, rfl, hh2, ht2, hv2⟩
        have hfoot : ∀ q, (q = b ∨ v.ownBlock = some q) → B ≤ q := fun q e => by
          rcases e with e | e
          · rw [e]; exact hh2.low
          · exact (HLOW.out.2 q e).1
        have hb2 := HBW.out.trans (ht2.below hfoot hBs)
        have hk2 := hk.keeps (Keeps.below (hB.symm ▸ hb2))
        have hm2 := hm.keeps (Keeps.below (hB.symm ▸ hb2))
        have hB2 : B ≤ w2.heap.size := hB ▸ hb2.size
        have HS := hsum_any hh2 hB2 hBk hk2 (by omega)
        have HLn : ∀ w', Below w2.heap.size w2 w' → Calls Tryd.prog 20 #[.pointer (some ⟨b, 0, none⟩)] w' fun e w'' => e = .returned (.int .i64 m.length) ∧ w' = w'' := fun w' hb => hlen_any (hh2.below hb)
        have SU := fun w' (h1 : Reads w' a cap m) (h2 : KTab w') => sum_any' a cap m w' h1 (by omega) h2
        have heq := fun w => run_eq_id (Sha.sum m) (Sha.sum m) (sum_length m) (sum_length m) w
        rw [beq_self_eq_true] at heq
        generalize Sha.sum m = D at *
        clear WR hh2 ht2 hfoot
        go_wp2_with fail
        refine HS.mono ?_
        rintro e w3 ⟨rfl, hb3⟩
        have hb23 := hb2.trans (hb3.mono hB2)
        go_wp2_with fail
        refine (SU w3 (hm2.keeps (Keeps.below hb3)) (hk2.keeps (Keeps.below hb3))).mono ?_
        rintro e w4 ⟨rfl, hb4⟩
        have hb34 := hb3.trans (hb4.mono hb3.size)
        have LN := HLn w4 hb34
        clear HLn SU HS
        go_wp2_with fail
        refine LN.mono ?_
        rintro e w' ⟨rfl, rfl⟩
        have hbb : ((m.length : Int) == m.length) = true := by simp
        go_wp2_with fail
        refine (lives_any _ (hk2.keeps (Keeps.below hb34))).mono ?_
        rintro e w6 ⟨rfl, hb6⟩
        go_wp2
        go_ret
        have hbf := hb2.trans (hb34.mono hB2)
        exact ⟨rfl, by rw [hB]; exact hbf.trans (hb6.mono (by have := hbf.size; omega))⟩
      · go_wp2_with fail
        refine WR.mono ?_
        rintro e w2 ⟨v2, rfl, hh2, ht2, hv2⟩
        have hfoot : ∀ q, (q = b ∨ v.ownBlock = some q) → B ≤ q := fun q e => by
          rcases e with e | e
          · rw [e]; exact hh2.low
          · exact (HLOW.out.2 q e).1
        have hb2 := HBW.out.trans (ht2.below hfoot hBs)
        have hk2 := hk.keeps (Keeps.below (hB.symm ▸ hb2))
        have hm2 := hm.keeps (Keeps.below (hB.symm ▸ hb2))
        have hB2 : B ≤ w2.heap.size := hB ▸ hb2.size
        have HS := hsum_any hh2 hB2 hBk hk2 (by omega)
        have HLn : ∀ w', Below w2.heap.size w2 w' → Calls Tryd.prog 20 #[.pointer (some ⟨b, 0, none⟩)] w' fun e w'' => e = .returned (.int .i64 m.length) ∧ w' = w'' := fun w' hb => hlen_any (hh2.below hb)
        have SU := fun w' (h1 : Reads w' a cap m) (h2 : KTab w') => sum_any' a cap m w' h1 (by omega) h2
        have heq := fun w => run_eq_id (Sha.sum m) (Sha.sum m) (sum_length m) (sum_length m) w
        rw [beq_self_eq_true] at heq
        generalize Sha.sum m = D at *
        clear WR hh2 ht2 hfoot
        go_wp2_with fail
        refine HS.mono ?_
        rintro e w3 ⟨rfl, hb3⟩
        have hb23 := hb2.trans (hb3.mono hB2)
        go_wp2_with fail
        refine (SU w3 (hm2.keeps (Keeps.below hb3)) (hk2.keeps (Keeps.below hb3))).mono ?_
        rintro e w4 ⟨rfl, hb4⟩
        have hb34 := hb3.trans (hb4.mono hb3.size)
        have LN := HLn w4 hb34
        clear HLn SU HS
        go_wp2_with fail
        refine LN.mono ?_
        rintro e w' ⟨rfl, rfl⟩
        have hbb : ((m.length : Int) == m.length) = true := by simp
        go_wp2_with fail
        refine (lives_any _ (hk2.keeps (Keeps.below hb34))).mono ?_
        rintro e w6 ⟨rfl, hb6⟩
        go_wp2
        go_ret
        have hbf := hb2.trans (hb34.mono hB2)
        exact ⟨rfl, by rw [hB]; exact hbf.trans (hb6.mono (by have := hbf.size; omega))⟩
end Go.Proofs.YtnodcjjmodbjiaaDoor
