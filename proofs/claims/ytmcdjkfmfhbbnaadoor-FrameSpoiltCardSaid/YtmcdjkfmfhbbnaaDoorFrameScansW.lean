/- The law's walk: FrameScans. -/
import Derived.Test.YtmcdjkfmfhbbnaaDoorRScan
import Derived.Test.YtmcdjkfmfhbbnaaDoorRSame
namespace Go.Proofs.YtmcdjkfmfhbbnaaDoor
open Go Go.RowKit

theorem Founds.seen {w wr : World} {v : Value} {its : List Item} {L : List Fd} (h : Founds w v its L wr) : ∃ a cap, v = .slice a L.length cap ∧ Its 36 wr a cap its ∧ AreFd its L ∧ Below w.heap.size w wr := by
  obtain ⟨ho, hm, _, hb⟩ := h
  obtain ⟨a, cap, e, hI, _⟩ := ho.form
  exact ⟨a, cap, by rw [e, hm.length], hI, hm, hb⟩
set_option maxHeartbeats 2000000 in
set_option maxRecDepth 40000 in
theorem frameScans_walk (a : Option Addr) (cap : Nat) (l : List (BitVec 8)) (w : World) (hh : Half w) (hr : Reads w a cap l) :
    Calls Tryd.prog 10 #[.slice a l.length cap] w fun e w' => e = .returned (.bool true) ∧ Below w.heap.size w w' := by
  have CU := cut_any a cap l 1500 1500 w rfl hr (by decide)
  have hm := hr.take 1500
  have hml : (l.take 1500).length ≤ 1500 := by rw [List.length_take]; omega
  clear hr
  generalize l.take 1500 = m at *
  have SC1 := scan_any a cap m w hh hm (by omega)
  have SC2 := fun (W : World) (hb : Below w.heap.size w W) => rscan_any a cap m W (hh.keeps (Keeps.below hb)) (hm.keeps (Keeps.below hb)) (by omega)
  have SV1 := fun (W : World) (hb : Below w.heap.size w W) => salvage_any a cap m W (hh.keeps (Keeps.below hb)) (hm.keeps (Keeps.below hb)) (by omega)
  have SV2 := fun (W : World) (hb : Below w.heap.size w W) => rsalvage_any a cap m W (hh.keeps (Keeps.below hb)) (hm.keeps (Keeps.below hb)) (by omega)
  have LV := fun (W : World) (hb : Below w.heap.size w W) => lives_any W (hh.keeps (Keeps.below hb))
  unfold ScanTop at SC1 SC2
  unfold SalvPost at SV1 SV2
  generalize scanT m = R at *
  obtain ⟨L, n, er⟩ := R
  simp only at SC1 SC2
  generalize salvM m.length m 0 = T at *
  have HSC2 := Lib.hid SC2
  have HSV1 := Lib.hid SV1
  have HSV2 := Lib.hid SV2
  have HLV := Lib.hid LV
  have hn : ((n : Int) == (n : Int)) = true := beq_self_eq_true _
  have he : (er == er) = true := beq_self_eq_true _
  clear SC2 SV1 SV2 LV hm hh
  go_enter Tryd.func10, Tryd.ntmps10
  go_wp2_with fail
  refine CU.mono ?_
  rintro e w' ⟨rfl, rfl⟩
  go_wp2_with fail
  refine SC1.mono ?_
  rintro e w1 ⟨v1, i1, rfl, F1⟩
  obtain ⟨a1, c1, rfl, I1, M1, hb1⟩ := F1.seen
  have H1 := Lib.hid I1
  have HM1 := Lib.hid M1
  have HB1 := Lib.hid hb1
  clear F1 I1 M1 hb1 SC1 CU
  go_wp2_with fail
  refine (HSC2.out w1 HB1.out).mono ?_
  rintro e w2 ⟨v2, i2, rfl, F2⟩
  obtain ⟨a2, c2, rfl, I2, M2, hb2⟩ := F2.seen
  have SM := same_found a1 a2 c1 c2 i1 i2 L w2 (H1.out.keeps (Keeps.below hb2)) I2 HM1.out M2
  have HB2 := Lib.hid (HB1.out.trans (hb2.mono HB1.out.size))
  clear F2 I2 M2 hb2
  go_wp2_with fail
  refine SM.mono ?_
  rintro e w3 ⟨rfl, hb3⟩
  have HB3 := Lib.hid (HB2.out.trans (hb3.mono HB2.out.size))
  clear hb3 SM
  go_wp2_with fail
  refine (HSV1.out w3 HB3.out).mono ?_
  rintro e w4 ⟨v4, i4, rfl, F4⟩
  obtain ⟨a4, c4, rfl, I4, M4, hb4⟩ := F4.seen
  have H4 := Lib.hid I4
  have HM4 := Lib.hid M4
  have HB4 := Lib.hid (HB3.out.trans (hb4.mono HB3.out.size))
  clear F4 I4 M4 hb4
  go_wp2_with fail
  refine (HSV2.out w4 HB4.out).mono ?_
  rintro e w5 ⟨v5, i5, rfl, F5⟩
  obtain ⟨a5, c5, rfl, I5, M5, hb5⟩ := F5.seen
  have SM := same_found a4 a5 c4 c5 i4 i5 T w5 (H4.out.keeps (Keeps.below hb5)) I5 HM4.out M5
  have HB5 := Lib.hid (HB4.out.trans (hb5.mono HB4.out.size))
  clear F5 I5 M5 hb5
  go_wp2_with fail
  refine SM.mono ?_
  rintro e w6 ⟨rfl, hb6⟩
  have HB6 := Lib.hid (HB5.out.trans (hb6.mono HB5.out.size))
  clear hb6 SM
  go_wp2_with fail
  refine (HLV.out w6 HB6.out).mono ?_
  rintro e w7 ⟨rfl, hb7⟩
  go_wp2_with fail
  go_ret
  exact ⟨rfl, HB6.out.trans (hb7.mono HB6.out.size)⟩
end Go.Proofs.YtmcdjkfmfhbbnaaDoor
