/- The law's walk: FrameReads. -/
import Derived.Test.YtmcdjkfmfhbbnaaDoorRRead2
import Derived.Test.YtmcdjkfmfhbbnaaDoorFewOne
namespace Go.Proofs.YtmcdjkfmfhbbnaaDoor
open Go Go.RowKit

/-- While a row of the call's own is turned, byte by byte. -/
def TurnRel (B : Nat) (w7 : World) (n : Nat) (a1 : Option Addr) (c1 : Nat) (i : Value) (wr : World) : Prop :=
  ∃ (k : Nat) (cur : List (BitVec 8)), k ≤ n ∧ i = .int .i64 k ∧ cur.length = n ∧ Owns wr B 5 (.slice a1 n c1) cur ∧ Touch (fun x => ∃ g, a1 = some g ∧ g.block = x) w7 wr
theorem rd_key (l : List (BitVec 8)) : (rd l).ent.key.length = 32 := by
  by_cases h : (rd l).err = 0
  · obtain ⟨h9, hf, hnl, hs⟩ := rd_ok h
    rw [rd_yes h9 hf hnl hs]
    show (if 41 ≤ numAt l 4 then (l.drop 9).take 32 else zeroKey).length = 32
    split
    · rw [List.length_take, List.length_drop]; omega
    · rfl
  · by_cases h9 : l.length < 9
    · rw [rd_short h9]; rfl
    · by_cases hf : fits (byteAt l 8).toNat (numAt l 4) = false
      · rw [rd_form h9 hf]; rfl
      · have hf : fits (byteAt l 8).toNat (numAt l 4) = true := by simpa using hf
        by_cases hn : l.length < numAt l 4
        · rw [rd_cut h9 hf hn]; rfl
        · by_cases hs : (CrcMath.sum ((l.take (numAt l 4)).drop 4)).toNat = numAt l 0
          · exact (h (by rw [rd_yes h9 hf hn hs])).elim
          · rw [rd_sum h9 hf hn hs]; rfl
set_option maxHeartbeats 4000000 in
set_option maxRecDepth 40000 in
theorem frameReads_walk (a : Option Addr) (cap : Nat) (l : List (BitVec 8)) (w : World) (hh : Half w) (hr : Reads w a cap l) :
    Calls Tryd.prog 4 #[.slice a l.length cap] w fun e w' => e = .returned (.bool true) ∧ Below w.heap.size w w' := by
  have CU := cut_any a cap l 17000 17000 w rfl hr (by decide)
  have hm := hr.take 17000
  have hml : (l.take 17000).length ≤ 17000 := by rw [List.length_take]; omega
  clear hr
  generalize l.take 17000 = m at *
  have CO := copy_any a cap m w hm (by omega)
  have hkE := rd_key m
  have RD1F := fun (W : World) (a1 : Option Addr) (c1 : Nat) (h : Half W) (r : Reads W a1 c1 m) => read_any a1 c1 m W h r
  have RD2F := fun (W : World) (r : Reads W a cap m) => rread_any a cap m W r
  unfold RdPost at RD1F RD2F
  generalize rd m = R at *
  obtain ⟨E, nn, er⟩ := R
  simp only at hkE RD1F RD2F
  have SE := fun (ax ay : Option Addr) (cx cy : Nat) (W : World) (h1 : Reads W ax cx E.data) (h2 : Reads W ay cy E.data) => sameEntry_yes E ax cx ay cy hkE W h1 h2
  have LENE := fun (ax : Option Addr) (cx : Nat) => length_entC (e := E) (dv := .slice ax E.data.length cx) hkE
  have ONE := fun (ax : Option Addr) (cx : Nat) => all_oneCell_toArray (one_entC E ax E.data.length cx)
  have hz := zero_c
  have hzl : zeroC.size = 34 := by
    show (entC zeroEnt (.slice none 0 0)).toArray.size = _
    rw [List.size_toArray]; exact length_entC rfl
  have HZL := Lib.hid hzl
  have HRD2 := Lib.hid RD2F
  have HSE := Lib.hid SE
  have HLENE := Lib.hid LENE
  have HONE := Lib.hid ONE
  clear hzl RD2F SE LENE ONE hkE
  generalize zeroC = Z at *
  go_enter Tryd.func4, Tryd.ntmps4
  go_wp2_with fail
  refine CU.mono ?_
  rintro e w' ⟨rfl, rfl⟩
  go_wp2_with fail
  refine CO.mono ?_
  rintro e w1 ⟨v1, rfl, ho1, hb1⟩
  have ha1 := fun (k : Nat) (e : v1.ownBlock = some k) => row_lt ho1 e
  obtain ⟨a1, c1, rfl, r1⟩ := ho1.reads
  have HA1 := Lib.hid (fun (g : Addr) (e : a1 = some g) => ha1 g.block (by rw [e]; rfl))
  have RD1 := RD1F w1 a1 c1 (hh.keeps (Keeps.below hb1)) r1
  have HM1 := Lib.hid (hm.keeps (Keeps.below hb1))
  have HO1 := Lib.hid ho1
  have HR1 := Lib.hid r1
  have HB1 := Lib.hid hb1
  have HH := Lib.hid hh
  clear hm CO CU ho1 r1 hb1 hh RD1F ha1
  go_wp2_with fail
  refine RD1.mono ?_
  rintro e w2 ⟨ax, cx, rfl, rx, fx, hb2⟩
  have hiX := entry_size (HLENE.out ax cx)
  have hzX : Z.size = (entC E (.slice ax E.data.length cx)).toArray.size := by rw [HZL.out, List.size_toArray, HLENE.out]
  have hoX := HONE.out ax cx
  have hnew := heap_alloc_new w2 (.cells Z 26)
  obtain ⟨m3, n3⟩ := made_row w2 26 Z (entC E (.slice ax E.data.length cx)).toArray
  have hb3 := hb2.trans (n3.mono hb2.size)
  have RD2 := HRD2.out _ (HM1.out.keeps (Keeps.below hb3))
  have HIX := Lib.hid hiX
  have HZX := Lib.hid hzX
  have HOX := Lib.hid hoX
  have HB3 := Lib.hid hb3
  have HRX := Lib.hid (rx.keeps (Keeps.below n3))
  have HFX := Lib.hid fx
  have HS2 := Lib.hid hb2.size
  have HS3 := Lib.hid (heap_lt m3)
  clear hiX hzX hoX n3 hb2 hb3 rx fx RD1
  obtain ⟨CX, hCX⟩ : ∃ CX, entC E (.slice ax E.data.length cx) = CX := ⟨_, rfl⟩
  rw [hCX] at m3 RD2 HIX HZX HOX HB3 HRX HS3 ⊢
  have HCX := Lib.hid hCX
  clear hCX
  go_wp2_with (with_reducible refine at_store 26 ?_; go_must (refine wpList_store_row rfl 26 _ _ rfl w2.heap.size CX.toArray rfl rfl _ Z hnew HIX.out HZX.out HOX.out ?_))
  generalize (w2.alloc (.cells Z 26)).setRow w2.heap.size CX.toArray = w3 at *
  refine RD2.mono ?_
  rintro e w4 ⟨ay, cy, rfl, ry, fy, hb4⟩
  have hiY := entry_size (HLENE.out ay cy)
  have hzY : Z.size = (entC E (.slice ay E.data.length cy)).toArray.size := by rw [HZL.out, List.size_toArray, HLENE.out]
  have hoY := HONE.out ay cy
  have hnew5 := heap_alloc_new w4 (.cells Z 26)
  obtain ⟨m5, n5⟩ := made_row w4 26 Z (entC E (.slice ay E.data.length cy)).toArray
  have hb35 := hb4.trans (n5.mono hb4.size)
  have m35 := (hb35.block _ (heap_lt m3)).trans m3
  have hb15 := HB3.out.trans (hb35.mono HB3.out.size)
  have HB5 := Lib.hid (HB1.out.trans (hb15.mono HB1.out.size))
  have HIY := Lib.hid hiY
  have HZY := Lib.hid hzY
  have HOY := Lib.hid hoY
  have HRX5 := Lib.hid (HRX.out.keeps (Keeps.below hb35))
  have HRY5 := Lib.hid (ry.keeps (Keeps.below n5))
  have HFY := Lib.hid fy
  have HO5 := Lib.hid ((HO1.out.below HB3.out).below hb35)
  have HM5 := Lib.hid ((HM1.out.keeps (Keeps.below HB3.out)).keeps (Keeps.below hb35))
  have HR5 := Lib.hid ((HR1.out.keeps (Keeps.below HB3.out)).keeps (Keeps.below hb35))
  have HS4 := Lib.hid hb4.size
  clear hiY hzY hoY n5 hb4 ry fy hb35 m3 hb15 RD2 hnew
  obtain ⟨CY, hCY⟩ : ∃ CY, entC E (.slice ay E.data.length cy) = CY := ⟨_, rfl⟩
  rw [hCY] at m5 m35 HIY HZY HOY HB5 HRX5 HRY5 HO5 HM5 HR5 ⊢
  have HCY := Lib.hid hCY
  clear hCY
  have SE1 := HSE.out ax ay cx cy _ HRX5.out HRY5.out
  rw [HCX.out, HCY.out] at SE1
  go_wp2_with (first
    | (with_reducible refine at_store 26 ?_; go_must (refine wpList_store_row rfl 26 _ _ rfl w4.heap.size CY.toArray rfl rfl _ Z hnew5 HIY.out HZY.out HOY.out ?_))
    | (with_reducible refine at_load 26 ?_; go_must (first
        | refine wpList_load_row rfl 26 _ rfl w2.heap.size rfl _ CX.toArray _ _ m35 Tryd.underlying26 rfl HIX.out ?_
        | refine wpList_load_row rfl 26 _ rfl w4.heap.size rfl _ CY.toArray _ _ m5 Tryd.underlying26 rfl HIY.out ?_)))
  generalize (w4.alloc (.cells Z 26)).setRow w4.heap.size CY.toArray = w5 at *
  clear hnew5 hz
  refine SE1.mono ?_
  rintro e w6 ⟨rfl, hb6⟩
  have hn : ((nn : Int) != (nn : Int)) = false := bne_self_eq_false _
  have her : (er != er) = false := bne_self_eq_false _
  have SA := same_any a1 a c1 cap m m w6 (HR5.out.keeps (Keeps.below hb6)) (HM5.out.keeps (Keeps.below hb6))
  rw [beq_self_eq_true] at SA
  go_wp2_with fail
  refine SA.mono ?_
  rintro e w' ⟨n6, rfl, rfl⟩
  have hb57 := below_drewN hb6 n6
  have HO7 := Lib.hid (HO5.out.below hb57)
  have M57 := Lib.hid ((hb57.block _ (heap_lt m5)).trans m5)
  have M37 := Lib.hid ((hb57.block _ (heap_lt m35)).trans m35)
  have HRX7 := Lib.hid (HRX5.out.keeps (Keeps.below hb57))
  have HRY7 := Lib.hid (HRY5.out.keeps (Keeps.below hb57))
  have HB7 := Lib.hid (HB5.out.trans (hb57.mono HB5.out.size))
  have HS7 := Lib.hid (heap_lt m5)
  have HS57 := Lib.hid hb57.size
  clear hb57 hb6 SA SE1 hn her m5 m35
  generalize w6.drewN n6 = w7 at *
  have hml' : (m.length : Int) ≤ 17000 := by omega
  go_wp2_with fail
  go_loopw [10] (fun i wr => TurnRel w.heap.size w7 m.length a1 c1 i wr) (fun i _ => m.length - (intOf i).toNat)
  case atStart => exact ⟨0, m, Nat.zero_le _, rfl, rfl, HO7.out, Touch.refl _ _⟩
  case round =>
    obtain ⟨k, cur, hk, rfl, hcl, ho, ht⟩ := hrel
    by_cases hlt : k < m.length
    · have ho' := ho
      rw [← hcl] at ho'
      obtain ⟨g1, cp, e1, hrow, _, hg1⟩ := ho'.row (by omega)
      injection e1 with e1 _ e3
      subst e1 e3
      have hc := hrow.cell k (by omega)
      have hth := hrow.thawed k
      have HROW := Lib.hid hrow
      have HCL := Lib.hid hcl
      have HT := Lib.hid ht
      clear hrow hcl ht ho ho'
      generalize byteAt cur k = c at *
      go_wp2_with fail
      go_roundw
      case rel =>
        refine ⟨k + 1, cur.set k (c + 1#8), by omega, by go_num, by rw [List.length_set]; exact HCL.out, ?_, ?_⟩
        · have q := (HROW.out.set k (c + 1#8)).owns
          rwa [HCL.out] at q
        · exact HT.out.trans (Touch.set wr g1 k _ ⟨_, rfl, rfl⟩)
      case measure => simp [intOf]; omega
    · have hg1 := HA1.out
      have hs2 := HS2.out
      have hs3 := HS3.out
      have hs4 := HS4.out
      have m3r := (ht.block _ (heap_lt M37.out) (by rintro ⟨g, e, f⟩; have := hg1 g e; omega)).trans M37.out
      have m5r := (ht.block _ (heap_lt M57.out) (by rintro ⟨g, e, f⟩; have := hg1 g e; omega)).trans M57.out
      have SE2 := HSE.out ax ay cx cy wr (ht.reads HRX7.out fun ad e => by rintro ⟨g, e2, f⟩; have := hg1 g e2; have := (HFX.out ad e).1; omega) (ht.reads HRY7.out fun ad e => by rintro ⟨g, e2, f⟩; have := hg1 g e2; have := (HFY.out ad e).1; omega)
      rw [HCX.out, HCY.out] at SE2
      have hbr := HB7.out.trans (ht.below (fun x ⟨g, e, f⟩ => by have := hg1 g e; omega) HB7.out.size)
      have LV := fun (W : World) (h : Below wr.heap.size wr W) => lives_any W (HH.out.keeps (Keeps.below (hbr.trans (h.mono hbr.size))))
      have HBR := Lib.hid hbr
      clear ht ho hcl hbr hg1 hs2 hs3 hs4
      go_wp2_with (with_reducible refine at_load 26 ?_; go_must (first
        | refine wpList_load_row rfl 26 _ rfl w2.heap.size rfl _ CX.toArray _ _ m3r Tryd.underlying26 rfl HIX.out ?_
        | refine wpList_load_row rfl 26 _ rfl w4.heap.size rfl _ CY.toArray _ _ m5r Tryd.underlying26 rfl HIY.out ?_))
      refine SE2.mono ?_
      rintro e w8 ⟨rfl, hb8⟩
      go_wp2_with fail
      refine (LV w8 hb8).mono ?_
      rintro e w9 ⟨rfl, hb9⟩
      go_wp2_with fail
      go_ret
      have q := HBR.out.trans (hb8.mono HBR.out.size)
      exact ⟨rfl, q.trans (hb9.mono q.size)⟩
end Go.Proofs.YtmcdjkfmfhbbnaaDoor
