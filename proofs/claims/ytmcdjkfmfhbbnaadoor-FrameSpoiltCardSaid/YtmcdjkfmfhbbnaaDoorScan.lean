/- hoard/frame.Scan: till something is no entry. -/
import Derived.OwnWalk
import Derived.Test.YtmcdjkfmfhbbnaaDoorPrefix
namespace Go.Proofs.YtmcdjkfmfhbbnaaDoor
open Go Go.RowKit

theorem hasPrefix_magic {r : Bool} (a b : Option Addr) (cap cap' : Nat) (l : List (BitVec 8)) (w : World) (h1 : Reads w a cap l) (h2 : Reads w b cap' magicL) (hr : (l.take 8 == magicL) = r) :
    Calls Tryd.prog 38 #[.slice a l.length cap, .slice b 8 cap'] w fun e w' => e = .returned (.bool r) ∧ w' = w := by
  subst hr
  exact hasPrefix_any a b cap cap' l magicL w h1 h2
def scanT (l : List (BitVec 8)) : List Fd × Nat × Int := if l.take 8 = magicL then scanM l.length l 8 else ([], 0, 4)
def ScanTop (w : World) (l : List (BitVec 8)) (e : Ending) (w' : World) : Prop :=
  ∃ v its, e = .returned (.tuple #[v, .int .i64 (scanT l).2.1, .int .i64 (scanT l).2.2]) ∧ Founds w v its (scanT l).1 w'
set_option maxHeartbeats 4000000 in
set_option maxRecDepth 40000 in
theorem scan_any (a : Option Addr) (cap : Nat) (l : List (BitVec 8)) (w : World) (hh : Half w) (hr : Reads w a cap l) (hlen : l.length ≤ 1000000) :
    Calls Tryd.prog 24 #[.slice a l.length cap] w (ScanTop w l) := by
  have hfit := hr.fits
  have HR := Lib.hid hr
  have HH := Lib.hid hh
  have hz := zero_c
  have hzl : zeroC.size = 34 := by
    show (entC zeroEnt (.slice none 0 0)).toArray.size = _
    rw [List.size_toArray]; exact length_entC rfl
  have HZL := Lib.hid hzl
  clear hzl hr hh
  generalize zeroC = Z at *
  have hc := fun (w : World) (cs : Array Value) (E : TypeId) (len cap : Nat) => conv_lit (P := Tryd.prog) w 24 5 cs E len cap (by kernel_rfl) (by kernel_rfl)
  have HB0 := Lib.hid (fun (o : Obj) => (Below.refl w.heap.size w).alloc (Nat.le_refl _) o)
  unfold ScanTop scanT
  by_cases hpre : l.take 8 = magicL
  · rw [if_pos hpre]
    have hpl : 8 ≤ l.length := by
      have := congrArg List.length hpre
      rw [List.length_take] at this
      have h8 : magicL.length = 8 := rfl
      omega
    have hpb : (l.take 8 == magicL) = true := beq_iff_eq.2 hpre
    have HPB := Lib.hid hpb
    clear hpre hpb
    go_enter Tryd.func24, Tryd.ntmps24
    go_wp2_with fail
    refine (hasPrefix_magic a _ cap _ l _ (HR.out.keeps (Keeps.alloc _ _)) (reads_lit w _ _ _ magicL rfl (by decide)) HPB.out).mono ?_
    rintro e w' ⟨rfl, rfl⟩
    clear hc
    go_wp2_with fail
    go_loopw [5, 6] (fun v i wr => ScanRel w l 8 v i wr) (fun _ i _ => l.length - (intOf i).toNat)
    case atStart => exact ⟨8, l.length, [], [], rfl, hpl, by omega, rfl, rfl, by simp, ownsIts_nil _ _ _ _, rfl, fun it h => by simp at h, HB0.out _⟩
    case round =>
      obtain ⟨k, f, its, L, rfl, hk, hf, hd, hd2, hLk, ho, hm, hfr, hbr⟩ := hrel
      by_cases hlt : k < l.length
      · obtain ⟨f, rfl⟩ : ∃ f', f = f' + 1 := ⟨f - 1, by omega⟩
        have hsl := fun W => run_slice_from (P := Tryd.prog) byteSlice W a l.length cap .i64 k k rfl (by omega)
        have RD := read_at2 (l.drop k) wr List.length_drop (HH.out.keeps (Keeps.below hbr)) ((HR.out.keeps (Keeps.below hbr)).drop k (by omega))
        obtain ⟨E, n, er, hR⟩ : ∃ E n er, rd (l.drop k) = ⟨E, n, er⟩ := ⟨_, _, _, rfl⟩
        have hkE : E.key.length = 32 := by have := rd_key (l.drop k); rw [hR] at this; exact this
        have hil := hm.length
        have HKE := Lib.hid hkE
        have HRD := Lib.hid hR
        have HO := Lib.hid ho
        have HM := Lib.hid hm
        have HF := Lib.hid hfr
        have HB := Lib.hid hbr
        have hs0 : w.heap.size ≤ wr.heap.size := hbr.size
        clear hkE ho hm hfr hbr
        by_cases he : er = 0
        · have hn9 : 9 ≤ n ∧ n ≤ l.length - k := by
            have q := rd_n (l := l.drop k) (by rw [hR]; exact he)
            rw [hR, List.length_drop] at q
            exact q
          rw [scan_yes hlt hR he (f := f)] at hd hd2
          have HD := Lib.hid hd
          have HD2 := Lib.hid hd2
          have he1 : (er != 0) = false := by simpa using he
          have he2 : (er == 0) = true := by simpa using he
          clear hR hd hd2
          go_wp2_with fail
          refine RD.mono ?_
          rintro en w4 hq
          obtain ⟨ax, cx, rfl, rx, fx, hb4⟩ := rd_mk HRD.out hq
          have hlX := length_entC (e := E) (dv := .slice ax E.data.length cx) HKE.out
          have HIX := Lib.hid (entry_size hlX)
          have HZX : Hid (Z.size = (entC E (.slice ax E.data.length cx)).toArray.size) := Lib.hid (by rw [HZL.out, List.size_toArray, hlX])
          have HOX := Lib.hid (all_oneCell_toArray (one_entC E ax E.data.length cx))
          have HO1 := Lib.hid (one_entC E ax E.data.length cx)
          have hnew := heap_alloc_new w4 (.cells Z 26)
          obtain ⟨m5, n5⟩ := made_row w4 26 Z (entC E (.slice ax E.data.length cx)).toArray
          have hb5 := hb4.trans (n5.mono hb4.size)
          have HS4 := Lib.hid hb4.size
          have HB5 := Lib.hid (HB.out.trans (hb5.mono HB.out.size))
          have HOB := Lib.hid (HO.out.below hb5)
          have HRX := Lib.hid (rx.keeps (Keeps.below n5))
          have HFX := Lib.hid fx
          have HLV := Lib.hid (fun (q : Nat) (e : Value.ownBlock u5 = some q) => (row_lt HO.out.row e).2)
          have BF := built_found (entC E (.slice ax E.data.length cx)) hlX k n
          have HLX := Lib.hid hlX
          have hal : ∀ ad, ax = some ad → ad.block < w4.heap.size := fun ad e => (fx ad e).2
          clear hb4 n5 hb5 rx fx hq RD hlX HRD HB HO
          obtain ⟨CX, hCX⟩ : ∃ CX, entC E (.slice ax E.data.length cx) = CX := ⟨_, rfl⟩
          rw [hCX] at m5 HIX HZX HOX HO1 HB5 HOB HRX BF HLX ⊢
          have HCX := Lib.hid hCX
          clear hCX
          obtain ⟨CF, hCF⟩ : ∃ CF, CX ++ ([.int .i64 k, .int .i64 n] : List Value) = CF := ⟨_, rfl⟩
          rw [hCF] at BF
          have HLF : Hid (CF.length = 36) := Lib.hid (by rw [← hCF, List.length_append, HLX.out]; rfl)
          have HCF := Lib.hid hCF
          clear hCF
          go_wp2_with (first
            | (with_reducible refine at_store 26 ?_; go_must (refine wpList_store_row rfl 26 _ _ rfl w4.heap.size CX.toArray rfl rfl _ Z hnew HIX.out HZX.out HOX.out ?_))
            | (with_reducible refine at_load 26 ?_; go_must (refine wpList_load_row rfl 26 _ rfl w4.heap.size rfl _ CX.toArray _ _ m5 Tryd.underlying26 rfl HIX.out ?_))
            | (with_reducible refine at_build 54 ?_; go_must (refine wpList_built' rfl 54 _ rfl CF.toArray (by go_simp) ?_))
            | (with_reducible refine at_lit 51 ?_; go_must (refine wpList_item_lit Tryd.underlying51 found_info found_zsize rfl _ rfl CF rfl HLF.out (by decide) (by decide) ?_))
            | (with_reducible refine hold_append ?_))
          intro _
          have hs5 : ((w4.alloc (.cells Z 26)).setRow w4.heap.size CX.toArray).heap.size = w4.heap.size + 1 := by simp [World.setRow]
          have hal5 : ∀ p, ax = some p → p.block < w4.heap.size + 1 := fun p e => by have := hal p e; omega
          clear hnew m5 hal
          generalize (w4.alloc (.cells Z 26)).setRow w4.heap.size CX.toArray = w5 at *
          have hnew := heap_alloc_new w5 (.cells CF.toArray 54)
          have hrow := rangeAt_row hnew
          rw [List.toList_toArray, hs5] at hrow
          have hba : Below w5.heap.size w5 (w5.alloc (.cells CF.toArray 54)) := (Below.refl _ _).alloc (Nat.le_refl _) _
          have HO6 := HOB.out.below hba
          have r6 := HRX.out.keeps (Keeps.below hba)
          have hs6 : (w5.alloc (.cells CF.toArray 54)).heap.size = w5.heap.size + 1 := by simp
          have hb6 := HB5.out.trans (hba.mono HB5.out.size)
          have HOF : Hid (∀ v ∈ CF, v.oneCell' = true) := Lib.hid (by
            rw [← HCF.out]
            intro v hv
            rcases List.mem_append.1 hv with hv | hv
            · exact HO1.out v hv
            · have : v = .int .i64 k ∨ v = .int .i64 n := by simpa using hv
              rcases this with rfl | rfl <;> rfl)
          have HCC := Lib.hid (show (Item.mk E ax cx [.int .i64 k, .int .i64 n]).cells = CF by unfold Item.cells Item.dv; rw [← HCF.out, ← HCX.out])
          have hs4 := HS4.out
          have hlv := HLV.out
          have hfx := HFX.out
          clear hba hnew HOB HRX HB5 HLV HFX HS4
          generalize w5.alloc (.cells CF.toArray 54) = w6 at *
          go_wp2_with (at_builtin; go_must (refine wpList_append_item Tryd.underlying51 found_info found_zsize (by decide) rfl _ _ rfl w.heap.size _ its rfl HO6 ⟨E, ax, cx, [.int .i64 k, .int .i64 n]⟩ ⟨w4.heap.size + 1, 0, none⟩ 1 rfl ?c1 ?c2 ?c3 ?c4 ?c5 ?c6 (by omega) (by omega) hb6.size ?_))
          case c1 => intro j u hu; rw [HCC.out] at hu; rw [Addr.add_lit]; exact hrow j u hu
          case c2 => rw [HCC.out]; exact HOF.out
          case c3 => rw [HCC.out]; exact HLF.out
          case c4 => exact HKE.out
          case c6 =>
            intro p e
            have q := hal5 p e
            have q2 := (hfx p e).1
            refine ⟨fun f => ?_, by omega⟩
            have := hlv _ f
            omega
          intro v7 w7 ho7 hg7 _
          have HB7 := Lib.hid (its_below hb6 (Nat.le_refl _) HO6 hg7)
          have HO7 := Lib.hid ho7
          clear hg7 HO6 r6 hrow hb6 ho7
          go_wp2_with fail
          go_roundw
          case rel =>
            refine ⟨k + n, f, its ++ [⟨E, ax, cx, [.int .i64 k, .int .i64 n]⟩], L ++ [⟨E, k, n⟩], by go_num, by omega, by omega, by rw [List.append_assoc]; exact HD.out, HD2.out, by simp; omega, HO7.out, HM.out.snoc _ _ rfl rfl, ?_, HB7.out⟩
            intro x hx ad e
            rcases List.mem_append.1 hx with hx | hx
            · exact HF.out x hx ad e
            · rw [List.mem_singleton] at hx
              subst hx
              have := (hfx ad e).1
              omega
          case measure => simp [intOf]; omega
        · rw [scan_no hlt hR he (f := f)] at hd hd2
          have he1 : (er != 0) = true := by simpa using he
          have he2 : (er == 0) = false := by simpa using he
          have HD := Lib.hid hd
          have HD2 := Lib.hid hd2
          clear hR hd hd2
          go_wp2_with fail
          refine RD.mono ?_
          rintro en w4 hq
          obtain ⟨ax, cx, rfl, rx, fx, hb4⟩ := rd_mk HRD.out hq
          have hlX := length_entC (e := E) (dv := .slice ax E.data.length cx) HKE.out
          have HIX := Lib.hid (entry_size hlX)
          have HZX : Hid (Z.size = (entC E (.slice ax E.data.length cx)).toArray.size) := Lib.hid (by rw [HZL.out, List.size_toArray, hlX])
          have HOX := Lib.hid (all_oneCell_toArray (one_entC E ax E.data.length cx))
          have hnew := heap_alloc_new w4 (.cells Z 26)
          obtain ⟨m5, n5⟩ := made_row w4 26 Z (entC E (.slice ax E.data.length cx)).toArray
          have hb5 := hb4.trans (n5.mono hb4.size)
          have HB5 := Lib.hid (HB.out.trans (hb5.mono HB.out.size))
          have HOB := Lib.hid (HO.out.below hb5)
          clear hb4 n5 hb5 rx fx hq RD hlX HRD HB HO m5
          obtain ⟨CX, hCX⟩ : ∃ CX, entC E (.slice ax E.data.length cx) = CX := ⟨_, rfl⟩
          rw [hCX] at HIX HZX HOX HB5 HOB ⊢
          clear hCX
          go_wp2_with (with_reducible refine at_store 26 ?_; go_must (refine wpList_store_row rfl 26 _ _ rfl w4.heap.size CX.toArray rfl rfl _ Z hnew HIX.out HZX.out HOX.out ?_))
          go_ret3
          have q := HD.out
          rw [List.append_nil] at q
          have hF : Founds w _ its (scanM l.length l 8).1 _ := ⟨HOB.out, by rw [← q]; exact HM.out, HF.out, HB5.out⟩
          exact ⟨_, its, by rw [← HD2.out]; rfl, hF⟩
      · rw [scan_end f l k (by omega)] at hd hd2
        rw [List.append_nil] at hd
        have hlt' : ¬ (k : Int) < (l.length : Int) := by omega
        have HD := Lib.hid hd
        have HD2 := Lib.hid hd2
        clear hd hd2
        go_wp2
        go_ret3
        have hF : Founds w _ its (scanM l.length l 8).1 wr := ⟨ho, by rw [← HD.out]; exact hm, hfr, hbr⟩
        exact ⟨_, by rw [← HD2.out]; rfl, its, hF⟩
  · rw [if_neg hpre]
    have hpb : (l.take 8 == magicL) = false := by simpa using hpre
    have HPB := Lib.hid hpb
    clear hpre hpb
    go_enter Tryd.func24, Tryd.ntmps24
    go_wp2_with fail
    refine (hasPrefix_magic a _ cap _ l _ (HR.out.keeps (Keeps.alloc _ _)) (reads_lit w _ _ _ magicL rfl (by decide)) HPB.out).mono ?_
    rintro e w' ⟨rfl, rfl⟩
    clear hc
    go_wp2_with fail
    go_ret3
    exact ⟨.slice none 0 0, [], rfl, ownsIts_nil _ _ _ _, rfl, fun it h => by simp at h, HB0.out _⟩
end Go.Proofs.YtmcdjkfmfhbbnaaDoor
