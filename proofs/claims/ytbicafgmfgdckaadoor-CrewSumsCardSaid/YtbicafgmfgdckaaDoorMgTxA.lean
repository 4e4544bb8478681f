/- The law's texts: rows of texts as they are read; 'few'. Rows of sums: whether two are the same; the reference's sums of texts. Rows of places: whether two are the same; the reference's places where sums are others than is said. crew.Wrong behind the call of Sums: the rest of the function, alone. -/
import Derived.Test.YtbicafgmfgdckaaDoorMgWb
import Derived.Test.YtbicafgmfgdckaaDoorMgWc
import Derived.Test.YtbicafgmfgdckaaDoorMgRfA
import Derived.Stop.BytesEq
namespace Go.Proofs.YtbicafgmfgdckaaDoor
open Go Go.RowKit

abbrev Txts := List (List (BitVec 8))
def txt (ls : Txts) (i : Nat) : List (BitVec 8) := ls.getD i []
structure Texts (w : World) (a : Option Addr) (cap : Nat) (ls : Txts) : Prop where
  fits : ls.length ≤ cap
  room : cap ≤ 9223372036854775807
  rows : ls = [] ∨ ∃ b off, a = some ⟨b, off, none⟩ ∧ ∀ i, i < ls.length → ∃ x c, w.cell? ⟨b, off + i, none⟩ = some (.slice x (txt ls i).length c) ∧ Reads w x c (txt ls i)
theorem Texts.keeps {w w' : World} {a : Option Addr} {cap : Nat} {ls : Txts} (h : Texts w a cap ls) (k : Keeps w w') : Texts w' a cap ls := by
  refine ⟨h.fits, h.room, ?_⟩
  rcases h.rows with e | ⟨b, off, e, hb⟩
  · exact .inl e
  · refine .inr ⟨b, off, e, fun i hi => ?_⟩
    obtain ⟨x, c, h1, h2⟩ := hb i hi
    exact ⟨x, c, k _ _ h1, h2.keeps k⟩
theorem txt_lt {ls : Txts} {i : Nat} (h : i < ls.length) : txt ls i = ls[i] := by simp [txt, List.getD_eq_getElem?_getD, List.getElem?_eq_getElem h]
def fewOf (ls : Txts) : Txts := (ls.take 12).map (·.take 100)
theorem fewOf_short (ls : Txts) (r : List (BitVec 8)) (h : r ∈ fewOf ls) : r.length ≤ 100 := by
  obtain ⟨x, _, rfl⟩ := List.mem_map.1 h
  rw [List.length_take]; omega
theorem fewOf_length (ls : Txts) : (fewOf ls).length ≤ 12 := by
  unfold fewOf
  rw [List.length_map, List.length_take]; omega
theorem textElem : Elem Tryd.prog 22 44 (.slice none 0 0) 24 := ⟨by kernel_rfl, by kernel_rfl, rfl⟩
/-- A copy, with its place. -/
theorem copy_placed (a : Option Addr) (cap : Nat) (l : List (BitVec 8)) (w : World) (hr : Reads w a cap l) (hl : l.length ≤ 140737488355328) :
    Calls Tryd.prog 16 #[.slice a l.length cap] w fun e w' => ∃ x c, e = .returned (.slice x l.length c) ∧ Reads w' x c l ∧ Below w.heap.size w w' ∧ ∀ ad, x = some ad → w.heap.size ≤ ad.block ∧ ad.block < w'.heap.size ∧ 0 < l.length := by
  by_cases h0 : l = []
  · subst h0
    have hr0 := hr.room
    clear hr hl
    show Calls Tryd.prog 16 #[.slice a 0 cap] w _
    cases a with
    | none =>
      go_enter Tryd.func16, Tryd.ntmps16
      go_wp2
      go_ret
      exact ⟨none, 0, rfl, reads_nil _, Below.refl _ _, fun ad e => by cases e⟩
    | some ad =>
      go_enter Tryd.func16, Tryd.ntmps16
      go_wp2
      go_ret
      exact ⟨none, 0, rfl, reads_nil _, Below.refl _ _, fun ad e => by cases e⟩
  · refine (copy_any a cap l w hr hl).mono fun e w' h => ?_
    obtain ⟨v, rfl, ho, hb⟩ := h
    have hp : 0 < l.length := List.length_pos_iff.2 h0
    obtain ⟨g, c, rfl, hrow, hB, hg⟩ := ho.row (by omega)
    obtain ⟨x, c2, e, rd⟩ := ho.reads
    injection e with e1 _ e2
    subst e1 e2
    exact ⟨_, _, rfl, rd, hb, fun ad e => by injection e with e; subst e; exact ⟨hB, hg, hp⟩⟩
/-- No row without bytes has a place. -/
def Firm (vs : List Value) : Prop := ∀ i ad n c, i < vs.length → vs.getD i undef = .slice (some ad) n c → 0 < n
theorem Firm.snoc {vs : List Value} {a : Option Addr} {n c : Nat} (h : Firm vs) (k : ∀ ad, a = some ad → 0 < n) : Firm (vs ++ [.slice a n c]) := by
  intro i ad n2 c2 hi e
  rw [List.length_append, List.length_singleton] at hi
  by_cases hlt : i < vs.length
  · refine h i ad n2 c2 hlt ?_
    rw [List.getD_eq_getElem?_getD, List.getElem?_append_left hlt, ← List.getD_eq_getElem?_getD] at e
    exact e
  · have e0 : i = vs.length := by omega
    subst e0
    have e3 : (vs ++ [Value.slice a n c]).getD vs.length undef = .slice a n c := by simp [List.getD_eq_getElem?_getD]
    rw [e3] at e
    injection e with e4 e5 e6
    subst e5
    exact k ad e4
def FewRel (w : World) (ls : Txts) (v i : Value) (wr : World) : Prop :=
  ∃ k vs, k ≤ ls.length ∧ k ≤ 12 ∧ i = .int .i64 (k : Nat) ∧ OwnsRows (fun _ => False) wr w.heap.size 44 v vs ((ls.take k).map (·.take 100)) ∧ Firm vs ∧ Below w.heap.size w wr
set_option maxHeartbeats 2000000 in
theorem few_any (a : Option Addr) (cap : Nat) (ls : Txts) (w : World) (hr : Texts w a cap ls) :
    Calls Tryd.prog 5 #[.slice a ls.length cap] w fun e w' => ∃ v vs, e = .returned v ∧ OwnsRows (fun _ => False) w' w.heap.size 44 v vs (fewOf ls) ∧ Firm vs ∧ Below w.heap.size w w' := by
  have hfit := hr.fits
  have hroom := hr.room
  have HR := Lib.hid hr
  clear hr
  go_enter Tryd.func5, Tryd.ntmps5
  go_wp2_with fail
  go_loopw [3, 4] (fun v i wr => FewRel w ls v i wr) (fun _ i _ => 12 - (intOf i).toNat)
  case atStart => exact ⟨0, [], Nat.zero_le _, by omega, rfl, ownsRows_nil _ _ _ _, (fun i _ _ _ hi => by simp at hi), Below.refl _ _⟩
  case round =>
    obtain ⟨k, vs, hk, hk12, rfl, HO, hfirm, hbr⟩ := hrel
    have HFI := Lib.hid hfirm
    clear hfirm
    by_cases hlt : k < ls.length ∧ k < 12
    · obtain ⟨h1, h2⟩ := hlt
      obtain ⟨b, off, rfl, hrows⟩ := (HR.out.keeps (Keeps.below hbr)).rows.resolve_left (fun e => by rw [e] at h1; simp at h1)
      obtain ⟨x, c, hcell, hreads⟩ := hrows k h1
      have hsn : (ls.take (k + 1)).map (·.take 100) = (ls.take k).map (·.take 100) ++ [(txt ls k).take 100] := by
        rw [List.take_succ_eq_append_getElem h1, List.map_append, txt_lt h1]; rfl
      have hln : ((ls.take k).map (·.take 100)).length = k := by rw [List.length_map, List.length_take]; omega
      have HSN := Lib.hid hsn
      have HLN := Lib.hid hln
      have HO1 := Lib.hid HO
      have HBR := Lib.hid hbr
      clear hsn hln HO hbr hrows
      generalize txt ls k = m at *
      go_wp2_with fail
      refine (cut_any x c m 100 _ wr rfl hreads (by decide)).mono ?_
      rintro e w' ⟨rfl, rfl⟩
      have hm := hreads.take 100
      have hmlen : (m.take 100).length ≤ 100 := by rw [List.length_take]; omega
      clear hreads
      generalize m.take 100 = q at *
      go_wp2_with fail
      refine (copy_placed x c q wr hm (by omega)).mono ?_
      rintro e w4 ⟨a4, c4, rfl, hr4, hb4, hbl4⟩
      have HF5 := Lib.hid (HFI.out.snoc (c := c4) fun ad e => (hbl4 ad e).2.2)
      have HO4 := HO1.out.touch (.of_below hb4)
      have nA := (Below.refl w4.heap.size w4).alloc (Nat.le_refl _) (.cells #[.slice a4 q.length c4] 44)
      have hcell5 : (w4.alloc (.cells #[.slice a4 q.length c4] 44)).cell? ⟨w4.heap.size, 0, none⟩ = some (.slice a4 q.length c4) := by unfold World.cell?; rw [heap_alloc_new]; simp
      have HO5 := Lib.hid (HO4.touch (.of_below nA))
      have rd5 := hr4.keeps (Keeps.below nA)
      have hb5 := HBR.out.trans ((hb4.mono HBR.out.size).trans (nA.mono (Nat.le_trans HBR.out.size hb4.size)))
      have hvl : ∀ g, Value.ownBlock u3 = some g → g < wr.heap.size := fun g hg => (row_lt HO1.out.row hg).2
      have hs4 := hb4.size
      have hcx : Chunk (fun _ => False) (w4.alloc (.cells #[.slice a4 q.length c4] 44)) (.slice a4 q.length c4) q := ⟨a4, c4, rfl, rd5, fun ad e => ⟨id, Nat.lt_of_lt_of_le (hbl4 ad e).2.1 nA.size⟩⟩
      have HCX := Lib.hid hcx
      have HVL := Lib.hid hvl
      have HBL := Lib.hid hbl4
      have HB5 := Lib.hid hb5
      have hrow : (w4.alloc (.cells #[.slice a4 q.length c4] 44)).ownsRow w.heap.size 44 1 u3 k vs := by have := HO5.out.row; rw [HLN.out] at this; exact this
      have hsz := hb5.size
      clear HO4 hb4 hr4 nA hcx hvl hbl4 hb5 rd5 hm HO1 HBR hcell
      generalize q.length = nq at *
      go_wp2_with (at_builtin; refine wpList_append_elem textElem rfl _ _ rfl w.heap.size u3 k vs rfl hrow ⟨w4.heap.size, 0, none⟩ 1 (.slice a4 nq c4) rfl hcell5 rfl (by omega) (by omega) hsz ?_; intro v5 w5 r1 r2 r3)
      go_roundw
      case rel =>
        refine ⟨k + 1, vs ++ [.slice a4 nq c4], by omega, by omega, by go_num, ?_, HF5.out, ?_⟩
        · rw [HSN.out]
          refine HO5.out.snoc HCX.out (fun _ f => f.elim) (by rw [HLN.out]; exact r1) r2 r3 ?_
          intro ad n c e hv
          injection e with e _ _
          have := (HBL.out ad e).1
          have := HVL.out _ hv
          omega
        · exact HB5.out.trans ((Touch.of_grown (F := fun g => Value.ownBlock u3 = some g) r2 fun _ hk => hk).below (fun g hg => (row_lt HO5.out.row hg).1) HB5.out.size)
      case measure => simp [intOf]; omega
    · have hkk : (ls.take k).map (·.take 100) = fewOf ls := by
        unfold fewOf
        congr 1
        rcases Nat.lt_or_ge k 12 with h | h
        · rw [List.take_of_length_le (by omega), List.take_of_length_le (by omega)]
        · obtain rfl : k = 12 := by omega
          rfl
      rw [hkk] at HO
      have HO1 := Lib.hid HO
      have HBR := Lib.hid hbr
      clear HO hbr hkk
      by_cases h1 : k < ls.length
      · have h2 : ¬ k < 12 := fun q => hlt ⟨h1, q⟩
        go_wp2
        go_ret
        exact ⟨_, vs, rfl, HO1.out, HFI.out, HBR.out⟩
      · go_wp2
        go_ret
        exact ⟨_, vs, rfl, HO1.out, HFI.out, HBR.out⟩
end Go.Proofs.YtbicafgmfgdckaaDoor
namespace Go.Proofs.YtbicafgmfgdckaaDoor
open Go Go.RowKit

def keyC (k : List (BitVec 8)) : List Value := k.map U8
def zeroKey : List (BitVec 8) := List.replicate 32 0
theorem id_info : (Tryd.prog.info? 39).map (fun i => (i.zero, i.size, i.bytes)) = some (some (.agg (keyC zeroKey).toArray), 32, 32) := by kernel_rfl
theorem id_zsize : (Value.agg (keyC zeroKey).toArray).cells.size = 32 := by
  show (keyC zeroKey).toArray.size = 32
  simp [keyC, zeroKey]
theorem one_keyC (k : List (BitVec 8)) : ∀ u ∈ keyC k, u.oneCell' = true := fun u hu => by
  obtain ⟨y, _, rfl⟩ := List.mem_map.1 hu
  rfl
def ub (c : BitVec 8) : UInt8 := UInt8.ofNat c.toNat
theorem ub_inj {c d : BitVec 8} (h : ub c = ub d) : c = d := by
  apply BitVec.eq_of_toNat_eq
  have := congrArg UInt8.toNat h
  simpa [ub] using this
theorem map_ub_beq : ∀ k m : List (BitVec 8), (k.map ub == m.map ub) = (k == m) := fun k m => by
  rw [Bool.eq_iff_iff, beq_iff_eq, beq_iff_eq]
  constructor
  · intro h
    induction k generalizing m with
    | nil => cases m with
      | nil => rfl
      | cons d m => simp at h
    | cons c k ih => cases m with
      | nil => simp at h
      | cons d m =>
        simp only [List.map_cons, List.cons.injEq] at h
        rw [ub_inj h.1, ih m h.2]
  · rintro rfl; rfl
theorem map_cell (k : List (BitVec 8)) : (k.map ub).map Extern.Stop.cell = k.map U8 := by
  rw [List.map_map]
  apply List.map_congr_left
  intro c _
  simp [Extern.Stop.cell, ub, U8]
theorem run_neq_id (k m : List (BitVec 8)) (hk : k.length = 32) (hm : m.length = 32) (w : World) :
    (binOp .neq 39 (.agg (k.map U8).toArray) (.agg (m.map U8).toArray)).run Tryd.prog w = .ok (.bool (k != m)) w := by
  have h := run_equalIn_bytes (P := Tryd.prog) w 9998 39 5 32 Tryd.underlying39 Tryd.underlying5 (fun w => by kernel_rfl) (k.map ub) (m.map ub) (by simpa using hk) (by simpa using hm)
  rw [map_cell, map_cell, map_ub_beq] at h
  rw [run_neq_struct, h]
  simp [bne]
theorem run_eql_id (k m : List (BitVec 8)) (hk : k.length = 32) (hm : m.length = 32) (w : World) :
    (binOp .eql 39 (.agg (k.map U8).toArray) (.agg (m.map U8).toArray)).run Tryd.prog w = .ok (.bool (k == m)) w := by
  have h := run_eql_bytes (P := Tryd.prog) w 39 5 32 Tryd.underlying39 Tryd.underlying5 (fun w => by kernel_rfl) (k.map ub) (m.map ub) (by simpa using hk) (by simpa using hm)
  rw [map_cell, map_cell, map_ub_beq] at h
  exact h
def RSumsRel (w : World) (ls : Txts) (v i : Value) (wr : World) : Prop :=
  ∃ k : Nat, k ≤ ls.length ∧ i = .int .i64 k ∧ OwnsC keyC 32 wr w.heap.size 39 v ((ls.take k).map Sha.sum) ∧ Below w.heap.size w wr
set_option maxHeartbeats 2000000 in
theorem refSums_any (a : Option Addr) (cap : Nat) (ls : Txts) (w : World) (hr : Texts w a cap ls) (hn : ls.length ≤ 100000) (hl : ∀ r ∈ ls, r.length ≤ 1000000) :
    Calls Tryd.prog 11 #[.slice a ls.length cap] w fun e w' => ∃ v, e = .returned v ∧ OwnsC keyC 32 w' w.heap.size 39 v (ls.map Sha.sum) ∧ Below w.heap.size w w' := by
  have hfit := hr.fits
  have hroom := hr.room
  have HR := Lib.hid hr
  have HL := Lib.hid hl
  clear hr hl
  go_enter Tryd.func11, Tryd.ntmps11
  go_wp2_with fail
  go_loopw [3, 4] (fun v i wr => RSumsRel w ls v i wr) (fun _ i _ => ls.length - (intOf i).toNat)
  case atStart => exact ⟨0, Nat.zero_le _, rfl, ownsC_nil _ _ _, Below.refl _ _⟩
  case round =>
    obtain ⟨k, hk, rfl, HO, hbr⟩ := hrel
    by_cases hlt : k < ls.length
    · obtain ⟨b, off, rfl, hrows⟩ := (HR.out.keeps (Keeps.below hbr)).rows.resolve_left (fun e => by rw [e] at hlt; simp at hlt)
      obtain ⟨x, c, hcell, hreads⟩ := hrows k hlt
      have hsn : (ls.take (k + 1)).map Sha.sum = (ls.take k).map Sha.sum ++ [Sha.sum (txt ls k)] := by
        rw [List.take_succ_eq_append_getElem hlt, List.map_append, txt_lt hlt]; rfl
      have hfl : ((ls.take k).map Sha.sum).length ≤ 100000 := by rw [List.length_map, List.length_take]; omega
      have hml : (txt ls k).length ≤ 1000000 := by rw [txt_lt hlt]; exact HL.out _ (List.getElem_mem hlt)
      have HSN := Lib.hid hsn
      have HO1 := Lib.hid HO
      have HBR := Lib.hid hbr
      clear hsn HO hbr hrows
      generalize txt ls k = m at *
      generalize (ls.take k).map Sha.sum = FL at *
      go_wp2_with fail
      refine (rsum_any x c m wr hreads hml).mono ?_
      rintro e w4 ⟨rfl, hb4⟩
      have hkl := sum_length m
      generalize Sha.sum m = D at *
      have HO4 := Lib.hid (HO1.out.below hb4)
      have HB4 := Lib.hid (HBR.out.trans (hb4.mono HBR.out.size))
      have hones := one_keyC D
      have hlen : (D.map U8).length = 32 := by rw [List.length_map]; exact hkl
      have hkc : keyC D = D.map U8 := rfl
      have HKC := Lib.hid hkc
      rw [hkc] at hones
      clear hkc hb4 hcell hreads HO1 HBR
      generalize hM : D.map U8 = M at *
      have HM := Lib.hid hM
      clear hM
      have HONE := Lib.hid hones
      have HLEN := Lib.hid hlen
      clear hones hlen
      go_wp2_with (first
        | (with_reducible refine at_slit 23 ?_; go_must (refine wpList_lit_append Tryd.underlying23 id_info id_zsize (by decide) (by decide) rfl _ rfl rfl _ _ rfl w.heap.size _ FL HO4.out D M HKC.out rfl rfl rfl HONE.out HLEN.out (by omega) (by decide) HB4.out.size ?_)))
      intro v5 w5 HO5 T5 hv5
      have HBF := Lib.hid (touch_own HB4.out (Nat.le_refl _) HO4.out T5)
      have HOF := Lib.hid HO5
      clear T5 hv5 HO5
      go_wp2
      go_roundw
      case rel => exact ⟨k + 1, by omega, by go_num, by rw [HSN.out]; exact HOF.out, HBF.out⟩
      case measure => simp [intOf]; omega
    · obtain rfl : k = ls.length := by omega
      rw [List.take_length] at HO
      have HO1 := Lib.hid HO
      have HBR := Lib.hid hbr
      clear HO hbr
      go_wp2
      go_ret
      exact ⟨_, rfl, HO1.out, HBR.out⟩
def SamRel (w : World) (n : Nat) (x : Value) (wr : World) : Prop := ∃ i : Nat, i ≤ n ∧ x = .int .i64 i ∧ Below w.heap.size w wr
set_option maxHeartbeats 2000000 in
theorem sameKeys_any (w : World) (a a2 : Option Addr) (cap cap2 : Nat) (L : Txts) (hk : ∀ k ∈ L, k.length = 32) (hr1 : RowsC keyC 32 w a cap L) (hr2 : RowsC keyC 32 w a2 cap2 L) :
    Calls Tryd.prog 10 #[.slice a L.length cap, .slice a2 L.length cap2] w fun e w' => e = .returned (.bool true) ∧ Below w.heap.size w w' := by
  have hfit1 := hr1.fits
  have hroom1 := hr1.room
  have hfit2 := hr2.fits
  have hroom2 := hr2.room
  have HR1 := Lib.hid hr1
  have HR2 := Lib.hid hr2
  have HK := Lib.hid hk
  clear hr1 hr2 hk
  go_enter Tryd.func10, Tryd.ntmps10
  go_wp2_with fail
  go_loopw [5] (fun y wr => SamRel w L.length y wr) (fun y _ => L.length - (intOf y).toNat)
  case atStart => exact ⟨0, Nat.zero_le _, rfl, Below.refl _ _⟩
  case round =>
    obtain ⟨i, hi, rfl, hbr⟩ := hrel
    by_cases hlt : i < L.length
    · have hne : L ≠ [] := fun e => by rw [e] at hlt; simp at hlt
      obtain ⟨b1, o1, rfl, hrow1⟩ := (HR1.out.below hbr).rows.resolve_left hne
      obtain ⟨b2, o2, rfl, hrow2⟩ := (HR2.out.below hbr).rows.resolve_left hne
      have hkey := HK.out L[i] (List.getElem_mem hlt)
      have hm1 : wr.rangeAt b1 (o1 + i * 32) (L[i].map U8) := hrow1 i hlt
      have hm2 : wr.rangeAt b2 (o2 + i * 32) (L[i].map U8) := hrow2 i hlt
      have hiM : (Tryd.prog.info? 39).map (·.size) = some (L[i].map U8).length := by rw [List.length_map, hkey]; kernel_rfl
      have HNE := fun w => run_neq_id L[i] L[i] hkey hkey w
      rw [bne_self_eq_false] at HNE
      have HBR := Lib.hid hbr
      clear hrow1 hrow2 hkey hbr hne
      generalize L[i].map U8 = M at *
      go_wp2_with fail
      refine wp_region_quiet_lit (by kernel_rfl) (by kernel_rfl) ?_
      repeat (first
        | (go_big_quiet_want; refine quiet_mid_of (fun w' e => (show w'.rangeAt b1 (o1 + i * 32) M from by obtain ⟨_, rfl⟩ := e; exact hm1)) Tryd.underlying39 rfl hiM rfl rfl ?_; simp only [Act.put, List.setIfInBounds_toArray, List.set_cons_succ, List.set_cons_zero]; go_big_quiet_on)
        | (go_big_quiet_want; refine quiet_mid_of (fun w' e => (show w'.rangeAt b2 (o2 + i * 32) M from by obtain ⟨_, rfl⟩ := e; exact hm2)) Tryd.underlying39 rfl hiM rfl rfl ?_; simp only [Act.put, List.setIfInBounds_toArray, List.set_cons_succ, List.set_cons_zero]; go_big_quiet_on)
        | go_big_quiet_step (fail)
        | quiet_step (fail))
      refine wpQuiet_nil ?_
      rintro _ ⟨nq, rfl⟩
      have HB5 := Lib.hid (below_drewN HBR.out nq)
      clear HNE hm1 hm2
      go_wp2
      go_roundw
      case rel => exact ⟨i + 1, by omega, by go_num, HB5.out⟩
      case measure => simp [intOf]; omega
    · obtain rfl : i = L.length := by omega
      go_wp2
      go_ret
      exact ⟨rfl, hbr⟩
end Go.Proofs.YtbicafgmfgdckaaDoor
namespace Go.Proofs.YtbicafgmfgdckaaDoor
open Go Go.RowKit

theorem intsElem : Elem Tryd.prog 28 3 (.int .i64 0) 8 := ⟨by kernel_rfl, by kernel_rfl, rfl⟩
def intC (n : Nat) : List Value := [.int .i64 n]
abbrev OwnI (w : World) (B : Nat) (v : Value) (L : List Nat) : Prop := OwnsC intC 1 w B 3 v L
theorem RowsC.int_at {w : World} {a : Option Addr} {cap : Nat} {L : List Nat} (h : RowsC intC 1 w a cap L) {i : Nat} (hi : i < L.length) : ∃ b off, a = some ⟨b, off, none⟩ ∧ w.cell? ⟨b, off + i, none⟩ = some (.int .i64 L[i]) := by
  obtain ⟨b, off, e, hb⟩ := h.rows.resolve_left fun q => by rw [q] at hi; simp at hi
  refine ⟨b, off, e, ?_⟩
  have := hb i hi 0 (.int .i64 L[i]) rfl
  simpa using this
theorem OwnI.snoc {w w' : World} {B k : Nat} {v v' : Value} {L : List Nat} (h : OwnI w B v L) (h1 : w'.ownsRow B 3 1 v' (L.length + 1) ((L.flatMap intC) ++ [.int .i64 k])) : OwnI w' B v' (L ++ [k]) := OwnsC.snoc (enc := intC) h rfl h1
/-- Where the first's rows are others than the second's. -/
def wrongs (S I : Txts) (n : Nat) : List Nat := (List.range n).filter fun i => txt S i != txt I i
theorem wrongs_succ (S I : Txts) (n : Nat) : wrongs S I (n + 1) = if txt S n != txt I n then wrongs S I n ++ [n] else wrongs S I n := by
  unfold wrongs
  rw [List.range_succ, List.filter_append]
  by_cases h : (txt S n != txt I n) = true
  · rw [if_pos h]; simp only [List.filter_cons, h, if_true, List.filter_nil]
  · rw [if_neg h]; simp only [List.filter_cons, h, List.filter_nil, List.append_nil, if_false, Bool.false_eq_true]
theorem wrongs_length (S I : Txts) (n : Nat) : (wrongs S I n).length ≤ n := by
  unfold wrongs
  exact Nat.le_trans (List.length_filter_le _ _) (by simp)
def SamIRel (w : World) (n : Nat) (x : Value) (wr : World) : Prop := ∃ i : Nat, i ≤ n ∧ x = .int .i64 i ∧ Below w.heap.size w wr
set_option maxHeartbeats 2000000 in
theorem sameInts_any (w : World) (a a2 : Option Addr) (cap cap2 : Nat) (L : List Nat) (hr1 : RowsC intC 1 w a cap L) (hr2 : RowsC intC 1 w a2 cap2 L) :
    Calls Tryd.prog 12 #[.slice a L.length cap, .slice a2 L.length cap2] w fun e w' => e = .returned (.bool true) ∧ Below w.heap.size w w' := by
  have hfit1 := hr1.fits
  have hroom1 := hr1.room
  have hfit2 := hr2.fits
  have hroom2 := hr2.room
  have HR1 := Lib.hid hr1
  have HR2 := Lib.hid hr2
  clear hr1 hr2
  go_enter Tryd.func12, Tryd.ntmps12
  go_wp2_with fail
  go_loopw [5] (fun y wr => SamIRel w L.length y wr) (fun y _ => L.length - (intOf y).toNat)
  case atStart => exact ⟨0, Nat.zero_le _, rfl, Below.refl _ _⟩
  case round =>
    obtain ⟨i, hi, rfl, hbr⟩ := hrel
    by_cases hlt : i < L.length
    · obtain ⟨b1, o1, rfl, k1⟩ := (HR1.out.below hbr).int_at hlt
      obtain ⟨b2, o2, rfl, k2⟩ := (HR2.out.below hbr).int_at hlt
      have HBR := Lib.hid hbr
      have hx : ((L[i] : Int) != (L[i] : Int)) = false := by simp
      clear hbr
      generalize (L[i] : Int) = x at *
      go_wp2_with fail
      go_quiet (fail)
      have HB5 := Lib.hid (below_drewN HBR.out nq)
      clear k1 k2
      go_wp2
      go_roundw
      case rel => exact ⟨i + 1, by omega, by go_num, HB5.out⟩
      case measure => simp [intOf]; omega
    · obtain rfl : i = L.length := by omega
      go_wp2
      go_ret
      exact ⟨rfl, hbr⟩
def RWrongRel (w : World) (S I : Txts) (n : Nat) (v i : Value) (wr : World) : Prop :=
  ∃ k : Nat, k ≤ n ∧ i = .int .i64 k ∧ OwnI wr w.heap.size v (wrongs S I k) ∧ Below w.heap.size w wr
set_option maxHeartbeats 4000000 in
theorem refWrong_any (a a2 : Option Addr) (cap cap2 : Nat) (ls I : Txts) (w : World) (hr : Texts w a cap ls) (hr2 : RowsC keyC 32 w a2 cap2 I) (hk : ∀ k ∈ I, k.length = 32) (hlen : I.length = ls.length) (hn : ls.length ≤ 100000) (hl : ∀ r ∈ ls, r.length ≤ 1000000) :
    Calls Tryd.prog 13 #[.slice a ls.length cap, .slice a2 I.length cap2] w fun e w' => ∃ v, e = .returned v ∧ OwnI w' w.heap.size v (wrongs (ls.map Sha.sum) I ls.length) ∧ Below w.heap.size w w' := by
  have hfit := hr.fits
  have hroom := hr.room
  have HR := Lib.hid hr
  have HR2 := Lib.hid hr2
  have HL := Lib.hid hl
  have HK := Lib.hid hk
  have HE := Lib.hid hlen
  rw [hlen]
  clear hr hl hr2 hk hlen
  go_enter Tryd.func13, Tryd.ntmps13
  go_wp2_with fail
  go_loopw [5, 6] (fun v i wr => RWrongRel w (ls.map Sha.sum) I ls.length v i wr) (fun _ i _ => ls.length - (intOf i).toNat)
  case atStart => exact ⟨0, Nat.zero_le _, rfl, ownsC_nil _ _ _, Below.refl _ _⟩
  case round =>
    obtain ⟨k, hkn, rfl, HO, hbr⟩ := hrel
    by_cases hlt : k < ls.length
    · obtain ⟨b, off, rfl, hrows⟩ := (HR.out.keeps (Keeps.below hbr)).rows.resolve_left (fun e => by rw [e] at hlt; simp at hlt)
      obtain ⟨x, c, hcell, hreads⟩ := hrows k hlt
      have hltI : k < I.length := by rw [HE.out]; exact hlt
      obtain ⟨b2, o2, rfl, hrow2⟩ := (HR2.out.below hbr).rows.resolve_left (fun e => by rw [e] at hltI; simp at hltI)
      have hml : (txt ls k).length ≤ 1000000 := by rw [txt_lt hlt]; exact HL.out _ (List.getElem_mem hlt)
      have hsk : txt (ls.map Sha.sum) k = Sha.sum (txt ls k) := by rw [txt_lt (by simpa using hlt), txt_lt hlt, List.getElem_map]
      have hik : txt I k = I[k] := txt_lt hltI
      have hkey := HK.out I[k] (List.getElem_mem hltI)
      have hm2 : wr.rangeAt b2 (o2 + k * 32) (I[k].map U8) := hrow2 k hltI
      have hws := wrongs_succ (ls.map Sha.sum) I k
      rw [hsk, hik] at hws
      have HNE := fun w => run_neq_id (Sha.sum (txt ls k)) I[k] (sum_length _) hkey w
      have hiM : (Tryd.prog.info? 39).map (·.size) = some (I[k].map U8).length := by rw [List.length_map, hkey]; kernel_rfl
      have HWS := Lib.hid hws
      have HO1 := Lib.hid HO
      have HBR := Lib.hid hbr
      have hwl := wrongs_length (ls.map Sha.sum) I k
      clear hws HO hbr hrows hrow2 hsk hik hkey
      generalize (Sha.sum (txt ls k) != I[k]) = bb at *
      generalize I[k].map U8 = M at *
      generalize wrongs (ls.map Sha.sum) I k = FL at *
      have RS := fun (w : World) h => rsum_any x c (txt ls k) w h hml
      generalize hsm : (Sha.sum (txt ls k)).map U8 = SM at *
      generalize txt ls k = m at *
      clear hsm
      go_wp2_with fail
      refine wp_region_plan [([0, 1, 2, 3, 5, 6, 7, 8], some 4), ([9], none)] (fun w' => ∃ y : Later wr, w' = y.to) (by kernel_rfl) (by kernel_rfl) (fun _ _ d _ _ h => by cases d <;> exact h) (later_drew wr) ?_
      have hcL : ∀ y : Later wr, y.to.cell? ⟨b, off + k, none⟩ = some (.slice x m.length c) := fun y => y.cell hcell
      have hmL : ∀ y : Later wr, y.to.rangeAt b2 (o2 + k * 32) M := fun y => rangeAt_touch (F := fun _ => False) (.of_below y.below) hm2 id
      refine plan_some (show wpQuiet _ _ _ _ (_ :: _ :: _ :: _ :: _ :: _ :: _ :: _ :: []) _ from ?_)
      repeat (first
        | (go_big_quiet_want; refine quiet_mid_of (fun w' e => (show w'.rangeAt b2 (o2 + k * 32) M from by obtain ⟨y, rfl⟩ := e; exact hmL y)) Tryd.underlying39 rfl hiM rfl rfl ?_; simp only [Act.put, List.setIfInBounds_toArray, List.set_cons_succ, List.set_cons_zero]; go_big_quiet_on)
        | go_big_quiet_step (fail)
        | quiet_step (fail))
      refine wpQuiet_nil (show wpList _ _ _ (_ :: []) _ _ from ?_)
      have hm1 := hreads.keeps (Keeps.drewN wr 1)
      have hb1 := (Below.refl wr.heap.size wr).drew
      have RS1 := RS wr.drew hm1
      generalize hw : wr.drew = w2 at *
      clear hw hm1 hcL hmL hm2 hcell
      go_wp2_with fail
      refine RS1.mono ?_
      rintro e w3 ⟨rfl, hb3⟩
      have hb13 := hb1.trans (hb3.mono hb1.size)
      clear RS1 RS hb3 hb1
      go_wp2_with fail
      refine late_normal (fun _ h => h) (later_of hb13) ?_
      refine plan_none (show wpQuiet _ _ _ _ (_ :: []) _ from ?_)
      repeat (go_big_quiet_step (fail))
      refine wpQuiet_nil (plan_nil ?_)
      have HB3 := Lib.hid (HBR.out.trans (hb13.mono HBR.out.size))
      have HO3 := Lib.hid (HO1.out.below hb13)
      clear hb13 HNE HBR HO1
      cases bb with
      | false =>
        rw [if_neg (by simp)] at HWS
        go_wp2
        go_roundw
        case rel => exact ⟨k + 1, by omega, by go_num, by rw [HWS.out]; exact HO3.out, HB3.out⟩
        case measure => simp [intOf]; omega
      | true =>
        rw [if_pos rfl] at HWS
        have nA := (Below.refl w3.heap.size w3).alloc (Nat.le_refl _) (.cells #[.int .i64 k] 3)
        have hcell5 : (w3.alloc (.cells #[.int .i64 k] 3)).cell? ⟨w3.heap.size, 0, none⟩ = some (.int .i64 k) := by unfold World.cell?; rw [heap_alloc_new]; simp
        have HO5 := Lib.hid (HO3.out.below nA)
        have HB5 := Lib.hid (HB3.out.trans (nA.mono HB3.out.size))
        have hrow := HO5.out.row
        have hsz := HB5.out.size
        clear nA HO3 HB3
        go_wp2_with (at_builtin; refine wpList_append_elem intsElem rfl _ _ rfl w.heap.size u5 FL.length _ rfl hrow ⟨w3.heap.size, 0, none⟩ 1 (.int .i64 k) rfl hcell5 rfl (by omega) (by omega) hsz ?_; intro v5 w5 r1 r2 r3)
        go_roundw
        case rel =>
          refine ⟨k + 1, by omega, by go_num, ?_, ?_⟩
          · rw [HWS.out]
            exact OwnI.snoc HO5.out r1
          · exact HB5.out.trans ((Touch.of_grown (F := fun g => Value.ownBlock u5 = some g) r2 fun _ hk => hk).below (fun g hg => (row_lt HO5.out.row hg).1) HB5.out.size)
        case measure => simp [intOf]; omega
    · obtain rfl : k = ls.length := by omega
      have HO1 := Lib.hid HO
      have HBR := Lib.hid hbr
      clear HO hbr
      go_wp2
      go_ret
      exact ⟨_, rfl, HO1.out, HBR.out⟩
end Go.Proofs.YtbicafgmfgdckaaDoor
namespace Go.Proofs.YtbicafgmfgdckaaDoor
open Go Go.RowKit

theorem made_row (w : World) (t : TypeId) (Z C : Array Value) : ((w.alloc (.cells Z t)).setRow w.heap.size C).heap[w.heap.size]? = some (.cells C t (0, 0)) ∧ Below w.heap.size w ((w.alloc (.cells Z t)).setRow w.heap.size C) := by
  have h1 : (w.alloc (.cells Z t)).heap[w.heap.size]? = some (.cells Z t (0, 0)) := heap_alloc_new w _
  have t1 : Touch (fun x => x = w.heap.size) (w.alloc (.cells Z t)) ((w.alloc (.cells Z t)).setRow w.heap.size C) := Touch.setRow _ _ _ rfl
  exact ⟨setRow_heap _ _ _ _ t _ h1, ((Below.refl _ _).alloc (Nat.le_refl _) _).trans (t1.below (fun x e => by have e2 : x = w.heap.size := e; omega) (by simp))⟩
noncomputable def tail7 : Code := match Tryd.f7.body.getD .skip with
  | .seq _ (.seq _ c) => c
  | _ => .skip
/-- The slots there. -/
def ts7 (la : Option Addr) (n lc : Nat) (ia : Option Addr) (k ic : Nat) (m : Int) (sv e : Value) : Array Value :=
  #[.slice la n lc, .slice ia k ic, .int .i64 m, undef, undef, undef, .slice none 0 0, .int .i64 0, sv, e, undef, undef, undef, .tuple #[sv, e], .slice la n lc, .int .i64 m, .tuple #[sv, e], sv, e] ++ Array.replicate 29 undef
theorem wrongTail_bad (la ia : Option Addr) (n lc k ic : Nat) (m : Int) (w : World) :
    tail7.wp Tryd.prog (bodyPost Tryd.prog Tryd.f7 fun e w' => ∃ v, e = .returned v ∧ v = .tuple #[.slice none 0 0, .int .i64 2]) ⟨ts7 la n lc ia k ic m (.slice none 0 0) (.int .i64 2), []⟩ w := by
  obtain ⟨fn, hfn⟩ : ∃ fn, fn = Tryd.f7 := ⟨_, rfl⟩
  rw [← hfn]
  have HFN := Lib.hid hfn
  clear hfn
  simp only [tail7, ts7, Tryd.f7, Option.getD_some, Array.replicate_succ, Array.replicate_zero, List.push_toArray, List.append_toArray, List.nil_append, List.cons_append]
  go_wp2
  obtain rfl := HFN.out
  go_ret2
  exact ⟨_, rfl, rfl⟩
theorem wrongTail_order (la ia oa : Option Addr) (n lc k ic j oc : Nat) (m : Int) (w : World) (h : k ≠ n) :
    tail7.wp Tryd.prog (bodyPost Tryd.prog Tryd.f7 fun e w' => ∃ v, e = .returned v ∧ v = .tuple #[.slice none 0 0, .int .i64 18]) ⟨ts7 la n lc ia k ic m (.slice oa j oc) (.int .i64 0), []⟩ w := by
  have hne : ((n : Int) != (k : Int)) = true := by rw [bne_iff_ne]; omega
  obtain ⟨fn, hfn⟩ : ∃ fn, fn = Tryd.f7 := ⟨_, rfl⟩
  rw [← hfn]
  have HFN := Lib.hid hfn
  clear hfn
  simp only [tail7, ts7, Tryd.f7, Option.getD_some, Array.replicate_succ, Array.replicate_zero, List.push_toArray, List.append_toArray, List.nil_append, List.cons_append]
  go_wp2
  obtain rfl := HFN.out
  go_ret2
  exact ⟨_, rfl, rfl⟩
def WrongRel (w : World) (S I : Txts) (n : Nat) (v i : Value) (wr : World) : Prop :=
  ∃ k : Nat, k ≤ n ∧ i = .int .i64 k ∧ OwnI wr w.heap.size v (wrongs S I k) ∧ Below w.heap.size w wr
set_option maxHeartbeats 4000000 in
theorem wrongTail_good (la ia oa : Option Addr) (lc ic oc : Nat) (m : Int) (S I : Txts) (w : World) (hS : RowsC keyC 32 w oa oc S) (hI : RowsC keyC 32 w ia ic I) (hk1 : ∀ k ∈ S, k.length = 32) (hk2 : ∀ k ∈ I, k.length = 32) (hlen : I.length = S.length) (hn : S.length ≤ 100000) :
    tail7.wp Tryd.prog (bodyPost Tryd.prog Tryd.f7 fun e w' => ∃ v, e = .returned v ∧ ∃ x, v = .tuple #[x, .int .i64 0] ∧ ∃ B, OwnI w' B x (wrongs S I S.length)) ⟨ts7 la S.length lc ia I.length ic m (.slice oa S.length oc) (.int .i64 0), []⟩ w := by
  rw [hlen]
  have hne : ((S.length : Int) != (S.length : Int)) = false := by simp
  have hfitS := hS.fits
  have hroomS := hS.room
  have hfitI := hI.fits
  have hroomI := hI.room
  have HS := Lib.hid hS
  have HI := Lib.hid hI
  have HK1 := Lib.hid hk1
  have HK2 := Lib.hid hk2
  have HE := Lib.hid hlen
  rw [hlen] at hfitI
  clear hS hI hk1 hk2 hlen
  obtain ⟨fn, hfn⟩ : ∃ fn, fn = Tryd.f7 := ⟨_, rfl⟩
  rw [← hfn]
  have HFN := Lib.hid hfn
  clear hfn
  simp only [tail7, ts7, Tryd.f7, Option.getD_some, Array.replicate_succ, Array.replicate_zero, List.push_toArray, List.append_toArray, List.nil_append, List.cons_append]
  go_wp2_with fail
  clear hne
  go_loopw [10, 31] (fun v i wr => WrongRel w S I S.length v i wr) (fun _ i _ => S.length - (intOf i).toNat)
  case atStart => exact ⟨0, Nat.zero_le _, rfl, ownsC_nil _ _ _, Below.refl _ _⟩
  case round =>
    obtain ⟨k, hkn, rfl, HO, hbr⟩ := hrel
    by_cases hlt : k < S.length
    · have hltI : k < I.length := by rw [HE.out]; exact hlt
      obtain ⟨b1, o1, rfl, hrow1⟩ := (HS.out.below hbr).rows.resolve_left (fun e => by rw [e] at hlt; simp at hlt)
      obtain ⟨b2, o2, rfl, hrow2⟩ := (HI.out.below hbr).rows.resolve_left (fun e => by rw [e] at hltI; simp at hltI)
      have hm1 : wr.rangeAt b1 (o1 + k * 32) (S[k].map U8) := hrow1 k hlt
      have hm2 : wr.rangeAt b2 (o2 + k * 32) (I[k].map U8) := hrow2 k hltI
      have hkS := HK1.out S[k] (List.getElem_mem hlt)
      have hkI := HK2.out I[k] (List.getElem_mem hltI)
      have hws := wrongs_succ S I k
      rw [txt_lt hlt, txt_lt hltI] at hws
      have HNE := fun w => run_neq_id S[k] I[k] hkS hkI w
      have hiS : (Tryd.prog.info? 39).map (·.size) = some (S[k].map U8).length := by rw [List.length_map, hkS]; kernel_rfl
      have hiI : (Tryd.prog.info? 39).map (·.size) = some (I[k].map U8).length := by rw [List.length_map, hkI]; kernel_rfl
      have hvS : (Tryd.prog.info? 39).map (·.size) = some (S[k].map U8).toArray.size := by rw [List.size_toArray]; exact hiS
      have hiS' := hiS
      have hlS : (S[k].map U8).length = 32 := by rw [List.length_map, hkS]
      have hoS : (S[k].map U8).toArray.all (·.oneCell') = true := all_oneCell_toArray (one_keyC S[k])
      obtain ⟨Z, hz, sZ⟩ : ∃ Z : Array Value, (∀ w, Sem.run Tryd.prog (zeroValue 39) w = .ok (.agg Z) w) ∧ Z.size = 32 := by
        obtain ⟨z, rfl, h⟩ := zero_id
        exact ⟨_, h, by simp⟩
      have hzS : Z.size = (S[k].map U8).toArray.size := by rw [sZ, List.size_toArray, hlS]
      have HWS := Lib.hid hws
      have HO1 := Lib.hid HO
      have HBR := Lib.hid hbr
      have hwl := wrongs_length S I k
      clear hws HO hbr hrow1 hrow2 hkS hkI sZ hlS
      generalize (S[k] != I[k]) = bb at *
      generalize S[k].map U8 = M1 at *
      generalize I[k].map U8 = M2 at *
      generalize wrongs S I k = FL at *
      have hnew := heap_alloc_new wr (.cells Z 39)
      obtain ⟨m9, n9⟩ := made_row wr 39 Z M1.toArray
      have hm29 := rangeAt_touch (F := fun _ => False) (.of_below n9) hm2 id
      have HB9 := Lib.hid (HBR.out.trans (n9.mono HBR.out.size))
      have HO9 := Lib.hid (HO1.out.below n9)
      clear n9 hm2
      go_wp2_with (first
        | (with_reducible refine at_load 39 ?_; go_must (refine wpList_load_mid rfl 39 _ rfl b1 (o1 + k * 32) rfl M1 _ hm1 Tryd.underlying39 rfl hiS ?_))
        | (with_reducible refine at_store 39 ?_; go_must (refine wpList_store_row rfl 39 _ _ rfl wr.heap.size M1.toArray rfl rfl _ Z hnew hvS hzS hoS ?_)))
      clear hnew hzS hvS hoS hm1 hiS hz
      generalize (wr.alloc (.cells Z 39)).setRow wr.heap.size M1.toArray = w9 at *
      have r9 := rangeAt_row m9
      rw [List.toList_toArray] at r9
      have hiM1 : (Tryd.prog.info? 39).map (·.size) = some M1.toArray.size := by rw [List.size_toArray]; exact hiS'
      simp only [Act.put]
      refine wp_region_quiet_lit (by kernel_rfl) (by kernel_rfl) ?_
      repeat (first
        | (go_big_quiet_want; refine quiet_row_of (fun w' e => (show w'.heap[wr.heap.size]? = some (.cells M1.toArray 39 (0, 0)) from by obtain ⟨_, rfl⟩ := e; exact m9)) Tryd.underlying39 rfl hiM1 rfl rfl ?_; simp only [Act.put, List.setIfInBounds_toArray, List.set_cons_succ, List.set_cons_zero]; go_big_quiet_on)
        | (go_big_quiet_want; refine quiet_mid_of (fun w' e => (show w'.rangeAt b2 (o2 + k * 32) M2 from by obtain ⟨_, rfl⟩ := e; exact hm29)) Tryd.underlying39 rfl hiI rfl rfl ?_; simp only [Act.put, List.setIfInBounds_toArray, List.set_cons_succ, List.set_cons_zero]; go_big_quiet_on)
        | go_big_quiet_step (fail)
        | quiet_step (fail))
      refine wpQuiet_nil ?_
      rintro _ ⟨nq, rfl⟩
      have HB3 := Lib.hid (below_drewN HB9.out nq)
      have HO3 := Lib.hid (HO9.out.drewN nq)
      clear HNE m9 r9 hm29 HB9 HO9 HBR HO1
      generalize w9.drewN nq = w3 at *
      cases bb with
      | false =>
        rw [if_neg (by simp)] at HWS
        go_wp2
        go_roundw
        case rel => exact ⟨k + 1, by omega, by go_num, by rw [HWS.out]; exact HO3.out, HB3.out⟩
        case measure => simp [intOf]; omega
      | true =>
        rw [if_pos rfl] at HWS
        have nA := (Below.refl w3.heap.size w3).alloc (Nat.le_refl _) (.cells #[.int .i64 k] 3)
        have hcell5 : (w3.alloc (.cells #[.int .i64 k] 3)).cell? ⟨w3.heap.size, 0, none⟩ = some (.int .i64 k) := by unfold World.cell?; rw [heap_alloc_new]; simp
        have HO5 := Lib.hid (HO3.out.below nA)
        have HB5 := Lib.hid (HB3.out.trans (nA.mono HB3.out.size))
        have hrow := HO5.out.row
        have hsz := HB5.out.size
        clear nA HO3 HB3
        go_wp2_with (at_builtin; refine wpList_append_elem intsElem rfl _ _ rfl w.heap.size u10 FL.length _ rfl hrow ⟨w3.heap.size, 0, none⟩ 1 (.int .i64 k) rfl hcell5 rfl (by omega) (by omega) hsz ?_; intro v5 w5 r1 r2 r3)
        go_roundw
        case rel =>
          refine ⟨k + 1, by omega, by go_num, ?_, ?_⟩
          · rw [HWS.out]
            exact OwnI.snoc HO5.out r1
          · exact HB5.out.trans ((Touch.of_grown (F := fun g => Value.ownBlock u10 = some g) r2 fun _ hk => hk).below (fun g hg => (row_lt HO5.out.row hg).1) HB5.out.size)
        case measure => simp [intOf]; omega
    · obtain rfl : k = S.length := by omega
      have HO1 := Lib.hid HO
      have HBR := Lib.hid hbr
      clear HO hbr
      go_wp2
      obtain rfl := HFN.out
      go_ret2
      exact ⟨_, rfl, _, rfl, _, HO1.out⟩
end Go.Proofs.YtbicafgmfgdckaaDoor
