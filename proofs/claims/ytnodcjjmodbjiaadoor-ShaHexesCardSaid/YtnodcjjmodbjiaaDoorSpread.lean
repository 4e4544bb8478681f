/- The reference's spread: the schedule. -/
import Derived.Test.YtnodcjjmodbjiaaDoorWords
namespace Go.Proofs.YtnodcjjmodbjiaaDoor
open Go Go.RowKit

theorem turned_quiet (x : BitVec 32) (N : Int) (h1 : 1 ≤ N) (h2 : N ≤ 31) (w : World) (j : Nat) : Calls Tryd.prog 38 #[U32 x, .int .u64 N] (w.drewN j) fun e w'' => e = .returned (U32 (Sha.rotr x N.toNat)) ∧ ∃ m, w'' = w.drewN m := by
  obtain ⟨n, rfl⟩ : ∃ n : Nat, N = n := ⟨N.toNat, by omega⟩
  exact (turned_any x n (by omega) (by omega) _).mono fun _ _ ⟨he, hw⟩ => ⟨he, j, hw.symm⟩
theorem div8 (x : BitVec 32) : x / 8#32 = x >>> 3 := by
  apply BitVec.eq_of_toNat_eq
  simp [BitVec.toNat_udiv, BitVec.toNat_ushiftRight, Nat.shiftRight_eq_div_pow]
theorem div1024 (x : BitVec 32) : x / 1024#32 = x >>> 10 := by
  apply BitVec.eq_of_toNat_eq
  simp [BitVec.toNat_udiv, BitVec.toNat_ushiftRight, Nat.shiftRight_eq_div_pow]
theorem take_word (S : Words) (k : Nat) (h : k < S.length) : S.take (k + 1) = S.take k ++ [wordAt S k] := by
  rw [List.take_succ_eq_append_getElem h]; simp [wordAt, List.getD_eq_getElem?_getD, List.getElem?_eq_getElem h]
theorem wordAt_take (S : Words) (k j : Nat) (h : j < k) : wordAt (S.take k) j = wordAt S j := by simp [wordAt, List.getD_eq_getElem?_getD, h]
theorem cell_new (w : World) (u : Value) (t : TypeId) : (w.alloc (.cells #[u] t)).cell? ⟨w.heap.size, 0, none⟩ = some u := by
  unfold World.cell?; rw [heap_alloc_new]; rfl
theorem OwnsW.at_ {w : World} {B : Nat} {a : Option Addr} {c k : Nat} {f : Words} (h : OwnsW w B (.slice a f.length c) f) (hk : f.length = k) : w.ownsRow B 42 1 (.slice a k c) k (f.map U32) := by subst hk; exact h
theorem OwnsW.snoc {w : World} {B k : Nat} {v : Value} {f : Words} {x : BitVec 32} (h : w.ownsRow B 42 1 v (k + 1) (f.map U32 ++ [U32 x])) (hk : f.length = k) : OwnsW w B v (f ++ [x]) := by
  subst hk
  unfold OwnsW
  rw [List.length_append, List.map_append]; exact h
def SpreadRel (S : Words) (B : Nat) (w : World) (s i : Value) (wr : World) : Prop :=
  ∃ k : Nat, k ≤ 64 ∧ OwnsW wr B s (S.take k) ∧ i = .int .i64 k ∧ Below B w wr
def TwoCells (g m n : Nat) (x y : BitVec 32) (w : World) : Prop := w.cell? ⟨g, m, none⟩ = some (U32 x) ∧ w.cell? ⟨g, n, none⟩ = some (U32 y)
theorem below_appendW {B : Nat} {w w2 w3 : World} {o : Obj} {v : Value} {f : Words} (hb : Below B w w2) (hB : B ≤ w.heap.size) (ho : OwnsW (w2.alloc o) B v f) (hg : (w2.alloc o).grownBy w3 v.ownBlock) : Below B w w3 := by
  have h1 := hb.size
  have h2 : B ≤ (w2.alloc o).heap.size := by simp; omega
  exact (hb.alloc (by omega) o).trans ((Touch.of_grown (F := fun k => v.ownBlock = some k) hg fun k hk => hk).below (fun k hk => (row_lt ho hk).1) h2)
set_option maxRecDepth 40000 in
set_option maxHeartbeats 1000000 in
theorem spread_any (b off cap : Nat) (l : List (BitVec 8)) (w : World) (hl : l.length = 64) (hcap : 64 ≤ cap) (hcm : cap ≤ 9223372036854775807) (hb : BytesAt w b off l) :
    Calls Tryd.prog 28 #[.slice (some ⟨b, off, none⟩) 64 cap] w fun e w' => ∃ v, e = .returned v ∧ OwnsW w' w.heap.size v (Sha.sched l) ∧ Below w.heap.size w w' := by
  have hSl := Sha.length_sched l
  have hlow := Lib.hid (Sha.sched_low l)
  have hhigh := Lib.hid (Sha.sched_high l)
  generalize Sha.sched l = S at *
  obtain ⟨B, hB⟩ : ∃ B, w.heap.size = B := ⟨_, rfl⟩
  rw [hB]
  go_enter Tryd.func28, Tryd.ntmps28
  go_wp2
  go_loopw [3, 4] (fun s i wr => SpreadRel S B w s i wr) (fun _ i _ => 64 - (intOf i).toNat)
  case atStart => exact ⟨0, by omega, ownsW_nil _ _, rfl, hB ▸ Below.refl _ _⟩
  case round =>
    obtain ⟨k, hk, ho, rfl, hbw⟩ := hrel
    by_cases hlt : k < 64
    · have htk := take_word S k (by omega)
      have hfl : (S.take k).length = k := by rw [List.length_take]; omega
      have hwt := fun j (h : j < k) => wordAt_take S k j h
      by_cases h16 : k < 16
      · have hs := fun w => run_slice_both (P := Tryd.prog) byteSlice w (some ⟨b, off, none⟩) 64 cap .i64 .i64 (4 * k) (4 * k + 4) (4 * (k : Int)) (4 * (k : Int) + 4) (by omega) (by omega) (by omega) (by omega)
        have hda : dropAddr (some ⟨b, off, none⟩) cap (4 * k) = some ⟨b, off + 4 * k, none⟩ := by
          unfold dropAddr
          rw [if_neg (by omega), Option.map_some, Addr.add_lit]
        rw [hda, show 4 * k + 4 - 4 * k = 4 by omega] at hs
        have hm4 : ((l.drop (4 * k)).take 4).length = 4 := by rw [List.length_take, List.length_drop]; omega
        have hbm : BytesAt wr b (off + 4 * k) ((l.drop (4 * k)).take 4) := ((hb.mono (Keeps.below (hB ▸ hbw) ⟨b, ·, none⟩)).drop (4 * k)).take 4
        have hrm : Reads wr (some ⟨b, off + 4 * k, none⟩) (cap - 4 * k) ((l.drop (4 * k)).take 4) := ⟨by omega, by omega, (by intro e; cases e), .inr ⟨_, _, rfl, hbm⟩⟩
        have hbig := big4 _ hm4
        have hbyte : ∀ j, j < 4 → byteAt ((l.drop (4 * k)).take 4) j = byteAt l (4 * k + j) := fun j hj => by rw [byteAt_take hj, byteAt_drop]
        rw [hbyte 0 (by omega), hbyte 1 (by omega), hbyte 2 (by omega), hbyte 3 (by omega)] at hbig
        have hbig2 : (bigOf ((l.drop (4 * k)).take 4)).setWidth 32 = wordAt S k := hbig.trans (hlow.out k h16).symm
        generalize (l.drop (4 * k)).take 4 = m at *
        have BK := rback_any (some ⟨b, off + 4 * k, none⟩) (cap - 4 * k) m wr hrm (by omega)
        rw [hm4] at BK
        have HBIG := Lib.hid hbig2
        have HTK := Lib.hid htk
        have HHB := Lib.hid hb
        have HRM4 := Lib.hid hm4
        clear hbig hbig2 hbyte hda htk hb hm4 hrm hbm
        generalize S.take k = f at *
        have hbs := hbw.size
        go_wp2_with fail
        refine BK.mono ?_
        rintro e w2 ⟨v2, rfl, ho2, hb2⟩
        obtain ⟨mr, hmr⟩ : ∃ q, m.reverse = q := ⟨_, rfl⟩
        have hml : mr.length = 4 := by rw [← hmr, List.length_reverse]; exact HRM4.out
        have hbig : (bigOf mr.reverse).setWidth 32 = wordAt S k := by rw [← hmr, List.reverse_reverse]; exact HBIG.out
        rw [hmr] at ho2
        clear hmr
        obtain ⟨a2, c2, rfl, hr2⟩ := ho2.reads
        obtain ⟨b2, off2, rfl, hby2⟩ := hr2.bytes.resolve_left (fun e => by rw [e] at hml; simp at hml)
        have GT := rget_any b2 off2 c2 mr w2 (by omega) (by omega) hby2
        generalize bigOf mr.reverse = x at *
        have HB2 := Lib.hid hbig
        have HML := Lib.hid hml
        clear hbig hml
        clear BK hs
        go_wp2_with fail
        refine GT.mono ?_
        rintro e w3 ⟨rfl, rfl⟩
        have ho3 := OwnsW.below ho hb2
        have hcell : (w2.alloc (.cells #[U32 (x.setWidth 32)] 42)).cell? ⟨w2.heap.size, 0, none⟩ = some (U32 (x.setWidth 32)) := cell_new w2 _ _
        have ho3' := OwnsW.below ho3 (w' := w2.alloc (.cells #[U32 (x.setWidth 32)] 42)) ((Below.refl _ _).alloc (Nat.le_refl _) _)
        have hs2 := hb2.size
        have hz' : B ≤ (w2.alloc (.cells #[U32 (x.setWidth 32)] 42)).heap.size := by simp; omega
        obtain ⟨a0, c0, rfl⟩ := ho.anyForm
        have ho4 := ho3'.at_ hfl
        have HO3 := Lib.hid ho3'
        have hbb := (hbw.trans (hb2.mono (hB ▸ hbs)))
        clear ho GT ho3 ho3'
        go_wp2_with (at_builtin; refine wpList_append_elem wordsElem rfl _ _ rfl B (.slice a0 k c0) k (f.map U32) rfl ho4 ⟨w2.heap.size, 0, none⟩ 1 (U32 (x.setWidth 32)) rfl hcell rfl (by omega) (by omega) hz' ?_; intro v5 w5 ho5 hg5 _)
        go_roundw
        case rel =>
          refine ⟨k + 1, by omega, ?_, by go_num, below_appendW hbb (by omega) HO3.out (by rw [hfl]; exact hg5)⟩
          rw [HTK.out, ← HB2.out]
          exact OwnsW.snoc ho5 hfl
        case measure => simp [intOf]; omega
      · obtain ⟨n15, e15⟩ : ∃ n : Nat, (k : Int) - 15 = n := ⟨k - 15, by omega⟩
        obtain ⟨n2, e2⟩ : ∃ n : Nat, (k : Int) - 2 = n := ⟨k - 2, by omega⟩
        obtain ⟨n16, e16⟩ : ∃ n : Nat, (k : Int) - 16 = n := ⟨k - 16, by omega⟩
        obtain ⟨n7, e7⟩ : ∃ n : Nat, (k : Int) - 7 = n := ⟨k - 7, by omega⟩
        have l15 : n15 < k := by omega
        have l2 : n2 < k := by omega
        have l16 : n16 < k := by omega
        have l7 : n7 < k := by omega
        have hnext := hhigh.out k (by omega) hlt
        have hnext2 : wordAt S k = wordAt S n16 + Sha.small0 (wordAt S n15) + wordAt S n7 + Sha.small1 (wordAt S n2) := by
          rw [show n16 = k - 16 by omega, show n15 = k - 15 by omega, show n7 = k - 7 by omega, show n2 = k - 2 by omega]; exact hnext
        rw [← hwt n16 l16, ← hwt n15 l15, ← hwt n7 l7, ← hwt n2 l2] at hnext2
        generalize S.take k = f at *
        obtain ⟨g, c0, rfl, hc1, hc2, hBg, hgl, hcell⟩ := OwnsW.form ho (fun e => by rw [e] at hfl; simp at hfl; omega)
        have c15 := hcell n15 (by omega)
        have c2 := hcell n2 (by omega)
        have c16 := hcell n16 (by omega)
        have c7 := hcell n7 (by omega)
        have HN := Lib.hid hnext2
        have HTK := Lib.hid htk
        have HBW := Lib.hid hbw
        have HHB := Lib.hid hb
        have ho4 := ho.at_ hfl
        have HO := Lib.hid ho4
        have HFL := Lib.hid hfl
        rw [hfl]
        clear hnext hnext2 htk hwt hbw hb hcell ho ho4 hfl
        generalize wordAt f n15 = x15 at *
        generalize wordAt f n2 = x2 at *
        generalize wordAt f n16 = x16 at *
        generalize wordAt f n7 = x7 at *
        have d8 := div8 x15
        have d1024 := div1024 x2
        go_wp2
        go_quiet (exact turned_quiet _ _ (by decide) (by decide) _ _)
        have f2 : (wr.drewN nq).cell? ⟨g, n2, none⟩ = some (U32 x2) := c2
        have f16 : (wr.drewN nq).cell? ⟨g, n16, none⟩ = some (U32 x16) := c16
        have f7 : (wr.drewN nq).cell? ⟨g, n7, none⟩ = some (U32 x7) := c7
        have HO1 : Hid ((wr.drewN nq).ownsRow B 42 1 (.slice (some ⟨g, 0, none⟩) k c0) k (f.map U32)) := Lib.hid HO.out
        have HB1 : Hid (Below B w (wr.drewN nq)) := Lib.hid (below_drewN HBW.out nq)
        clear c15 c2 c16 c7 HO HBW hgl
        generalize wr.drewN nq = w6 at *
        go_wp2
        go_quiet (exact turned_quiet _ _ (by decide) (by decide) _ _)
        have g16 : (w6.drewN nq).cell? ⟨g, n16, none⟩ = some (U32 x16) := f16
        have g7 : (w6.drewN nq).cell? ⟨g, n7, none⟩ = some (U32 x7) := f7
        have HO2 : Hid ((w6.drewN nq).ownsRow B 42 1 (.slice (some ⟨g, 0, none⟩) k c0) k (f.map U32)) := Lib.hid HO1.out
        have HB2 : Hid (Below B w (w6.drewN nq)) := Lib.hid (below_drewN HB1.out nq)
        clear f2 f16 f7 HO1 HB1
        generalize w6.drewN nq = w7 at *
        generalize hp : Sha.rotr x15 7 ^^^ Sha.rotr x15 18 ^^^ x15 >>> 3 = p at *
        generalize hq : Sha.rotr x2 17 ^^^ Sha.rotr x2 19 ^^^ x2 >>> 10 = q at *
        have HP := Lib.hid hp
        have HQ := Lib.hid hq
        clear hp hq d8 d1024
        go_wp2_with fail
        have C16 : ∀ x : Of (TwoCells g n16 n7 x16 x7), x.to.cell? ⟨g, n16, none⟩ = some (U32 x16) := fun x => x.ok.1
        have C7 : ∀ x : Of (TwoCells g n16 n7 x16 x7), x.to.cell? ⟨g, n7, none⟩ = some (U32 x7) := fun x => x.ok.2
        have tw : TwoCells g n16 n7 x16 x7 w7 := ⟨g16, g7⟩
        haveI : Nonempty (Of (TwoCells g n16 n7 x16 x7)) := of_ne tw
        refine wp_region_plan [([0, 1, 2, 3, 4, 5, 6, 7, 8, 9, 10, 11, 12, 13, 14, 15], some 16), ([], some 17), ([18], none)] (fun w' => ∃ x : Of (TwoCells g n16 n7 x16 x7), w' = x.to) (by kernel_rfl) (by kernel_rfl) (fun _ _ d _ _ h => by cases d <;> exact h) (of_mk (w := w7.drew) (S := TwoCells g n16 n7 x16 x7) tw) ?_
        refine plan_some (show wpQuiet _ _ _ _ (_ :: _ :: _ :: _ :: _ :: _ :: _ :: _ :: _ :: _ :: _ :: _ :: _ :: _ :: _ :: _ :: []) _ from ?_)
        repeat (go_big_quiet_step (fail))
        refine wpQuiet_nil (show wpList _ _ _ (_ :: []) _ _ from ?_)
        have tw2 : TwoCells g n16 n7 x16 x7 w7.drew := tw
        have HO3 : Hid (w7.drew.ownsRow B 42 1 (.slice (some ⟨g, 0, none⟩) k c0) k (f.map U32)) := Lib.hid HO2.out
        have HB3 : Hid (Below B w w7.drew) := Lib.hid (HB2.out.drew)
        clear C16 C7 g16 g7 tw HO2 HB2
        generalize w7.drew = w8 at *
        go_wp2_with fail
        have hx : x16 + p + x7 + q = wordAt S k := by rw [← HP.out, ← HQ.out]; exact HN.out.symm
        rw [hx]
        generalize wordAt S k = x at *
        have hs8 := HB3.out.size
        have tw3 : TwoCells g n16 n7 x16 x7 (w8.alloc (.cells #[U32 x] 42)) := ⟨Keeps.alloc w8 _ _ _ tw2.1, Keeps.alloc w8 _ _ _ tw2.2⟩
        have hcell : (w8.alloc (.cells #[U32 x] 42)).cell? ⟨w8.heap.size, 0, none⟩ = some (U32 x) := cell_new w8 _ _
        have ho9 : (w8.alloc (.cells #[U32 x] 42)).ownsRow B 42 1 (.slice (some ⟨g, 0, none⟩) k c0) k (f.map U32) := Touch.row (F := fun _ => False) ((Touch.refl _ _).alloc _) HO3.out fun _ _ e => e
        have hz' : B ≤ (w8.alloc (.cells #[U32 x] 42)).heap.size := by simp; omega
        have hb9 : Below B w (w8.alloc (.cells #[U32 x] 42)) := HB3.out.alloc (by omega) _
        refine late_normal (fun _ h => h) (of_mk tw3) ?_
        generalize w8.alloc (.cells #[U32 x] 42) = w9 at *
        refine plan_some (show wpQuiet _ _ _ _ [] _ from ?_)
        refine wpQuiet_nil (show wpList _ _ _ (_ :: []) _ _ from ?_)
        refine wpList_append_keep wordsElem rfl _ _ rfl B g k c0 (f.map U32) rfl ho9 ⟨w8.heap.size, 0, none⟩ 1 (U32 x) rfl hcell rfl (by omega) (by omega) hz' ?_
        intro v10 w10 ho10 hg10 hb10 hkeep
        have tw4 : TwoCells g n16 n7 x16 x7 w10 := ⟨by rw [hkeep n16 l16]; exact tw3.1, by rw [hkeep n7 l7]; exact tw3.2⟩
        have hbf : Below B w w10 := hb9.trans ((Touch.of_grown (F := fun q => q = g) hg10 fun q hq => (Option.some.inj hq).symm).below (fun q e => by have e2 : q = g := e; omega) hz')
        have HOF := Lib.hid ho10
        have HBF := Lib.hid hbf
        clear ho9 hcell tw3 hb9 hkeep hg10 hb10 ho10 hbf tw2
        go_wp2_with fail
        refine late_normal (fun _ h => h) (of_mk tw4) ?_
        refine plan_none (show wpQuiet _ _ _ _ (_ :: []) _ from ?_)
        repeat (go_big_quiet_step (fail))
        refine wpQuiet_nil ?_
        refine plan_nil ?_
        go_wp2
        go_roundw
        case rel =>
          refine ⟨k + 1, by omega, ?_, by go_num, HBF.out⟩
          rw [HTK.out]
          exact OwnsW.snoc HOF.out HFL.out
        case measure => simp [intOf]; omega
    · obtain rfl : k = 64 := by omega
      rw [show (((64 : Nat) : Int)) = 64 from rfl]
      rw [List.take_of_length_le (by omega)] at ho
      clear hb
      go_wp2
      go_ret
      exact ⟨_, rfl, ho, hbw⟩
end Go.Proofs.YtnodcjjmodbjiaaDoor
