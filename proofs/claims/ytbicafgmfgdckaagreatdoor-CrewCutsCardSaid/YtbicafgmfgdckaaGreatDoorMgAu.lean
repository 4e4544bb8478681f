/- A lone run of the parts' job, up to where they are handed over. -/
import Derived.Test.YtbicafgmfgdckaaGreatDoorMgAl
import Derived.Test.YtbicafgmfgdckaaGreatDoorMgAs
import Derived.Test.YtbicafgmfgdckaaGreatDoorMgAt
namespace Go.Proofs.YtbicafgmfgdckaaGreatDoor
open Go Go.RowKit
def seqAt : Code -> Nat -> Code
 | .seq a _, 0 => a
 | .seq _ b, n + 1 => seqAt b n
 | c, _ => c
noncomputable def partCode (n : Nat) : Code := seqAt (Tryz.f23.body.getD .skip) n
noncomputable def partCodes : List Code := [partCode 1, partCode 2, partCode 3]
def PartS (x SB LB DB : Nat) (t6 t7 t8 : Value) (us : List Value) : Array Value := (([.int .i64 (x : Int), .pointer (some ⟨SB, 0, none⟩), .pointer (some ⟨LB, 0, none⟩), .pointer (some ⟨DB, 0, none⟩), undef, .bool false, t6, t7, t8] : List Value) ++ us).toArray
structure PartIn (h : CutMath.Sh) (w : World) (x SB LB : Nat) (row : List (BitVec 8)) : Prop where
 c0 : w.cell? ⟨SB, 0, none⟩ = some (.int .i64 h.L)
 c1 : w.cell? ⟨SB, 1, none⟩ = some (.int .i64 h.M)
 c2 : w.cell? ⟨SB, 2, none⟩ = some (.int .i64 h.K)
 c3 : w.cell? ⟨SB, 3, none⟩ = some (.int .i64 h.W)
 c4 : w.cell? ⟨SB, 4, none⟩ = some (U32 h.s)
 rws : ∃ lb lo n lc a c, w.cell? ⟨LB, 0, none⟩ = some (.slice (some ⟨lb, lo, none⟩) n lc) /\ x < n /\ w.cell? ⟨lb, lo + x, none⟩ = some (.slice a row.length c) /\ Reads w a c row
 short : row.length <= 100000
 k : KTab w
theorem PartIn.keeps {h : CutMath.Sh} {w w' : World} {x SB LB : Nat} {row : List (BitVec 8)} (q : PartIn h w x SB LB row) (k : Keeps w w') : PartIn h w' x SB LB row := by
 obtain ⟨lb, lo, n, lc, a, c, h1, h2, h5, h6⟩ := q.rws
 exact ⟨k _ _ q.c0, k _ _ q.c1, k _ _ q.c2, k _ _ q.c3, k _ _ q.c4, ⟨lb, lo, n, lc, a, c, k _ _ h1, h2, k _ _ h5, h6.keeps k⟩, q.short, q.k.keeps k⟩
def Part1 (h : CutMath.Sh) (x SB LB DB : Nat) (row : List (BitVec 8)) (w : World) (ts : Array Value) (w' : World) : Prop :=
 ∃ sa sc t7 us, us.length = 30 /\ ts = PartS x SB LB DB (.slice sa (CutMath.split h row).length sc) t7 undef us /\ Texts w' sa sc (CutMath.split h row) /\ Below w.heap.size w w'
set_option maxRecDepth 100000 in
set_option maxHeartbeats 4000000 in
theorem part_seg1 (h : CutMath.Sh) (g : h.Good) (x SB LB DB : Nat) (row : List (BitVec 8)) (w : World) (hin : PartIn h w x SB LB row) :
  (partCode 1).wp Tryz.prog (fun e a' w' => e = .normal /\ a'.defers = [] /\ Part1 h x SB LB DB row w a'.tmps w') ⟨PartS x SB LB DB undef undef undef (List.replicate 30 undef), []⟩ w := by
 obtain ⟨d0, d1, d2, d3, d4, ⟨lb, lo, n, lc, a, c, dl, hxn, dr, hreads⟩, hshort, _⟩ := hin
 have c0 : ∀ y : Later w, y.to.cell? _ = _ := fun y => Keeps.below y.below _ _ d0
 have c1 : ∀ y : Later w, y.to.cell? _ = _ := fun y => Keeps.below y.below _ _ d1
 have c2 : ∀ y : Later w, y.to.cell? _ = _ := fun y => Keeps.below y.below _ _ d2
 have c3 : ∀ y : Later w, y.to.cell? _ = _ := fun y => Keeps.below y.below _ _ d3
 have c4 : ∀ y : Later w, y.to.cell? _ = _ := fun y => Keeps.below y.below _ _ d4
 have c5 : ∀ y : Later w, y.to.cell? _ = _ := fun y => Keeps.below y.below _ _ dl
 have c6 : ∀ y : Later w, y.to.cell? _ = _ := fun y => Keeps.below y.below _ _ dr
 have SP := cutSplit_good h g a c row w.drew (by omega) (hreads.keeps (Keeps.drewN w 1))
 have hb1 := (Below.refl w.heap.size w).drew
 clear d0 d1 d2 d3 d4 dl dr hreads
 unfold partCode PartS
 unfold shV shapeV at *
 simp only [Tryz.f23, Option.getD_some, seqAt, List.replicate, List.cons_append, List.nil_append]
 refine wp_region_plan [([0, 1, 2, 3, 4], some 5), ([6, 7, 8, 9, 10], none)] (fun w' => ∃ y : Later w, w' = y.to) (by kernel_rfl) (by kernel_rfl) (fun _ _ _ _ _ h => by cases h.1) (later_drew w) ?_
 refine plan_some (show wpQuiet _ _ _ _ (_ :: _ :: _ :: _ :: _ :: []) _ from ?_)
 repeat (go_big_quiet_step (fail))
 refine wpQuiet_nil (show wpList _ _ _ (_ :: []) _ _ from ?_)
 generalize hw : w.drew = w3 at *
 go_wp2_with fail
 refine SP.mono ?_
 rintro e w2 ⟨sv, svs, rfl, srows, hb2⟩
 obtain ⟨sa, sc, rfl, hT⟩ := srows.texts
 have HB := Lib.hid (hb1.trans (hb2.mono hb1.size))
 have HT := Lib.hid hT
 clear srows hT hb1 hb2 SP
 go_wp2_with fail
 refine late_normal (fun _ h => h) (later_of HB.out) ?_
 refine plan_none (show wpQuiet _ _ _ _ (_ :: _ :: _ :: _ :: _ :: []) _ from ?_)
 repeat (go_big_quiet_step (fail))
 refine wpQuiet_nil (plan_nil ?_)
 exact ⟨rfl, rfl, sa, sc, _, [_, _, _, _, _, _, _, _, _, _, _, _, _, _, _, _, _, _, _, _, _, _, _, _, _, _, _, _, _, _], rfl, rfl, HT.out, HB.out⟩
theorem list30 {l : List Value} (h : l.length = 30) : ∃ a0 a1 a2 a3 a4 a5 a6 a7 a8 a9 a10 a11 a12 a13 a14 a15 a16 a17 a18 a19 a20 a21 a22 a23 a24 a25 a26 a27 a28 a29, l = [a0, a1, a2, a3, a4, a5, a6, a7, a8, a9, a10, a11, a12, a13, a14, a15, a16, a17, a18, a19, a20, a21, a22, a23, a24, a25, a26, a27, a28, a29] := by
 match l, h with
 | [a0, a1, a2, a3, a4, a5, a6, a7, a8, a9, a10, a11, a12, a13, a14, a15, a16, a17, a18, a19, a20, a21, a22, a23, a24, a25, a26, a27, a28, a29], _ => exact ⟨a0, a1, a2, a3, a4, a5, a6, a7, a8, a9, a10, a11, a12, a13, a14, a15, a16, a17, a18, a19, a20, a21, a22, a23, a24, a25, a26, a27, a28, a29, rfl⟩
def Part3 (x SB LB DB B : Nat) (L : List Pt) (ts : Array Value) (w' : World) : Prop :=
 ∃ t6 t7 v us, us.length = 30 /\ ts = PartS x SB LB DB t6 t7 v us /\ OwnsC partC 33 w' B 60 v L /\ (L = [] -> v = .slice none 0 0)
set_option maxRecDepth 100000 in
theorem part_seg2 (x SB LB DB : Nat) (t6 t7 : Value) (us : List Value) (hus : us.length = 30) (w : World) (Q : Array Value -> World -> Prop) (hQ : Q (PartS x SB LB DB t6 t7 (.slice none 0 0) us) w) :
  (partCode 2).wp Tryz.prog (fun e a' w' => e = .normal /\ a'.defers = [] /\ Q a'.tmps w') ⟨PartS x SB LB DB t6 t7 undef us, []⟩ w := by
 obtain ⟨a0, a1, a2, a3, a4, a5, a6, a7, a8, a9, a10, a11, a12, a13, a14, a15, a16, a17, a18, a19, a20, a21, a22, a23, a24, a25, a26, a27, a28, a29, rfl⟩ := list30 hus
 unfold partCode
 unfold PartS at *
 simp only [Tryz.f23, Option.getD_some, seqAt, List.replicate, List.cons_append, List.nil_append] at *
 go_wp2_with fail
 exact hQ
def PartLoop (w : World) (ls : Txts) (v i : Value) (wr : World) : Prop :=
 ∃ k : Nat, k <= ls.length /\ i = .int .i64 k /\ OwnsC partC 33 wr w.heap.size 60 v ((ls.take k).map partOf) /\ Below w.heap.size w wr /\ (k = 0 -> v = .slice none 0 0)
set_option maxRecDepth 100000 in
set_option maxHeartbeats 4000000 in
theorem part_seg3 (x SB LB DB B : Nat) (sa : Option Addr) (sc : Nat) (t7 : Value) (ls : Txts) (us : List Value) (hus : us.length = 30) (w : World) (hB : B <= w.heap.size) (hT : Texts w sa sc ls) (hk : KTab w) (hfew : ls.length <= 100001) (hsh : ∀ c ∈ ls, c.length <= 100000) :
  (partCode 3).wp Tryz.prog (fun e a' w' => e = .normal /\ a'.defers = [] /\ Part3 x SB LB DB B (ls.map partOf) a'.tmps w') ⟨PartS x SB LB DB (.slice sa ls.length sc) t7 (.slice none 0 0) us, []⟩ w := by
 have hfit := hT.fits
 have hroom := hT.room
 have HT := Lib.hid hT
 have HK := Lib.hid hk
 have HF := Lib.hid hfew
 have HS := Lib.hid hsh
 have HB := Lib.hid hB
 clear hT hk hfew hsh hB
 obtain ⟨a0, a1, a2, a3, a4, a5, a6, a7, a8, a9, a10, a11, a12, a13, a14, a15, a16, a17, a18, a19, a20, a21, a22, a23, a24, a25, a26, a27, a28, a29, rfl⟩ := list30 hus
 unfold partCode
 unfold PartS
 simp only [Tryz.f23, Option.getD_some, seqAt, List.replicate, List.cons_append, List.nil_append]
 go_wp2_with fail
 go_loopw [8, 22] (fun v i wr => PartLoop w ls v i wr) (fun _ i _ => ls.length - (intOf i).toNat)
 case atStart => exact ⟨0, Nat.zero_le _, rfl, ownsC_nil _ _ _, Below.refl _ _, fun _ => rfl⟩
 case round =>
  obtain ⟨k, hk, rfl, HO, hbr, hnil⟩ := hrel
  have HN := Lib.hid hnil
  clear hnil
  by_cases hlt : k < ls.length
  ·obtain ⟨b, off, rfl, hrows⟩ := (HT.out.keeps (Keeps.below hbr)).rows.resolve_left (fun e => by rw [e] at hlt; simp at hlt)
   obtain ⟨x, c, hcell, hreads⟩ := hrows k hlt
   have hsn : (ls.take (k + 1)).map partOf = (ls.take k).map partOf ++ [partOf (txt ls k)] := by
    rw [List.take_succ_eq_append_getElem hlt, List.map_append, txt_lt hlt]; rfl
   have hfl : ((ls.take k).map partOf).length <= 100000 := by rw [List.length_map, List.length_take]; have := HF.out; omega
   have hml : (txt ls k).length <= 1048576 := by rw [txt_lt hlt]; have := HS.out _ (List.getElem_mem hlt); omega
   have HFL := Lib.hid hfl
   have HSN := Lib.hid hsn
   have HO1 := Lib.hid HO
   have HBR := Lib.hid hbr
   have SS := ssum_any x c (txt ls k) wr hreads hml (HK.out.keeps (Keeps.below hbr)) fun h0 => reads_addr hreads h0
   clear hsn HO hbr hrows hfl hreads
   generalize txt ls k = m at *
   generalize (ls.take k).map partOf = FL at *
   go_wp2_with fail
   refine SS.mono ?_
   rintro e w4 ⟨rfl, hb4⟩
   have hkl := sum_length m
   have hlen : (keyC (Sha.sum m)).length = 32 := by unfold keyC; rw [List.length_map]; exact hkl
   have BP := built_part (keyC (Sha.sum m)) hlen m.length
   have hkc : keyC (Sha.sum m) = (Sha.sum m).map U8 := rfl
   have hpc : partC (partOf m) = keyC (Sha.sum m) ++ ([.int .i64 (m.length : Int)] : List Value) := rfl
   have hones := one_partC (partOf m)
   have hpl : (partC (partOf m)).length = 33 := partC_len hkl
   rw [hpc] at hones hpl
   rw [hkc] at BP hpc hones hpl
   have HPC := Lib.hid hpc
   have HON := Lib.hid hones
   have HPL := Lib.hid hpl
   have HB4 := Lib.hid hb4
   have HO4 := Lib.hid (HO1.out.below hb4)
   have HS4 := Lib.hid hb4.size
   clear hkc hlen hkl hpc hones hpl hb4 SS
   generalize (Sha.sum m).map U8 = C at *
   obtain ⟨D, hD⟩ : ∃ D, C ++ ([.int .i64 (m.length : Int)] : List Value) = D := ⟨_, rfl⟩
   rw [hD] at BP HPC HON HPL
   clear hD
   go_wp2_with (first
    |(with_reducible refine at_build 60 ?_; go_must (refine wpList_built' rfl 60 _ rfl D.toArray (by go_simp) ?_))
    |(with_reducible refine at_slit 35 ?_; go_must (refine wpList_lit_append Tryz.underlying35 part_info part_zsize (by decide) (by decide) rfl _ rfl rfl _ _ rfl w.heap.size _ FL HO4.out (partOf m) D HPC.out rfl rfl rfl HON.out HPL.out (by have := HFL.out; omega) (by decide) (Nat.le_trans HBR.out.size HS4.out) ?_)))
   intro v5 w5 HO5 T5 hv5
   have HBF := Lib.hid (touch_own (HBR.out.trans (HB4.out.mono HBR.out.size)) (Nat.le_refl _) HO4.out T5)
   have HOF := Lib.hid HO5
   clear T5 hv5 HO5
   go_wp2
   go_roundw
   case rel => exact ⟨k + 1, by omega, by go_num, by rw [HSN.out]; exact HOF.out, HBF.out, fun e => by omega⟩
   case measure => simp [intOf]; omega
  ·obtain rfl : k = ls.length := by omega
   rw [List.take_length] at HO
   have HO1 := Lib.hid HO
   clear HO hbr
   go_wp2_with fail
   exact ⟨_, _, _, [_, _, _, _, _, _, _, _, _, _, _, _, _, _, _, _, _, _, _, _, _, _, _, _, _, _, _, _, _, _], rfl, rfl, HO1.out.mono HB.out, fun e => HN.out (by simpa using e)⟩
theorem part_runs (h : CutMath.Sh) (g : h.Good) (x SB LB DB : Nat) (row : List (BitVec 8)) (w : World) (hin : PartIn h w x SB LB row) :
  runsOf Tryz.prog partCodes (Part3 x SB LB DB w.heap.size (partsOf h row)) (PartS x SB LB DB undef undef undef (List.replicate 30 undef)) w := by
 intro T d
 have kp : ∀ (v : World) (T : Tape) (d : Nat), Keeps v (re v T d) := fun v T d a u e => e
 refine Code.wp_mono ?_ (part_seg1 h g x SB LB DB row _ (hin.keeps (kp w T d)))
 rintro e a1 w1 ⟨e1, e2, sa, sc, t7, us, hus, e3, hT, hb⟩
 refine ⟨e1, e2, ?_⟩
 rw [e3]
 intro T1 d1
 refine part_seg2 x SB LB DB _ _ us hus _ _ ?_
 intro T2 d2
 have hs : w.heap.size <= (re w1 T2 d2).heap.size := hb.size
 have hk : KTab w1 := (hin.k.keeps (kp w T d)).keeps (Keeps.below hb)
 refine Code.wp_mono ?_ (part_seg3 x SB LB DB w.heap.size sa sc _ _ us hus _ hs (hT.keeps (kp w1 T2 d2)) (hk.keeps (kp w1 T2 d2)) (Nat.le_trans (split_few h row) (by have := hin.short; omega)) fun c hc => Nat.le_trans (split_short h row c hc) hin.short)
 rintro e a2 w2 ⟨q1, q2, q3⟩
 exact ⟨q1, q2, q3⟩
end Go.Proofs.YtbicafgmfgdckaaGreatDoor
