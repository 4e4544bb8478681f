/- The law's walk: CrewCuts. -/
import Derived.Test.YtbicafgmfgdckaaGreatDoorMgBm
namespace Go.Proofs.YtbicafgmfgdckaaGreatDoor
open Go Go.RowKit Go.Conc Go.Conc.Lib Go.ConcR.Gen
theorem ktab_stays {γ γ' : Gho} {w w' : World} (hs : γ.hs = w.heap.size) (hk : KTab w) (hkS : γ.bk 0 = .priv 0) (st : Stays γ w γ' w') : KTab w' /\ γ'.bk 0 = .priv 0 := by
 have hlt := World.block_lt_of_cell? w _ (hk 0 (by decide))
 dsimp only at hlt
 refine ⟨fun i hi => ?_, (st.bk _ (by omega)).trans hkS⟩
 have h := hk i hi
 rw [<- h]
 unfold World.cell?
 rw [st.heap _ (by show 0 < γ.hs; omega) hkS]
theorem list65 {l : List Value} (h : l.length = 65) : ∃ b0 b1 b2 b3 b4 b5 b6 b7 b8 b9 b10 b11 b12 b13 b14 b15 b16 b17 b18 b19 b20 b21 b22 b23 b24 b25 b26 b27 b28 b29 b30 b31 b32 b33 b34 b35 b36 b37 b38 b39 b40 b41 b42 b43 b44 b45 b46 b47 b48 b49 b50 b51 b52 b53 b54 b55 b56 b57 b58 b59 b60 b61 b62 b63 b64, l = b0 :: b1 :: b2 :: b3 :: b4 :: b5 :: b6 :: b7 :: b8 :: b9 :: b10 :: b11 :: b12 :: b13 :: b14 :: b15 :: b16 :: b17 :: b18 :: b19 :: b20 :: b21 :: b22 :: b23 :: b24 :: b25 :: b26 :: b27 :: b28 :: b29 :: b30 :: b31 :: b32 :: b33 :: b34 :: b35 :: b36 :: b37 :: b38 :: b39 :: b40 :: b41 :: b42 :: b43 :: b44 :: b45 :: b46 :: b47 :: b48 :: b49 :: b50 :: b51 :: b52 :: b53 :: b54 :: b55 :: b56 :: b57 :: b58 :: b59 :: b60 :: b61 :: b62 :: b63 :: b64 :: [] := by
 match l, h with
 | b0 :: b1 :: b2 :: b3 :: b4 :: b5 :: b6 :: b7 :: b8 :: b9 :: b10 :: b11 :: b12 :: b13 :: b14 :: b15 :: b16 :: b17 :: b18 :: b19 :: b20 :: b21 :: b22 :: b23 :: b24 :: b25 :: b26 :: b27 :: b28 :: b29 :: b30 :: b31 :: b32 :: b33 :: b34 :: b35 :: b36 :: b37 :: b38 :: b39 :: b40 :: b41 :: b42 :: b43 :: b44 :: b45 :: b46 :: b47 :: b48 :: b49 :: b50 :: b51 :: b52 :: b53 :: b54 :: b55 :: b56 :: b57 :: b58 :: b59 :: b60 :: b61 :: b62 :: b63 :: b64 :: [], _ => exact ⟨b0, b1, b2, b3, b4, b5, b6, b7, b8, b9, b10, b11, b12, b13, b14, b15, b16, b17, b18, b19, b20, b21, b22, b23, b24, b25, b26, b27, b28, b29, b30, b31, b32, b33, b34, b35, b36, b37, b38, b39, b40, b41, b42, b43, b44, b45, b46, b47, b48, b49, b50, b51, b52, b53, b54, b55, b56, b57, b58, b59, b60, b61, b62, b63, b64, rfl⟩
section
variable {top : Nat} {γ γ' γ2 : Gho} {w w' w2 w1 : World} {Post : Value -> World -> Prop} {n : Nat} {la : Option Addr} {lc : Nat}
theorem Fact.stays {b : Nat} {o : Obj} (f : Fact 0 γ w b (.priv 0) o) (st : Stays γ w γ' w') : Fact 0 γ' w' b (.priv 0) o := ⟨Nat.lt_of_lt_of_le f.lt st.hs, (st.bk _ f.lt).trans f.bk, (st.heap _ f.lt f.bk).trans f.heap⟩
theorem UserTexts.stays {a : Option Addr} {cap : Nat} {ls : Txts} (h : UserTexts γ w a cap ls) (k : Stays γ w γ' w') : UserTexts γ' w' a cap ls := by
 refine ⟨⟨h.txts.fits, h.txts.room, ?_⟩, h.held.stays k, fun b off i x n c e hi hc => ?_⟩
 ·rcases h.txts.rows with e | ⟨b, off, e, hb⟩
  ·exact .inl e
  ·refine .inr ⟨b, off, e, fun i hi => ?_⟩
   obtain ⟨x, c, h1, h2⟩ := hb i hi
   refine ⟨x, c, (k.cell (ad := ⟨b, off + i, none⟩) (h.held _ e).2).trans h1, ?_⟩
   rcases h.rows b off i x _ c e hi h1 with hx | ⟨h0, hc0⟩
   ·exact hx.reads k h2
   ·exact ⟨h2.fits, h2.room, h2.null, .inl (List.eq_nil_of_length_eq_zero h0)⟩
 ·rw [k.cell (ad := ⟨b, off + i, none⟩) (h.held _ e).2] at hc
  exact (h.rows b off i x n c e hi hc).imp (fun q => q.stays k) id
theorem PartsMade.lone {h : CutMath.Sh} {rows : Txts} {out : Nat} {Tp : Tape} {d : Nat} (q : PartsMade γ w h rows out) : PartRows (LW γ w Tp d) h rows out := fun x hx => by
 obtain ⟨cells, f, hsz, hc⟩ := q
 obtain ⟨v, hv, row, ob, hrow, hpa, hf⟩ := hc x hx
 have et : txt rows x = row := by unfold txt; rw [List.getD_eq_getElem?_getD, hrow]; rfl
 rw [et]
 have hcell : w.cell? ⟨out, x, none⟩ = some v := by simp [World.cell?, f.heap, hv]
 rcases hpa with ⟨h0, rfl, _⟩ | ⟨B, cap, cs, rfl, h1, h2, h3, e⟩
 ·refine ⟨none, 0, by rw [h0]; exact lw_cell hcell (.snil _ _), by rw [h0]; exact rowsC_nil⟩
 ·have fB := hf B _ e
  have hT : ownT γ w B := ⟨⟨fB.lt, fB.bk⟩, _, _, _, fB.heap⟩
  refine ⟨_, cap, lw_cell hcell (.slice _ _ ⟨⟨rfl, hT⟩, rfl, rfl⟩), h1, by unfold maxLen at h2; omega, .inr ⟨B, 0, rfl, fun i hi j u hu => ?_⟩⟩
  obtain ⟨kd, n, rfl⟩ := partC_ints _ u (List.mem_of_getElem? hu)
  refine lw_int ?_
  have hfl := h3 _ _ (flatC_at (enc := partC) (K := 33) _ i j _ hi (fun y hy => partC_len (partsOf_len h row y hy)) hu)
  rw [Nat.zero_add]
  simp [World.cell?, fB.heap, hfl]
theorem PartsMade.stays {h : CutMath.Sh} {rows : Txts} {out : Nat} (q : PartsMade γ w h rows out) (st : Stays γ w γ' w') : PartsMade γ' w' h rows out := by
 obtain ⟨cells, f, hsz, hc⟩ := q
 refine ⟨cells, f.stays st, hsz, fun x hx => ?_⟩
 obtain ⟨v, hv, row, ob, h1, h2, h3⟩ := hc x hx
 exact ⟨v, hv, row, ob, h1, h2, fun B o e => (h3 B o e).stays st⟩
set_option maxRecDepth 100000 in
set_option maxHeartbeats 16000000 in
theorem lives_law {L M K Wn m : Int} {sd : BitVec 32} {ls : Txts} (s0 : Solo γ w) (hgl : Tryz.prog.globals.size <= γ.hs) (hcnt : γ.cnt + 48 <= top) (hk : KTab w) (hkS : γ.bk 0 = .priv 0) (hu : UserTexts γ w la lc ls)
  (hP : ∀ γ' w', Solo γ' w' -> Stays γ w γ' w' -> w'.tape = w.tape -> Post (.bool true) w') :
  LV Tryz.prog wgLink.tWg top Post 0 γ w (G ((base 3).at ⟨#[shapeV L M K Wn sd, .slice la ls.length lc, .int .i64 m] ++ Array.replicate 62 undef, []⟩ [.code (Tryz.f3.body.getD .skip)]) []) := by
 have hg : γ.tag 0 ≠ .gone := s0.ng
 unfold shapeV
 simp only [Tryz.f3, Option.getD_some]
 walk_nrm
 refine lives_ctl rfl hg (fun _ => stepG_seq) ?_
 refine lives_ctl rfl hg (fun _ => stepG_region) ?_
 simp only [List.size_toArray, List.length_cons, List.length_nil, Nat.reduceAdd, Nat.zero_add, List.range, List.range.loop]
 refine solo_goes s0 rfl fun wV eV eT => ?_
 refine goes_oper_k rfl rfl (by k_ne) (fun W hW => ?_)
 go_simp
 refine hW _ _ ⟨own_push (w := wV) rfl rfl rfl rfl (no_listed (by simp [go_sem])), fun γ1 w1 h1 t1 s1 l1 b1 => ?_⟩
 replace h1 : w1.heap = (w.heap).push (Obj.cells #[Value.int .i64 L, Value.int .i64 M, Value.int .i64 K, Value.int .i64 Wn, U32 sd] 24) := by rw [h1]; show wV.heap.push _ = _; rw [eV]; try rfl
 replace t1 : w1.tape = w.tape := t1.trans eT
 replace b1 : γ1.bk (w.heap.size) = .priv 0 := b1 _ (by rw [s0.hs]; simp [Nat.add_assoc]) (by show _ < (wV.heap.push _).size; rw [eV]; simp [Nat.add_assoc])
 clear hW
 clear W eV eT
 clear wV
 have hg : γ1.tag 0 ≠ .gone := s1.ng
 try walk_nrm
 refine lives_pure rfl hg (fun wV => ?_)
 refine goes_oper_k rfl rfl (by k_ne) (fun W hW => ?_)
 go_simp
 refine hW _ _ ⟨⟨rfl, no_listed (by simp [go_sem])⟩, ?_⟩
 clear hW
 clear W wV
 try walk_nrm
 refine lives_ctl rfl hg (fun _ => stepG_region_end) ?_
 refine lives_ctl rfl hg (fun _ => stepG_seq) ?_
 refine lives_ctl rfl hg (fun _ => stepG_region) ?_
 simp only [List.size_toArray, List.length_cons, List.length_nil, Nat.reduceAdd, Nat.zero_add, List.range, List.range.loop]
 refine lives_pure rfl hg (fun wV => ?_)
 refine goes_oper_k rfl rfl (by k_ne) (fun W hW => ?_)
 go_simp
 refine hW _ _ ⟨⟨rfl, no_listed (by simp [go_sem])⟩, ?_⟩
 clear hW
 clear W wV
 try walk_nrm
 have hN := s0.hs
 have fS1 : Fact 0 γ1 w1 w.heap.size (.priv 0) (Obj.cells #[Value.int .i64 L, Value.int .i64 M, Value.int .i64 K, Value.int .i64 Wn, U32 sd] 24) := ⟨by rw [s1.hs, h1]; simp, b1, by rw [h1, Array.getElem?_push]; simp⟩
 have st1 : Stays γ w γ1 w1 := .of l1 fun b hb => by rw [h1, Array.getElem?_push, if_neg (by omega)]
 have tp1 := t1
 have hgl1 : Tryz.prog.globals.size <= γ1.hs := Nat.le_trans hgl st1.hs
 have cn1 := l1.cnt
 have hu1 := hu.stays st1
 generalize w.heap.size = SB at fS1 b1 ⊢
 clear h1 b1 hN
 refine lives_ctl rfl hg (fun _ => stepG_callE rfl rfl (by k_ne) rfl (vs := #[.slice la ls.length lc]) (by simp [Act.eval, shapeV]) Tryz.func5 (by kernel_rfl) (by kernel_rfl)) ?_
 refine lives_few s1 hgl1 hu1 (fun γ2 w2 x cx A2 hT2 => ?_)
 have s2 := A2.solo
 have st2 := st1.trans A2.stays
 have tp2 := A2.tape.trans tp1
 have hgl2 : Tryz.prog.globals.size <= γ2.hs := Nat.le_trans hgl st2.hs
 have fS2 := fS1.stays A2.stays
 have cn2 := A2.later.cnt
 have hl : ∀ r ∈ fewOf ls, r.length <= 100 := fewOf_short ls
 have hn : (fewOf ls).length <= 12 := fewOf_length ls
 obtain ⟨hk2, hkS2⟩ := ktab_stays s0.hs hk hkS st2
 have hheld := hu.held.stays st2
 generalize fewOf ls = rows at *
 rw [Frame.finish_at]
 clear hg
 have hg : γ2.tag 0 ≠ .gone := s2.ng
 walk_nrm
 refine lives_pure rfl hg (fun wV => ?_)
 refine goes_oper_k rfl rfl (by k_ne) (fun W hW => ?_)
 go_simp
 refine hW _ _ ⟨⟨rfl, no_listed (by simp [go_sem])⟩, ?_⟩
 clear hW
 clear W wV
 try walk_nrm
 refine lives_ctl rfl hg (fun _ => stepG_region_end) ?_
 refine lives_ctl rfl hg (fun _ => stepG_seq) ?_
 refine lives_ctl rfl hg (fun _ => stepG_region) ?_
 simp only [List.size_toArray, List.length_cons, List.length_nil, Nat.reduceAdd, Nat.zero_add, List.range, List.range.loop]
 refine lives_read rfl s2.ns (fun γV wV hrl hIV => ?_)
 have hcell0 : wV.cell? ⟨SB, 0, none⟩ = some (.int .i64 L) := by rw [World.cell?, (s2.rel hrl).2.1]; simp [fS2.heap]
 have hcell1 : wV.cell? ⟨SB, 1, none⟩ = some (.int .i64 M) := by rw [World.cell?, (s2.rel hrl).2.1]; simp [fS2.heap]
 have hcell2 : wV.cell? ⟨SB, 2, none⟩ = some (.int .i64 K) := by rw [World.cell?, (s2.rel hrl).2.1]; simp [fS2.heap]
 have hcell3 : wV.cell? ⟨SB, 3, none⟩ = some (.int .i64 Wn) := by rw [World.cell?, (s2.rel hrl).2.1]; simp [fS2.heap]
 have hcell4 : wV.cell? ⟨SB, 4, none⟩ = some (U32 sd) := by rw [World.cell?, (s2.rel hrl).2.1]; simp [fS2.heap]
 refine goes_oper_k rfl rfl (by k_ne) (fun W hW => ?_)
 go_simp
 refine hW _ _ ⟨⟨rfl, fun e he => ?_⟩, ?_⟩
 ·have hm := mem_listed he
  simp [go_sem, hcell0, hcell1, hcell2, hcell3, hcell4] at hm
  rcases hm with rfl | rfl | rfl | rfl | rfl <;> exact .inl ⟨_, rfl, rfl, .inl (by rw [hrl.S s2.ng]; exact ⟨fS2.lt, fS2.bk⟩)⟩
 clear hW hcell0 hcell1 hcell2 hcell3 hcell4
 clear W
 clear hrl hIV
 clear γV wV
 try walk_nrm
 refine lives_pure rfl hg (fun wV => ?_)
 refine goes_oper_k rfl rfl (by k_ne) (fun W hW => ?_)
 go_simp
 refine hW _ _ ⟨⟨rfl, no_listed (by simp [go_sem])⟩, ?_⟩
 clear hW
 clear W wV
 try walk_nrm
 refine lives_pure rfl hg (fun wV => ?_)
 refine goes_oper_k rfl rfl (by k_ne) (fun W hW => ?_)
 go_simp
 refine hW _ _ ⟨⟨rfl, no_listed (by simp [go_sem])⟩, ?_⟩
 clear hW
 clear W wV
 try walk_nrm
 refine lives_ctl rfl hg (fun _ => stepG_callv (first := #[]) (caps := #[]) (vs := #[.agg #[.int .i64 L, .int .i64 M, .int .i64 K, .int .i64 Wn, U32 sd], .slice x rows.length cx, .int .i64 m]) rfl rfl (by k_ne) rfl rfl (by simp [Act.eval, shapeV]) Tryz.func6 (by kernel_rfl) rfl) ?_
 refine lives_parts (n := rows.length) (rows := rows) s2 (by omega) (hT2.mem s2.hs rfl (fun r hr => by have := hl r hr; omega) hk2 hkS2) (fun r hr => by have := hl r hr; omega) hgl2 (by omega) (fun h W0 hG e1 e2 e3 e4 e5 e6 q1 q16 γ3 w3 out s3 st23 cn3 tp23 hmade => ?_) (fun hbad γ3 w3 s3 st23 cn3 tp23 => ?_)
 ·have st3 := st2.trans st23
  have tp3 := tp23.trans tp2
  have hgl3 : Tryz.prog.globals.size <= γ3.hs := Nat.le_trans hgl st3.hs
  have fS3 := fS2.stays st23
  have hm1 : (decide (1 <= m) && decide (m <= 16)) = true := by simp [show 1 <= m by omega, show m <= 16 by omega]
  have hgd : goodB L M K Wn = true := good_iff.2 (by have := hG.w1; have := hG.w63; have := hG.wl; have := hG.lm; have := hG.m; have := hG.k; omega)
  have HE := Lib.hid (show L = h.L /\ M = h.M /\ K = h.K /\ Wn = h.W /\ sd = h.s from ⟨e1, e2, e3, e4, e5⟩)
  clear e1 e2 e3 e4 e5 e6
  rw [Frame.finish_at]
  clear hg
  have hg : γ3.tag 0 ≠ .gone := s3.ng
  walk_nrm
  refine lives_pure rfl hg (fun wV => ?_)
  refine goes_oper_k rfl rfl (by k_ne) (fun W hW => ?_)
  go_simp
  refine hW _ _ ⟨⟨rfl, no_listed (by simp [go_sem])⟩, ?_⟩
  clear hW
  clear W wV
  try walk_nrm
  refine lives_pure rfl hg (fun wV => ?_)
  refine goes_oper_k rfl rfl (by k_ne) (fun W hW => ?_)
  go_simp
  refine hW _ _ ⟨⟨rfl, no_listed (by simp [go_sem])⟩, ?_⟩
  clear hW
  clear W wV
  try walk_nrm
  refine lives_pure rfl hg (fun wV => ?_)
  refine goes_oper_k rfl rfl (by k_ne) (fun W hW => ?_)
  go_simp
  refine hW _ _ ⟨⟨rfl, no_listed (by simp [go_sem])⟩, ?_⟩
  clear hW
  clear W wV
  try walk_nrm
  refine lives_pure rfl hg (fun wV => ?_)
  refine goes_oper_k rfl rfl (by k_ne) (fun W hW => ?_)
  go_simp
  refine hW _ _ ⟨⟨rfl, no_listed (by simp [go_sem])⟩, ?_⟩
  clear hW
  clear W wV
  try walk_nrm
  refine lives_pure rfl hg (fun wV => ?_)
  refine goes_oper_k rfl rfl (by k_ne) (fun W hW => ?_)
  go_simp
  refine hW _ _ ⟨⟨rfl, no_listed (by simp [go_sem])⟩, ?_⟩
  clear hW
  clear W wV
  try walk_nrm
  refine lives_ctl rfl hg (fun _ => stepG_region_end) ?_
  refine lives_ctl rfl hg (fun _ => stepG_seq) ?_
  refine lives_ctl rfl hg (fun _ => stepG_seq) ?_
  refine lives_ctl rfl hg (fun _ => stepG_region) ?_
  simp only [List.size_toArray, List.length_cons, List.length_nil, Nat.reduceAdd, Nat.zero_add, List.range, List.range.loop]
  refine lives_pure rfl hg (fun wV => ?_)
  refine goes_oper_k rfl rfl (by k_ne) (fun W hW => ?_)
  go_simp
  refine hW _ _ ⟨⟨rfl, no_listed (by simp [go_sem])⟩, ?_⟩
  clear hW
  clear W wV
  try walk_nrm
  refine lives_ctl rfl hg (fun _ => stepG_callE rfl rfl (by k_ne) rfl (vs := #[.int .i64 m]) (by simp [Act.eval, shapeV]) Tryz.func7 (by kernel_rfl) (by kernel_rfl)) ?_
  refine lives_refRight s3 hgl3 (fun γ4 w4 A4 => ?_)
  rw [hm1]
  have s4 := A4.solo
  have st4 := st3.trans A4.stays
  have tp4 := A4.tape.trans tp3
  have hgl4 : Tryz.prog.globals.size <= γ4.hs := Nat.le_trans hgl st4.hs
  have fS4 := fS3.stays A4.stays
  rw [Frame.finish_at]
  clear hg
  have hg : γ4.tag 0 ≠ .gone := s4.ng
  walk_nrm
  refine lives_pure rfl hg (fun wV => ?_)
  refine goes_oper_k rfl rfl (by k_ne) (fun W hW => ?_)
  go_simp
  refine hW _ _ ⟨⟨rfl, no_listed (by simp [go_sem])⟩, ?_⟩
  clear hW
  clear W wV
  try walk_nrm
  refine lives_pure rfl hg (fun wV => ?_)
  refine goes_oper_k rfl rfl (by k_ne) (fun W hW => ?_)
  go_simp
  refine hW _ _ ⟨⟨rfl, no_listed (by simp [go_sem])⟩, ?_⟩
  clear hW
  clear W wV
  try walk_nrm
  refine lives_read rfl s4.ns (fun γV wV hrl hIV => ?_)
  have hcell0 : wV.cell? ⟨SB, 0, none⟩ = some (.int .i64 L) := by rw [World.cell?, (s4.rel hrl).2.1]; simp [fS4.heap]
  have hcell1 : wV.cell? ⟨SB, 1, none⟩ = some (.int .i64 M) := by rw [World.cell?, (s4.rel hrl).2.1]; simp [fS4.heap]
  have hcell2 : wV.cell? ⟨SB, 2, none⟩ = some (.int .i64 K) := by rw [World.cell?, (s4.rel hrl).2.1]; simp [fS4.heap]
  have hcell3 : wV.cell? ⟨SB, 3, none⟩ = some (.int .i64 Wn) := by rw [World.cell?, (s4.rel hrl).2.1]; simp [fS4.heap]
  have hcell4 : wV.cell? ⟨SB, 4, none⟩ = some (U32 sd) := by rw [World.cell?, (s4.rel hrl).2.1]; simp [fS4.heap]
  refine goes_oper_k rfl rfl (by k_ne) (fun W hW => ?_)
  go_simp
  refine hW _ _ ⟨⟨rfl, fun e he => ?_⟩, ?_⟩
  ·have hm := mem_listed he
   simp [go_sem, hcell0, hcell1, hcell2, hcell3, hcell4] at hm
   rcases hm with rfl | rfl | rfl | rfl | rfl <;> exact .inl ⟨_, rfl, rfl, .inl (by rw [hrl.S s4.ng]; exact ⟨fS4.lt, fS4.bk⟩)⟩
  clear hW hcell0 hcell1 hcell2 hcell3 hcell4
  clear W
  clear hrl hIV
  clear γV wV
  try walk_nrm
  refine lives_ctl rfl hg (fun _ => stepG_callE rfl rfl (by k_ne) rfl (vs := #[shapeV L M K Wn sd]) (by simp [Act.eval, shapeV]) Tryz.func8 (by kernel_rfl) (by kernel_rfl)) ?_
  refine lives_refCheck s4 hgl4 (fun γ5 w5 A5 => ?_)
  rw [hgd]
  have s5 := A5.solo
  have st5 := st4.trans A5.stays
  have tp5 := A5.tape.trans tp4
  have hgl5 : Tryz.prog.globals.size <= γ5.hs := Nat.le_trans hgl st5.hs
  have fS5 := fS4.stays A5.stays
  rw [Frame.finish_at]
  clear hg
  have hg : γ5.tag 0 ≠ .gone := s5.ng
  walk_nrm
  have hnn : ((rows.length : Int) != (rows.length : Int)) = false := by simp
  refine lives_pure rfl hg (fun wV => ?_)
  refine goes_oper_k rfl rfl (by k_ne) (fun W hW => ?_)
  go_simp
  refine hW _ _ ⟨⟨rfl, no_listed (by simp [go_sem])⟩, ?_⟩
  clear hW
  clear W wV
  try walk_nrm
  refine lives_pure rfl hg (fun wV => ?_)
  refine goes_oper_k rfl rfl (by k_ne) (fun W hW => ?_)
  go_simp
  refine hW _ _ ⟨⟨rfl, no_listed (by simp [go_sem])⟩, ?_⟩
  clear hW
  clear W wV
  try walk_nrm
  refine lives_ctl rfl hg (fun _ => stepG_region_end) ?_
  refine lives_ctl rfl hg (fun _ => stepG_cond (t := false) rfl) ?_
  simp only [if_true, if_false, Bool.false_eq_true, ↓reduceIte]
  refine lives_ctl rfl hg (fun _ => stepG_skip) ?_
  refine lives_ctl rfl hg (fun _ => stepG_seq) ?_
  refine lives_ctl rfl hg (fun _ => stepG_seq) ?_
  refine lives_ctl rfl hg (fun _ => stepG_region) ?_
  simp only [List.size_toArray, List.length_cons, List.length_nil, Nat.reduceAdd, Nat.zero_add, List.range, List.range.loop]
  refine lives_pure rfl hg (fun wV => ?_)
  refine goes_oper_k rfl rfl (by k_ne) (fun W hW => ?_)
  go_simp
  refine hW _ _ ⟨⟨rfl, no_listed (by simp [go_sem])⟩, ?_⟩
  clear hW
  clear W wV
  try walk_nrm
  refine lives_pure rfl hg (fun wV => ?_)
  refine goes_oper_k rfl rfl (by k_ne) (fun W hW => ?_)
  go_simp
  refine hW _ _ ⟨⟨rfl, no_listed (by simp [go_sem])⟩, ?_⟩
  clear hW
  clear W wV
  try walk_nrm
  refine lives_pure rfl hg (fun wV => ?_)
  refine goes_oper_k rfl rfl (by k_ne) (fun W hW => ?_)
  go_simp
  refine hW _ _ ⟨⟨rfl, no_listed (by simp [go_sem])⟩, ?_⟩
  clear hW
  clear W wV
  try walk_nrm
  refine lives_pure rfl hg (fun wV => ?_)
  refine goes_oper_k rfl rfl (by k_ne) (fun W hW => ?_)
  go_simp
  refine hW _ _ ⟨⟨rfl, no_listed (by simp [go_sem])⟩, ?_⟩
  clear hW
  clear W wV
  try walk_nrm
  refine lives_pure rfl hg (fun wV => ?_)
  refine goes_oper_k rfl rfl (by k_ne) (fun W hW => ?_)
  go_simp
  refine hW _ _ ⟨⟨rfl, no_listed (by simp [go_sem])⟩, ?_⟩
  clear hW
  clear W wV
  try walk_nrm
  refine lives_pure rfl hg (fun wV => ?_)
  refine goes_oper_k rfl rfl (by k_ne) (fun W hW => ?_)
  go_simp
  refine hW _ _ ⟨⟨rfl, no_listed (by simp [go_sem])⟩, ?_⟩
  clear hW
  clear W wV
  try walk_nrm
  refine lives_pure rfl hg (fun wV => ?_)
  refine goes_oper_k rfl rfl (by k_ne) (fun W hW => ?_)
  go_simp
  refine hW _ _ ⟨⟨rfl, no_listed (by simp [go_sem])⟩, ?_⟩
  clear hW
  clear W wV
  try walk_nrm
  refine lives_pure rfl hg (fun wV => ?_)
  refine goes_oper_k rfl rfl (by k_ne) (fun W hW => ?_)
  go_simp
  refine hW _ _ ⟨⟨rfl, no_listed (by simp [go_sem])⟩, ?_⟩
  clear hW
  clear W wV
  try walk_nrm
  refine lives_pure rfl hg (fun wV => ?_)
  refine goes_oper_k rfl rfl (by k_ne) (fun W hW => ?_)
  go_simp
  refine hW _ _ ⟨⟨rfl, no_listed (by simp [go_sem])⟩, ?_⟩
  clear hW
  clear W wV
  try walk_nrm
  refine lives_ctl rfl hg (fun _ => stepG_region_end) ?_
  refine lives_ctl rfl hg (fun _ => stepG_cond (t := false) rfl) ?_
  simp only [if_true, if_false, Bool.false_eq_true, ↓reduceIte]
  refine lives_ctl rfl hg (fun _ => stepG_skip) ?_
  refine lives_ctl rfl hg (fun _ => stepG_seq) ?_
  obtain ⟨rfl, rfl, rfl, rfl, rfl⟩ := HE.out
  have hT5 : TextsH γ5 w5 x cx rows := ((hT2.stays st23).stays A4.stays).stays A5.stays
  have hm5 : PartsMade γ5 w5 h rows out := (hmade.stays A4.stays).stays A5.stays
  have hla5 : Held γ5 w5 la := ((hheld.stays st23).stays A4.stays).stays A5.stays
  have hx5 := hT5.held
  have hSB : ownT γ5 w5 SB := ⟨⟨fS5.lt, fS5.bk⟩, _, _, _, fS5.heap⟩
  have hout : Held γ5 w5 (some ⟨out, 0, none⟩) := fun ad e => by
   injection e with e
   subst e
   obtain ⟨cells, f, _⟩ := hm5
   exact ⟨rfl, ⟨f.lt, f.bk⟩, _, _, _, f.heap⟩
  have ha : VsR (diag (ownT γ5 w5)) ((Value.agg #[.int .i64 h.L, .int .i64 h.M, .int .i64 h.K, .int .i64 h.W, U32 h.s]) :: (Value.slice x rows.length cx) :: (Value.int .i64 m) :: (Value.pointer (some ⟨SB, 0, none⟩)) :: (undef) :: (undef) :: (Value.bool false) :: (Value.slice (some ⟨out, 0, none⟩) rows.length rows.length) :: (Value.int .i64 0) :: (undef) :: (Value.slice la ls.length lc) :: (Value.slice x rows.length cx) :: (Value.tuple #[.slice (some ⟨out, 0, none⟩) rows.length rows.length, .int .i64 0]) :: (Value.agg #[.int .i64 h.L, .int .i64 h.M, .int .i64 h.K, .int .i64 h.W, U32 h.s]) :: (Value.slice x rows.length cx) :: (Value.int .i64 m) :: (Value.tuple #[.slice (some ⟨out, 0, none⟩) rows.length rows.length, .int .i64 0]) :: (Value.slice (some ⟨out, 0, none⟩) rows.length rows.length) :: (Value.int .i64 0) :: (Value.int .i64 m) :: (Value.bool true) :: (Value.bool false) :: (Value.bool false) :: (Value.agg #[.int .i64 h.L, .int .i64 h.M, .int .i64 h.K, .int .i64 h.W, U32 h.s]) :: (Value.bool true) :: (Value.bool false) :: (Value.bool false) :: (undef) :: (undef) :: (undef) :: (undef) :: (undef) :: (undef) :: (undef) :: (undef) :: (undef) :: (undef) :: (Value.int .i64 0) :: (Value.bool false) :: (Value.bool false) :: (Value.slice (some ⟨out, 0, none⟩) rows.length rows.length) :: (Value.int .i64 (rows.length : Int)) :: (Value.slice x rows.length cx) :: (Value.int .i64 (rows.length : Int)) :: (Value.bool false) :: (Value.bool false) :: (undef) :: (undef) :: (undef) :: (undef) :: (undef) :: (undef) :: (undef) :: (undef) :: (undef) :: (undef) :: (undef) :: (undef) :: (undef) :: (undef) :: (undef) :: (undef) :: (undef) :: (undef) :: (undef) :: ([] : List Value)).toArray ((Value.agg #[.int .i64 h.L, .int .i64 h.M, .int .i64 h.K, .int .i64 h.W, U32 h.s]) :: (Value.slice x rows.length cx) :: (Value.int .i64 m) :: (Value.pointer (some ⟨SB, 0, none⟩)) :: (undef) :: (undef) :: (Value.bool false) :: (Value.slice (some ⟨out, 0, none⟩) rows.length rows.length) :: (Value.int .i64 0) :: (undef) :: (Value.slice la ls.length lc) :: (Value.slice x rows.length cx) :: (Value.tuple #[.slice (some ⟨out, 0, none⟩) rows.length rows.length, .int .i64 0]) :: (Value.agg #[.int .i64 h.L, .int .i64 h.M, .int .i64 h.K, .int .i64 h.W, U32 h.s]) :: (Value.slice x rows.length cx) :: (Value.int .i64 m) :: (Value.tuple #[.slice (some ⟨out, 0, none⟩) rows.length rows.length, .int .i64 0]) :: (Value.slice (some ⟨out, 0, none⟩) rows.length rows.length) :: (Value.int .i64 0) :: (Value.int .i64 m) :: (Value.bool true) :: (Value.bool false) :: (Value.bool false) :: (Value.agg #[.int .i64 h.L, .int .i64 h.M, .int .i64 h.K, .int .i64 h.W, U32 h.s]) :: (Value.bool true) :: (Value.bool false) :: (Value.bool false) :: (undef) :: (undef) :: (undef) :: (undef) :: (undef) :: (undef) :: (undef) :: (undef) :: (undef) :: (undef) :: (Value.int .i64 0) :: (Value.bool false) :: (Value.bool false) :: (Value.slice (some ⟨out, 0, none⟩) rows.length rows.length) :: (Value.int .i64 (rows.length : Int)) :: (Value.slice x rows.length cx) :: (Value.int .i64 (rows.length : Int)) :: (Value.bool false) :: (Value.bool false) :: (undef) :: (undef) :: (undef) :: (undef) :: (undef) :: (undef) :: (undef) :: (undef) :: (undef) :: (undef) :: (undef) :: (undef) :: (undef) :: (undef) :: (undef) :: (undef) :: (undef) :: (undef) :: (undef) :: ([] : List Value)).toArray := by
   repeat (refine vs_cons (by first | exact .int _ _ | exact .bool _ | exact vr_undef | exact hx5.vr | exact hla5.vr | exact hout.vr | exact .ptr ⟨⟨rfl, hSB⟩, rfl, rfl⟩ | exact vr_shape _ _ _ _ _ | exact .tuple rfl (vs_cons hout.vr (vs_cons (.int _ _) vs_nil)).at_) ?_)
   exact vs_nil
  have sc : ∀ {o : Nat} {kd : IntKind} {z : Int} {Tp : Tape} {d : Nat}, (#[Value.int .i64 h.L, Value.int .i64 h.M, Value.int .i64 h.K, Value.int .i64 h.W, U32 h.s])[o]? = some (.int kd z) -> (LW γ5 w5 Tp d).cell? ⟨SB, o, none⟩ = some (.int kd z) := fun q => lw_int (by simp [World.cell?, fS5.heap, q])
  have cn3' : γ3.cnt <= γ.cnt + 17 := by omega
  have cn5 : γ5.cnt <= γ.cnt + 17 := by have := A4.later.cnt; have := A5.later.cnt; omega
  refine lives_seg0 okRef (f := 3) Tryz.func3 (by kernel_rfl) (code := cutsLoop) (k := [.code cutsTail]) (by kernel_rfl) rfl rfl s5 hgl5 (ownT γ5 w5) (fun b hb => ⟨hb.1, hb.2⟩) ha (fun g hg => by cases hg) (fun ts _ => ts.size = 65) (fun Tp d => cuts_loop hG _ rfl hT5.lone (fun r hr => by have := hl r hr; omega) hm5.lone (sc rfl) (sc rfl) (sc rfl) (sc rfl) (sc rfl) (by omega)) (fun γ6 w6 ts ts' ρ w1 s6 l6 new6 hold6 tp65 hsz hvs _ _ => ?_)
  have st6 := st5.trans (.of l6 hold6)
  have tp6 := tp65.trans tp5
  have hgl6 : Tryz.prog.globals.size <= γ6.hs := Nat.le_trans hgl st6.hs
  obtain ⟨tl⟩ := ts'
  obtain ⟨b0, b1, b2, b3, b4, b5, b6, b7, b8, b9, b10, b11, b12, b13, b14, b15, b16, b17, b18, b19, b20, b21, b22, b23, b24, b25, b26, b27, b28, b29, b30, b31, b32, b33, b34, b35, b36, b37, b38, b39, b40, b41, b42, b43, b44, b45, b46, b47, b48, b49, b50, b51, b52, b53, b54, b55, b56, b57, b58, b59, b60, b61, b62, b63, b64, rfl⟩ := list65 (l := tl) (by have := hvs.size; simpa [hsz] using this.symm)
  clear hg
  have hg : γ6.tag 0 ≠ .gone := s6.ng
  obtain ⟨hk6, hkS6⟩ := ktab_stays s0.hs hk hkS st6
  simp only [cutsTail, Tryz.f3, Option.getD_some]
  refine lives_ctl rfl hg (fun _ => stepG_seq) ?_
  refine lives_ctl rfl hg (fun _ => stepG_region) ?_
  simp only [List.size_toArray, List.length_cons, List.length_nil, Nat.reduceAdd, Nat.zero_add, List.range, List.range.loop]
  refine lives_ctl rfl hg (fun _ => stepG_callv (first := #[]) (caps := #[]) (vs := #[]) rfl rfl (by k_ne) rfl rfl (by simp [Act.eval, shapeV]) Tryz.func9 (by kernel_rfl) rfl) ?_
  refine lives_lives s6 hgl6 (by have := l6.cnt; omega) hk6 hkS6 (fun γ7 w7 A7 => ?_)
  have s7 := A7.solo
  have st7 := st6.trans A7.stays
  have tp7 := A7.tape.trans tp6
  rw [Frame.finish_at]
  clear hg
  have hg : γ7.tag 0 ≠ .gone := s7.ng
  walk_nrm
  refine lives_pure rfl hg (fun wV => ?_)
  refine goes_oper_k rfl rfl (by k_ne) (fun W hW => ?_)
  go_simp
  refine hW _ _ ⟨⟨rfl, no_listed (by simp [go_sem])⟩, ?_⟩
  clear hW
  clear W wV
  try walk_nrm
  refine lives_ctl rfl hg (fun _ => stepG_region_end) ?_
  refine lives_ctl rfl hg (fun _ => stepG_ret') ?_
  refine lives_stop s7 rfl (fun _ => stepG_finish (v := .bool true) rfl rfl Tryz.func3 (by kernel_rfl) (by kernel_rfl) (by kernel_rfl)) (fun w9 e1' e2' => ?_)
  exact hP _ _ ⟨s7.ph, s7.col, s7.tag, s7.deaf, by rw [e1']; exact s7.hs, s7.bk⟩ ⟨st7.hs, st7.bk, fun b hb hp => by rw [e1']; exact st7.heap b hb hp⟩ (by rw [e2']; exact tp7)
 ·have st3 := st2.trans st23
  have tp3 := tp23.trans tp2
  have hgl3 : Tryz.prog.globals.size <= γ3.hs := Nat.le_trans hgl st3.hs
  have fS3 := fS2.stays st23
  rw [Frame.finish_at]
  clear hg
  have hg : γ3.tag 0 ≠ .gone := s3.ng
  walk_nrm
  refine lives_pure rfl hg (fun wV => ?_)
  refine goes_oper_k rfl rfl (by k_ne) (fun W hW => ?_)
  go_simp
  refine hW _ _ ⟨⟨rfl, no_listed (by simp [go_sem])⟩, ?_⟩
  clear hW
  clear W wV
  try walk_nrm
  refine lives_pure rfl hg (fun wV => ?_)
  refine goes_oper_k rfl rfl (by k_ne) (fun W hW => ?_)
  go_simp
  refine hW _ _ ⟨⟨rfl, no_listed (by simp [go_sem])⟩, ?_⟩
  clear hW
  clear W wV
  try walk_nrm
  refine lives_pure rfl hg (fun wV => ?_)
  refine goes_oper_k rfl rfl (by k_ne) (fun W hW => ?_)
  go_simp
  refine hW _ _ ⟨⟨rfl, no_listed (by simp [go_sem])⟩, ?_⟩
  clear hW
  clear W wV
  try walk_nrm
  refine lives_pure rfl hg (fun wV => ?_)
  refine goes_oper_k rfl rfl (by k_ne) (fun W hW => ?_)
  go_simp
  refine hW _ _ ⟨⟨rfl, no_listed (by simp [go_sem])⟩, ?_⟩
  clear hW
  clear W wV
  try walk_nrm
  refine lives_pure rfl hg (fun wV => ?_)
  refine goes_oper_k rfl rfl (by k_ne) (fun W hW => ?_)
  go_simp
  refine hW _ _ ⟨⟨rfl, no_listed (by simp [go_sem])⟩, ?_⟩
  clear hW
  clear W wV
  try walk_nrm
  refine lives_ctl rfl hg (fun _ => stepG_region_end) ?_
  refine lives_ctl rfl hg (fun _ => stepG_seq) ?_
  refine lives_ctl rfl hg (fun _ => stepG_seq) ?_
  refine lives_ctl rfl hg (fun _ => stepG_region) ?_
  simp only [List.size_toArray, List.length_cons, List.length_nil, Nat.reduceAdd, Nat.zero_add, List.range, List.range.loop]
  refine lives_pure rfl hg (fun wV => ?_)
  refine goes_oper_k rfl rfl (by k_ne) (fun W hW => ?_)
  go_simp
  refine hW _ _ ⟨⟨rfl, no_listed (by simp [go_sem])⟩, ?_⟩
  clear hW
  clear W wV
  try walk_nrm
  refine lives_ctl rfl hg (fun _ => stepG_callE rfl rfl (by k_ne) rfl (vs := #[.int .i64 m]) (by simp [Act.eval, shapeV]) Tryz.func7 (by kernel_rfl) (by kernel_rfl)) ?_
  refine lives_refRight s3 hgl3 (fun γ4 w4 A4 => ?_)
  have s4 := A4.solo
  have st4 := st3.trans A4.stays
  have tp4 := A4.tape.trans tp3
  have hgl4 : Tryz.prog.globals.size <= γ4.hs := Nat.le_trans hgl st4.hs
  have fS4 := fS3.stays A4.stays
  by_cases hm : 1 <= m /\ m <= 16
  ·have hgd : goodB L M K Wn = false := hbad.resolve_left fun q => q hm
   have hm1 : (decide (1 <= m) && decide (m <= 16)) = true := by simp [hm.1, hm.2]
   rw [hm1]
   rw [Frame.finish_at]
   clear hg
   have hg : γ4.tag 0 ≠ .gone := s4.ng
   walk_nrm
   refine lives_pure rfl hg (fun wV => ?_)
   refine goes_oper_k rfl rfl (by k_ne) (fun W hW => ?_)
   go_simp
   refine hW _ _ ⟨⟨rfl, no_listed (by simp [go_sem])⟩, ?_⟩
   clear hW
   clear W wV
   try walk_nrm
   refine lives_pure rfl hg (fun wV => ?_)
   refine goes_oper_k rfl rfl (by k_ne) (fun W hW => ?_)
   go_simp
   refine hW _ _ ⟨⟨rfl, no_listed (by simp [go_sem])⟩, ?_⟩
   clear hW
   clear W wV
   try walk_nrm
   refine lives_read rfl s4.ns (fun γV wV hrl hIV => ?_)
   have hcell0 : wV.cell? ⟨SB, 0, none⟩ = some (.int .i64 L) := by rw [World.cell?, (s4.rel hrl).2.1]; simp [fS4.heap]
   have hcell1 : wV.cell? ⟨SB, 1, none⟩ = some (.int .i64 M) := by rw [World.cell?, (s4.rel hrl).2.1]; simp [fS4.heap]
   have hcell2 : wV.cell? ⟨SB, 2, none⟩ = some (.int .i64 K) := by rw [World.cell?, (s4.rel hrl).2.1]; simp [fS4.heap]
   have hcell3 : wV.cell? ⟨SB, 3, none⟩ = some (.int .i64 Wn) := by rw [World.cell?, (s4.rel hrl).2.1]; simp [fS4.heap]
   have hcell4 : wV.cell? ⟨SB, 4, none⟩ = some (U32 sd) := by rw [World.cell?, (s4.rel hrl).2.1]; simp [fS4.heap]
   refine goes_oper_k rfl rfl (by k_ne) (fun W hW => ?_)
   go_simp
   refine hW _ _ ⟨⟨rfl, fun e he => ?_⟩, ?_⟩
   ·have hm := mem_listed he
    simp [go_sem, hcell0, hcell1, hcell2, hcell3, hcell4] at hm
    rcases hm with rfl | rfl | rfl | rfl | rfl <;> exact .inl ⟨_, rfl, rfl, .inl (by rw [hrl.S s4.ng]; exact ⟨fS4.lt, fS4.bk⟩)⟩
   clear hW hcell0 hcell1 hcell2 hcell3 hcell4
   clear W
   clear hrl hIV
   clear γV wV
   try walk_nrm
   refine lives_ctl rfl hg (fun _ => stepG_callE rfl rfl (by k_ne) rfl (vs := #[shapeV L M K Wn sd]) (by simp [Act.eval, shapeV]) Tryz.func8 (by kernel_rfl) (by kernel_rfl)) ?_
   refine lives_refCheck s4 hgl4 (fun γ5 w5 A5 => ?_)
   rw [hgd]
   have s5 := A5.solo
   have st5 := st4.trans A5.stays
   have tp5 := A5.tape.trans tp4
   have hgl5 : Tryz.prog.globals.size <= γ5.hs := Nat.le_trans hgl st5.hs
   have fS5 := fS4.stays A5.stays
   rw [Frame.finish_at]
   clear hg
   have hg : γ5.tag 0 ≠ .gone := s5.ng
   walk_nrm
   refine lives_pure rfl hg (fun wV => ?_)
   refine goes_oper_k rfl rfl (by k_ne) (fun W hW => ?_)
   go_simp
   refine hW _ _ ⟨⟨rfl, no_listed (by simp [go_sem])⟩, ?_⟩
   clear hW
   clear W wV
   try walk_nrm
   refine lives_pure rfl hg (fun wV => ?_)
   refine goes_oper_k rfl rfl (by k_ne) (fun W hW => ?_)
   go_simp
   refine hW _ _ ⟨⟨rfl, no_listed (by simp [go_sem])⟩, ?_⟩
   clear hW
   clear W wV
   try walk_nrm
   refine lives_ctl rfl hg (fun _ => stepG_region_end) ?_
   refine lives_ctl rfl hg (fun _ => stepG_cond (t := true) rfl) ?_
   simp only [if_true, if_false, Bool.false_eq_true, ↓reduceIte]
   refine lives_ctl rfl hg (fun _ => stepG_seq) ?_
   refine lives_ctl rfl hg (fun _ => stepG_region) ?_
   simp only [List.size_toArray, List.length_cons, List.length_nil, Nat.reduceAdd, Nat.zero_add, List.range, List.range.loop]
   refine lives_pure rfl hg (fun wV => ?_)
   refine goes_oper_k rfl rfl (by k_ne) (fun W hW => ?_)
   go_simp
   refine hW _ _ ⟨⟨rfl, no_listed (by simp [go_sem])⟩, ?_⟩
   clear hW
   clear W wV
   try walk_nrm
   refine lives_pure rfl hg (fun wV => ?_)
   refine goes_oper_k rfl rfl (by k_ne) (fun W hW => ?_)
   go_simp
   refine hW _ _ ⟨⟨rfl, no_listed (by simp [go_sem])⟩, ?_⟩
   clear hW
   clear W wV
   try walk_nrm
   refine lives_pure rfl hg (fun wV => ?_)
   refine goes_oper_k rfl rfl (by k_ne) (fun W hW => ?_)
   go_simp
   refine hW _ _ ⟨⟨rfl, no_listed (by simp [go_sem])⟩, ?_⟩
   clear hW
   clear W wV
   try walk_nrm
   refine lives_pure rfl hg (fun wV => ?_)
   refine goes_oper_k rfl rfl (by k_ne) (fun W hW => ?_)
   go_simp
   refine hW _ _ ⟨⟨rfl, no_listed (by simp [go_sem])⟩, ?_⟩
   clear hW
   clear W wV
   try walk_nrm
   refine lives_pure rfl hg (fun wV => ?_)
   refine goes_oper_k rfl rfl (by k_ne) (fun W hW => ?_)
   go_simp
   refine hW _ _ ⟨⟨rfl, no_listed (by simp [go_sem])⟩, ?_⟩
   clear hW
   clear W wV
   try walk_nrm
   refine lives_pure rfl hg (fun wV => ?_)
   refine goes_oper_k rfl rfl (by k_ne) (fun W hW => ?_)
   go_simp
   refine hW _ _ ⟨⟨rfl, no_listed (by simp [go_sem])⟩, ?_⟩
   clear hW
   clear W wV
   try walk_nrm
   refine lives_pure rfl hg (fun wV => ?_)
   refine goes_oper_k rfl rfl (by k_ne) (fun W hW => ?_)
   go_simp
   refine hW _ _ ⟨⟨rfl, no_listed (by simp [go_sem])⟩, ?_⟩
   clear hW
   clear W wV
   try walk_nrm
   refine lives_pure rfl hg (fun wV => ?_)
   refine goes_oper_k rfl rfl (by k_ne) (fun W hW => ?_)
   go_simp
   refine hW _ _ ⟨⟨rfl, no_listed (by simp [go_sem])⟩, ?_⟩
   clear hW
   clear W wV
   try walk_nrm
   refine lives_ctl rfl hg (fun _ => stepG_callv (first := #[]) (caps := #[]) (vs := #[]) rfl rfl (by k_ne) rfl rfl (by simp [Act.eval, shapeV]) Tryz.func9 (by kernel_rfl) rfl) ?_
   obtain ⟨hk5, hkS5⟩ := ktab_stays s0.hs hk hkS st5
   refine lives_lives s5 hgl5 (by have := A4.later.cnt; have := A5.later.cnt; omega) hk5 hkS5 (fun γ7 w7 A7 => ?_)
   have s7 := A7.solo
   have st7 := st5.trans A7.stays
   have tp7 := A7.tape.trans tp5
   rw [Frame.finish_at]
   clear hg
   have hg : γ7.tag 0 ≠ .gone := s7.ng
   walk_nrm
   refine lives_pure rfl hg (fun wV => ?_)
   refine goes_oper_k rfl rfl (by k_ne) (fun W hW => ?_)
   go_simp
   refine hW _ _ ⟨⟨rfl, no_listed (by simp [go_sem])⟩, ?_⟩
   clear hW
   clear W wV
   try walk_nrm
   refine lives_pure rfl hg (fun wV => ?_)
   refine goes_oper_k rfl rfl (by k_ne) (fun W hW => ?_)
   go_simp
   refine hW _ _ ⟨⟨rfl, no_listed (by simp [go_sem])⟩, ?_⟩
   clear hW
   clear W wV
   try walk_nrm
   refine lives_ctl rfl hg (fun _ => stepG_region_end) ?_
   refine lives_ctl rfl hg (fun _ => stepG_ret') ?_
   refine lives_stop s7 rfl (fun _ => stepG_finish (v := .bool true) rfl rfl Tryz.func3 (by kernel_rfl) (by kernel_rfl) (by kernel_rfl)) (fun w9 e1' e2' => ?_)
   exact hP _ _ ⟨s7.ph, s7.col, s7.tag, s7.deaf, by rw [e1']; exact s7.hs, s7.bk⟩ ⟨st7.hs, st7.bk, fun b hb hp => by rw [e1']; exact st7.heap b hb hp⟩ (by rw [e2']; exact tp7)
  ·have hm1 : (decide (1 <= m) && decide (m <= 16)) = false := by
    by_cases h1 : 1 <= m
    ·have h2 : ¬ m <= 16 := fun h2 => hm ⟨h1, h2⟩
     simp [h2]
    ·simp [h1]
   rw [hm1]
   rw [Frame.finish_at]
   clear hg
   have hg : γ4.tag 0 ≠ .gone := s4.ng
   walk_nrm
   refine lives_pure rfl hg (fun wV => ?_)
   refine goes_oper_k rfl rfl (by k_ne) (fun W hW => ?_)
   go_simp
   refine hW _ _ ⟨⟨rfl, no_listed (by simp [go_sem])⟩, ?_⟩
   clear hW
   clear W wV
   try walk_nrm
   refine lives_pure rfl hg (fun wV => ?_)
   refine goes_oper_k rfl rfl (by k_ne) (fun W hW => ?_)
   go_simp
   refine hW _ _ ⟨⟨rfl, no_listed (by simp [go_sem])⟩, ?_⟩
   clear hW
   clear W wV
   try walk_nrm
   refine lives_ctl rfl hg (fun _ => stepG_unwanted rfl rfl) ?_
   try walk_nrm
   refine lives_ctl rfl hg (fun _ => stepG_unwanted rfl rfl) ?_
   try walk_nrm
   refine lives_ctl rfl hg (fun _ => stepG_unwanted rfl rfl) ?_
   try walk_nrm
   refine lives_pure rfl hg (fun wV => ?_)
   refine goes_oper_k rfl rfl (by k_ne) (fun W hW => ?_)
   go_simp
   refine hW _ _ ⟨⟨rfl, no_listed (by simp [go_sem])⟩, ?_⟩
   clear hW
   clear W wV
   try walk_nrm
   refine lives_ctl rfl hg (fun _ => stepG_region_end) ?_
   refine lives_ctl rfl hg (fun _ => stepG_cond (t := true) rfl) ?_
   simp only [if_true, if_false, Bool.false_eq_true, ↓reduceIte]
   refine lives_ctl rfl hg (fun _ => stepG_seq) ?_
   refine lives_ctl rfl hg (fun _ => stepG_region) ?_
   simp only [List.size_toArray, List.length_cons, List.length_nil, Nat.reduceAdd, Nat.zero_add, List.range, List.range.loop]
   refine lives_pure rfl hg (fun wV => ?_)
   refine goes_oper_k rfl rfl (by k_ne) (fun W hW => ?_)
   go_simp
   refine hW _ _ ⟨⟨rfl, no_listed (by simp [go_sem])⟩, ?_⟩
   clear hW
   clear W wV
   try walk_nrm
   refine lives_pure rfl hg (fun wV => ?_)
   refine goes_oper_k rfl rfl (by k_ne) (fun W hW => ?_)
   go_simp
   refine hW _ _ ⟨⟨rfl, no_listed (by simp [go_sem])⟩, ?_⟩
   clear hW
   clear W wV
   try walk_nrm
   refine lives_pure rfl hg (fun wV => ?_)
   refine goes_oper_k rfl rfl (by k_ne) (fun W hW => ?_)
   go_simp
   refine hW _ _ ⟨⟨rfl, no_listed (by simp [go_sem])⟩, ?_⟩
   clear hW
   clear W wV
   try walk_nrm
   refine lives_pure rfl hg (fun wV => ?_)
   refine goes_oper_k rfl rfl (by k_ne) (fun W hW => ?_)
   go_simp
   refine hW _ _ ⟨⟨rfl, no_listed (by simp [go_sem])⟩, ?_⟩
   clear hW
   clear W wV
   try walk_nrm
   refine lives_pure rfl hg (fun wV => ?_)
   refine goes_oper_k rfl rfl (by k_ne) (fun W hW => ?_)
   go_simp
   refine hW _ _ ⟨⟨rfl, no_listed (by simp [go_sem])⟩, ?_⟩
   clear hW
   clear W wV
   try walk_nrm
   refine lives_pure rfl hg (fun wV => ?_)
   refine goes_oper_k rfl rfl (by k_ne) (fun W hW => ?_)
   go_simp
   refine hW _ _ ⟨⟨rfl, no_listed (by simp [go_sem])⟩, ?_⟩
   clear hW
   clear W wV
   try walk_nrm
   refine lives_pure rfl hg (fun wV => ?_)
   refine goes_oper_k rfl rfl (by k_ne) (fun W hW => ?_)
   go_simp
   refine hW _ _ ⟨⟨rfl, no_listed (by simp [go_sem])⟩, ?_⟩
   clear hW
   clear W wV
   try walk_nrm
   refine lives_pure rfl hg (fun wV => ?_)
   refine goes_oper_k rfl rfl (by k_ne) (fun W hW => ?_)
   go_simp
   refine hW _ _ ⟨⟨rfl, no_listed (by simp [go_sem])⟩, ?_⟩
   clear hW
   clear W wV
   try walk_nrm
   refine lives_ctl rfl hg (fun _ => stepG_callv (first := #[]) (caps := #[]) (vs := #[]) rfl rfl (by k_ne) rfl rfl (by simp [Act.eval, shapeV]) Tryz.func9 (by kernel_rfl) rfl) ?_
   obtain ⟨hk4, hkS4⟩ := ktab_stays s0.hs hk hkS st4
   refine lives_lives s4 hgl4 (by have := A4.later.cnt; omega) hk4 hkS4 (fun γ7 w7 A7 => ?_)
   have s7 := A7.solo
   have st7 := st4.trans A7.stays
   have tp7 := A7.tape.trans tp4
   rw [Frame.finish_at]
   clear hg
   have hg : γ7.tag 0 ≠ .gone := s7.ng
   walk_nrm
   refine lives_pure rfl hg (fun wV => ?_)
   refine goes_oper_k rfl rfl (by k_ne) (fun W hW => ?_)
   go_simp
   refine hW _ _ ⟨⟨rfl, no_listed (by simp [go_sem])⟩, ?_⟩
   clear hW
   clear W wV
   try walk_nrm
   refine lives_pure rfl hg (fun wV => ?_)
   refine goes_oper_k rfl rfl (by k_ne) (fun W hW => ?_)
   go_simp
   refine hW _ _ ⟨⟨rfl, no_listed (by simp [go_sem])⟩, ?_⟩
   clear hW
   clear W wV
   try walk_nrm
   refine lives_ctl rfl hg (fun _ => stepG_region_end) ?_
   refine lives_ctl rfl hg (fun _ => stepG_ret') ?_
   refine lives_stop s7 rfl (fun _ => stepG_finish (v := .bool true) rfl rfl Tryz.func3 (by kernel_rfl) (by kernel_rfl) (by kernel_rfl)) (fun w9 e1' e2' => ?_)
   exact hP _ _ ⟨s7.ph, s7.col, s7.tag, s7.deaf, by rw [e1']; exact s7.hs, s7.bk⟩ ⟨st7.hs, st7.bk, fun b hb hp => by rw [e1']; exact st7.heap b hb hp⟩ (by rw [e2']; exact tp7)
end
end Go.Proofs.YtbicafgmfgdckaaGreatDoor
