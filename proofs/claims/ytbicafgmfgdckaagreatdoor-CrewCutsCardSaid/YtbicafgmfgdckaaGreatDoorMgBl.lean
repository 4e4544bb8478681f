/- crew.Parts, main's part from the fork on. -/
import Derived.Test.YtbicafgmfgdckaaGreatDoorMgBi
import Derived.Test.YtbicafgmfgdckaaGreatDoorMgBk
namespace Go.Proofs.YtbicafgmfgdckaaGreatDoor
open Go Go.RowKit Go.Conc Go.Conc.Lib Go.ConcR.Gen
open Go.ConcR (KK wgBlock WgAt stA smA rd wr mk DC0)
open Go.ConcN (sumTo upd upd_same upd_ne RelBy PermW WgLive)
theorem info_row : ∃ i, Tryz.prog.info? 35 = some i /\ (∃ z, i.zero = some z) /\ i.size = 1 /\ i.bytes = 24 := by
 have h : (Tryz.prog.info? 35).map (fun i => (i.size, i.bytes, i.zero.isSome)) = some (1, 24, true) := by kernel_rfl
 cases hi : Tryz.prog.info? 35 with
 | none => rw [hi] at h; cases h
 | some i =>
  rw [hi] at h
  simp only [Option.map_some, Option.some.injEq, Prod.mk.injEq] at h
  exact ⟨i, rfl, Option.isSome_iff_exists.1 h.2.2, h.1, h.2.1⟩
theorem makeP_run (n : Nat) (hn : n <= 1000) : ∃ Z : Array Value, Z.size = n /\ ∀ w, (Instr.makeSlice 27 (.int .i64 n) (.int .i64 n)).run Tryz.prog w = .ok (.slice (some ⟨w.heap.size, 0, none⟩) n n) (w.alloc (.cells Z 35)) := by
 have hu : Tryz.prog.underlying 27 = some (.slice 35) := by kernel_rfl
 obtain ⟨i, hi, hz, hs, hb⟩ := info_row
 obtain ⟨z, hz⟩ := hz
 have := fun w => run_makeSlice (P := Tryz.prog) (w := w) 27 35 i z hu hi hz .i64 .i64 n n (by omega) (by omega) (by rw [hs]; omega) (by rw [hb]; omega) (by omega)
 refine ⟨_, ?_, fun w => by simpa using this w⟩
 simp [madeCells, hs]
theorem makeP_ev (n : Nat) (hn : n <= 1000) (w : World) : (Instr.makeSlice 27 (.int .i64 n) (.int .i64 n)).events Tryz.prog w #[] = #[] := by
 have hu : Tryz.prog.underlying 27 = some (.slice 35) := by kernel_rfl
 obtain ⟨i, hi, hz, hs, hb⟩ := info_row
 obtain ⟨z, hz⟩ := hz
 have hw : IntKind.i64.wrap (n : Int) = n := by rw [IntKind.wrap_i64]; omega
 have n1 : ¬ (n : Int) < 0 := by omega
 have n2 : ¬ (281474976710656 < (24 : Int) * n) := by omega
 have n3 : ¬ (roomBytes < n * 24) := by show ¬ (_ < n * 24); unfold roomBytes; omega
 unfold Instr.makeSlice
 simp [run_underlying hu, asInt, asIntOf, typeInfo, hi, hb, hs, hw, n1, n2, n3, askRoom, sizeOf, zeroValue, hz, newRow]
theorem born_one (caps : Array Value) (w : World) (h : caps.size = 4) : stepG Tryz.prog false (born Tryz.prog { target := .fn (.func 21) caps, args := #[] }) w =
  .go (G ((baseD 21).at ⟨caps ++ Array.replicate 6 undef, []⟩ [.code (Tryz.f21.body.getD .skip)]) [bot]) w #[] := by
 simp [born, stepG, unwind, callDeferred, invoke, callFunc, Tryz.func21, Tryz.f21, seen, GStep.after, G, Frame.enter, Frame.at, baseD, bot, h]
section
variable {top : Nat} {γ γ' γ2 γ0 : Gho} {p : Ph} {c : Col} {w w' w2 w0 : World} {i j k n W0 : Nat} {Post : Value -> World -> Prop} {es : Array Event} {g g' : Goroutine} {Hw : World} {SB LB DB WB dn : Nat}
theorem snap_keeps2 {out out' : Nat} (hl : ∀ b, b < γ.hs -> γ.bk b = .priv 0 -> γ'.bk b = .priv 0) (hs : γ.hs = w.heap.size) (hh : ∀ b, b < γ.hs -> γ.bk b = .priv 0 -> w'.heap[b]? = w.heap[b]?) (ho : γ.hs <= out') : Keeps (snapW γ out w) (snapW γ' out' w') := by
 rintro ⟨b, o, sp⟩ v h
 cases sp with
 | some sp =>
  exfalso
  unfold World.cell? at h
  cases hb : (snapW γ out w).heap[b]? with
  | none => simp [hb] at h
  | some ob => cases ob <;> simp [hb] at h
 | none =>
  obtain ⟨h1, h2, h3, h4⟩ := snap_cell h
  have hlt : b < γ.hs := by omega
  refine snap_cell_of (hl b hlt h1) (by omega) ?_
  unfold World.cell? at h4 ⊢
  rw [hh b hlt h1]
  exact h4
def PartOwn (γ : Gho) (w : World) (h : CutMath.Sh) (rows : Txts) (x : Nat) (v : Value) : Prop :=
 ∃ row ob, rows[x]? = some row /\ PartAt (partsOf h row) v ob /\ ∀ B o, ob = some (B, o) -> Fact 0 γ w B (.priv 0) o
theorem PartOwn.cl {X : Nat -> Prop} {h : CutMath.Sh} {rows : Txts} {x : Nat} {v : Value} (q : PartOwn γ w h rows x v) (l : ClLater X γ w γ' w') (hX : ∀ b t cs, X b -> w.heap[b]? = some (.cells cs t (0, 0)) -> t ≠ 60) : PartOwn γ' w' h rows x v := by
 obtain ⟨row, ob, h1, h2, h3⟩ := q
 refine ⟨row, ob, h1, h2, fun B o e => ?_⟩
 have f := h3 B o e
 refine f.cl (.inl rfl) l fun hx => ?_
 subst e
 rcases h2 with ⟨_, _, q⟩ | ⟨B', cap, cs, _, _, _, _, q⟩
 ·cases q
 ·injection q with q
  injection q with q1 q2
  subst q1 q2
  exact hX _ _ _ hx f.heap rfl
def ColAt (c : Col) (h : CutMath.Sh) (rows : Txts) (n Bo Bc : Nat) (γ0 : Gho) (w0 : World) (m : Nat) (tm : Array Value) (γ : Gho) (w : World) : Prop :=
 ∃ u0 u1 u2 u3 u4 u5 u6 u7 u8 u9 u11 u12 u13 u14 u15 u16 u17 u18 u19 u20 u21 u22 u23 u24 u26 u27 u28 u29 u30 u31 u32 u33 u34 u35 : Value, ∃ cells : Array Value, m = left γ.done n /\ tm = #[u0, u1, u2, u3, u4, u5, u6, u7, u8, u9, .slice (some ⟨Bo, 0, none⟩) n n, u11, u12, u13, u14, u15, u16, u17, u18, u19, u20, u21, u22, u23, u24, .chan (some Bc), u26, u27, u28, u29, u30, u31, u32, u33, u34, u35] /\ Cl c γ w /\ ClLater (fun b => γ0.hs <= b) γ0 w0 γ w /\ γ0.hs <= Bo /\ Fact 0 γ w Bo (.priv 0) (.cells cells 35 (0, 0)) /\ cells.size = n /\ ∀ x, x < n -> γ.done x -> ∃ v, cells[x]? = some v /\ PartOwn γ w h rows x v
def PartsMade (γ : Gho) (w : World) (h : CutMath.Sh) (rows : Txts) (out : Nat) : Prop :=
 ∃ cells : Array Value, Fact 0 γ w out (.priv 0) (.cells cells 35 (0, 0)) /\ cells.size = rows.length /\ ∀ x, x < rows.length -> ∃ v, cells[x]? = some v /\ PartOwn γ w h rows x v
noncomputable def partsTail : Code := match Tryz.f6.body.getD .skip with
 | .seq _ (.seq _ (.seq _ c)) => c
 | _ => .skip
noncomputable def resOps : Array Oper := match partsTail with
 | .seq _ (.seq _ (.seq _ (.seq (.seq _ (.block _ (.loop (.seq _ (.seq _ (.block _ (.seq (.region _ ops _) _))))))) _))) => ops
 | _ => #[]
theorem Solo.home {ty : TypeId} (hI : GInv ty top γ w) (hI2 : GInv ty top γ.home w) (hc : γ.col = some c) (hd : γ.deaf 0 = 0) : Solo γ.home w := by
 have hph : γ.ph = none := by
  cases hp : γ.ph with
  | none => rfl
  | some p =>
   have h1 := (hI.mate p c hp hc).2.1
   have h2 := (hI2.alone p hp rfl).2
   exact absurd h1 h2
 refine ⟨hph, rfl, (by show upd γ.tag 0 Tag.solo 0 = _; exact upd_same _ _ _), hd, hI.hs, fun b hb => ?_⟩
 show (match γ.bk b with | .shd s => BK.shd s | _ => .priv 0) = .priv 0 \/ ∃ s, (match γ.bk b with | .shd s => BK.shd s | _ => .priv 0) = .shd s
 cases γ.bk b <;> first | exact .inl rfl | exact .inr ⟨_, rfl⟩
set_option maxRecDepth 100000 in
set_option maxHeartbeats 16000000 in
theorem lives_parts2 {h : CutMath.Sh} {rows : Txts} {la : Option Addr} {lc : Nat} {v0 v2 v6 v7 v8 v12 v13 v14 v15 v16 v17 v18 : Value} {cc : Frame} {cs : List Frame} (hG : h.Good) (s0 : Solo γ w) (hn : n <= 1000) (hmem : RowsMem (snapW γ γ.hs w) la n rows) (hshort : ∀ row ∈ rows, row.length <= 100000)
  (fSB : Fact 0 γ w SB (.priv 0) (.cells #[.int .i64 h.L, .int .i64 h.M, .int .i64 h.K, .int .i64 h.W, U32 h.s] 24 (0, 0))) (fLB : Fact 0 γ w LB (.priv 0) (.cells #[.slice la n lc] 25 (0, 0))) (fWB : Fact 0 γ w WB (.priv 0) (.cells #[.int .i64 W0] 3 (0, 0)))
  (hW : 1 <= W0) (hW2 : W0 <= 16) (hcnt : γ.cnt + 17 <= top) (hgl : Tryz.prog.globals.size <= γ.hs)
  (hK : ∀ γ' w' out, Solo γ' w' -> γ.hs <= γ'.hs -> γ'.cnt <= γ.cnt + 17 -> (∀ b, b < γ.hs -> γ'.bk b = γ.bk b) -> (∀ b, b < γ.hs -> γ.bk b = .priv 0 -> w'.heap[b]? = w.heap[b]?) -> w'.tape = w.tape -> PartsMade γ' w' h rows out -> LV Tryz.prog wgLink.tWg top Post 0 γ' w' (G (cc.finish (.tuple #[.slice (some ⟨out, 0, none⟩) n n, .int .i64 0])) cs)) :
  LV Tryz.prog wgLink.tWg top Post 0 γ w (G ((base 6).at ⟨#[v0, .slice la n lc, v2, .pointer (some ⟨SB, 0, none⟩), .pointer (some ⟨LB, 0, none⟩), .pointer (some ⟨WB, 0, none⟩), v6, v7, v8, undef, undef, undef, v12, v13, v14, v15, v16, v17, v18, undef, undef, undef, undef, undef, undef, undef, undef, undef, undef, undef, undef, undef, undef, undef, undef, undef], []⟩ [.code partsTail]) (cc :: cs)) := by
 have hg : γ.tag 0 ≠ .gone := s0.ng
 have L := LonLater.refl (fun b => γ.hs <= b) 0 γ w
 have so := s0
 replace s0 := so.lon
 simp only [partsTail, Tryz.f6, Option.getD_some]
 try walk_nrm
 refine lives_ctl rfl hg (fun _ => stepG_seq) ?_
 refine lives_ctl rfl hg (fun _ => stepG_region) ?_
 simp only [List.size_toArray, List.length_cons, List.length_nil, Nat.reduceAdd, Nat.zero_add, List.range, List.range.loop]
 refine lon_push true s0 rfl fun wV => ?_
 refine goes_oper_k rfl rfl (by k_ne) (fun W hW => ?_)
 go_simp
 refine hW _ _ ⟨_, rfl, rfl, rfl, rfl, no_listed (by first | (simp [go_sem]; done) | (simp [go_sem]; kernel_rfl)), fun γ1 w1 s1 l1 a1 fC => ?_⟩
 clear hW
 clear W
 generalize wV.heap.size = Bc at a1 fC ⊢
 clear wV
 replace L := L.trans l1 (fun _ q => q) (fun _ _ q => q.elim)
 have hg : γ1.tag 0 ≠ .gone := s1.ng
 try walk_nrm
 have qC := fC.lt
 refine lon_push false s1 rfl fun wV => ?_
 refine goes_oper_k rfl rfl (by k_ne) (fun W hW => ?_)
 go_simp
 refine hW _ _ ⟨_, rfl, rfl, rfl, rfl, no_listed (by simp [go_sem]), fun γ2 w2 s2 l2 a2 fD => ?_⟩
 clear hW
 clear W
 generalize wV.heap.size = DB at a2 fD ⊢
 clear wV
 replace L := L.trans l2 (fun _ q => q) (fun _ _ q => q.elim)
 replace fC := fC.next (.inr rfl) l2 id
 have hg : γ2.tag 0 ≠ .gone := s2.ng
 try walk_nrm
 have oD : Bc < DB := Nat.lt_of_lt_of_le qC a2
 refine lon_store (v := .chan (some Bc)) s2 rfl fD fun wV eV => ?_
 refine goes_oper_k rfl rfl (by k_ne) (fun W hW => ?_)
 have hcell : wV.cell? ⟨DB, 0, none⟩ = some (.chan none) := by simp [World.cell?, eV]
 have hfro : wV.frozen? ⟨DB, 0, none⟩ = false := by simp [World.frozen?, eV]
 go_simp
 refine hW _ _ ⟨rfl, fun e he => by have hm := mem_listed he; simp [go_sem, hcell, hfro] at hm; first | exact hm | (rw [events_store _ _ _ _ _ _ rfl, hcell] at hm; simp [hfro] at hm; exact hm), fun γ3 w3 s3 l3 fX => ?_⟩
 clear hW
 clear W hcell hfro eV
 clear wV
 replace L := L.trans l3 (fun _ q => q) (fun b _ q => by have q' : b = DB := q; show γ.hs <= b; omega)
 replace fC := fC.next (.inr rfl) l3 (fun q => by have q' : Bc = DB := q; omega)
 replace fD := fX
 have hg : γ3.tag 0 ≠ .gone := s3.ng
 try walk_nrm
 refine lives_ctl rfl hg (fun _ => stepG_region_end) ?_
 refine lives_ctl rfl hg (fun _ => stepG_seq) ?_
 refine lives_ctl rfl hg (fun _ => stepG_region) ?_
 simp only [List.size_toArray, List.length_cons, List.length_nil, Nat.reduceAdd, Nat.zero_add, List.range, List.range.loop]
 refine lives_pure rfl hg (fun wV => ?_)
 refine goes_oper_k rfl rfl (by k_ne) (fun W hW => ?_)
 go_simp
 refine hW _ _ ⟨⟨rfl, no_listed (by simp [go_sem])⟩, ?_⟩
 clear hW
 clear W wV
 try walk_nrm
 refine lives_step rfl hg fun γ5 w5 hrl hI hi => ?_
 obtain ⟨s5, l5⟩ := s3.rel hI hrl
 replace L := L.trans l5 (fun _ q => q) (fun _ _ q => q.elim)
 replace fC := fC.next (.inr rfl) l5 id
 replace fD := fD.next (.inl rfl) l5 id
 have lo5 := L.hs
 have fS5 := fSB.next (.inl rfl) L (Nat.not_le.2 fSB.lt)
 have fL5 := fLB.next (.inl rfl) L (Nat.not_le.2 fLB.lt)
 have fW5 := fWB.next (.inl rfl) L (Nat.not_le.2 fWB.lt)
 have bk5 : ∀ b, b < γ.hs -> γ5.bk b = γ.bk b := fun b hb => L.bk b hb fun j hj q => by
  rcases so.bk b hb with e | ⟨s, e⟩ <;> (rw [q] at e; cases e)
  exact hj rfl
 have hp5 : γ5.ph = none := s5.lone.1
 have hc5 : γ5.col = none := by rw [L.col]; exact so.col
 have hi5 := hI.cnt
 have cn5 : γ5.cnt = γ.cnt := L.cnt
 obtain ⟨c, hcd⟩ : ∃ c : Col, c = ⟨γ5.cnt, W0, Bc, n, fun b => w5.heap[b]?, PartGood h rows⟩ := ⟨_, rfl⟩
 have cf : c.f = γ5.cnt := by rw [hcd]
 have cW : c.W = W0 := by rw [hcd]
 have cdn : c.dn = Bc := by rw [hcd]
 have cn : c.n = n := by rw [hcd]
 have cH : c.H = fun b => w5.heap[b]? := by rw [hcd]
 have cg : c.good = PartGood h rows := by rw [hcd]
 clear hcd
 obtain ⟨Fx, hFx⟩ : ∃ Fx : Nat -> Prop, ∀ b, Fx b ↔ (b < γ5.hs /\ γ5.bk b = .priv 0) := ⟨_, fun _ => Iff.rfl⟩
 have B : Forks top γ5 w5 c Fx := ⟨hp5, hc5, cf, by rw [cdn]; exact fC.bk, by rw [cdn]; exact fC.heap, fun b q => (hFx b).1 q, fun b _ => by rw [cH], by rw [cf, cW]; omega, s5.deaf⟩
 have tz : (γ5.fork c Fx).tag 0 = .coll := by
  show upd (upd γ5.tag 0 Tag.coll) γ5.cnt Tag.pre 0 = _
  rw [upd_ne _ _ (by omega), upd_same]
 have fxb : ∀ b, b < γ5.hs -> γ5.bk b = .priv 0 -> (γ5.fork c Fx).bk b = .fix 0 := fun b h1 h2 => by simp only [Gho.fork]; rw [if_pos ((hFx b).2 ⟨h1, h2⟩)]
 have nfx : ∀ b y, γ5.bk b = y -> y ≠ .priv 0 -> (γ5.fork c Fx).bk b = y := fun b y h1 h2 => by
  simp only [Gho.fork]
  rw [if_neg fun q => h2 (by rw [<- h1]; exact ((hFx b).1 q).2)]
  exact h1
 refine .spawn _ _ (γ5.fork c Fx) (stepG_gov rfl rfl (by k_ne) rfl rfl) (do_fork hI B) ?_ ?_
 ·have s6 : Cl c (γ5.fork c Fx) w5 := ⟨rfl, tz, (upd_ne _ _ (by omega)).trans s5.deaf, s5.hs⟩
  have fL : Fact 0 (γ5.fork c Fx) w5 LB (.fix 0) (.cells #[.slice la n lc] 25 (0, 0)) := ⟨fL5.lt, fxb _ fL5.lt fL5.bk, fL5.heap⟩
  have fDf : Fact 0 (γ5.fork c Fx) w5 DB (.fix 0) (.cells #[.chan (some Bc)] 54 (0, 0)) := ⟨fD.lt, fxb _ fD.lt fD.bk, fD.heap⟩
  have nd : ∀ x, ¬ (γ5.fork c Fx).done x := fun _ q => q
  have hbk6 : ∀ b, b < γ.hs -> (γ.bk b = .priv 0 -> (γ5.fork c Fx).bk b = .fix 0) /\ ∀ s, γ.bk b = .shd s -> (γ5.fork c Fx).bk b = .shd s := fun b hb => ⟨fun q => fxb b (by omega) ((bk5 b hb).trans q), fun s q => nfx b _ ((bk5 b hb).trans q) (by simp)⟩
  have hcn6 : (γ5.fork c Fx).hs = γ5.hs := rfl
  have hh6 : ∀ b, b < γ.hs -> γ.bk b = .priv 0 -> w5.heap[b]? = w.heap[b]? := fun b hb q => L.heap b hb (Nat.not_le.2 hb) (.inl q)
  have tp6 : w5.tape = w.tape := L.tape
  clear hg
  show LV Tryz.prog wgLink.tWg top Post 0 (γ5.fork c Fx) w5 _
  generalize γ5.fork c Fx = γ6 at s6 fL fDf nd hbk6 hcn6 ⊢
  clear tz fxb nfx B hi5 hp5 hc5 s5 fS5 fL5 fW5 fC fD bk5 L l5 hrl hI hi s1 s2 s3 l1 l2 l3
  have hg : γ6.tag 0 ≠ .gone := s6.ng
  walk_nrm
  refine lives_ctl rfl hg (fun _ => stepG_region_end) ?_
  refine lives_ctl rfl hg (fun _ => stepG_seq) ?_
  refine lives_ctl rfl hg (fun _ => stepG_region) ?_
  simp only [List.size_toArray, List.length_cons, List.length_nil, Nat.reduceAdd, Nat.zero_add, List.range, List.range.loop]
  refine cl_read (o := 0) (v := .slice la n lc) s6 rfl fL (.inr rfl) rfl fun wV hcell => ?_
  refine goes_oper_k rfl rfl (by k_ne) (fun W hW => ?_)
  go_simp
  refine hW _ _ ⟨⟨rfl, fun e he => by have hm := mem_listed he; simp [go_sem, hcell] at hm; exact hm⟩, ?_⟩
  clear hW hcell
  clear W
  clear wV
  try walk_nrm
  refine lives_pure rfl hg (fun wV => ?_)
  refine goes_oper_k rfl rfl (by k_ne) (fun W hW => ?_)
  go_simp
  refine hW _ _ ⟨⟨rfl, no_listed (by simp [go_sem])⟩, ?_⟩
  clear hW
  clear W wV
  try walk_nrm
  obtain ⟨Z, hZ, hmk⟩ := makeP_run n hn
  refine cl_push s6 rfl fun wV => ?_
  refine goes_oper_k rfl rfl (by k_ne) (fun W hW => ?_)
  have hmkV := hmk wV
  go_simp
  refine hW _ _ ⟨_, rfl, rfl, rfl, rfl, no_listed (by simp [go_sem]; exact makeP_ev n hn _), fun γ7 w7 s7 l7 d7 a7 fO => ?_⟩
  clear hW hmkV
  clear W
  generalize wV.heap.size = Bo at a7 fO ⊢
  clear wV
  clear hg
  have hg : γ7.tag 0 ≠ .gone := s7.ng
  replace fDf := fDf.cl (.inr rfl) l7 id
  try walk_nrm
  refine lives_pure rfl hg (fun wV => ?_)
  refine goes_oper_k rfl rfl (by k_ne) (fun W hW => ?_)
  go_simp
  refine hW _ _ ⟨⟨rfl, no_listed (by simp [go_sem])⟩, ?_⟩
  clear hW
  clear W wV
  try walk_nrm
  refine lives_ctl rfl hg (fun _ => stepG_region_end) ?_
  refine lives_ctl rfl hg (fun _ => stepG_seq) ?_
  refine lives_ctl rfl hg (fun _ => stepG_seq) ?_
  refine lives_ctl rfl hg (fun _ => stepG_region) ?_
  simp only [List.size_toArray, List.length_cons, List.length_nil, Nat.reduceAdd, Nat.zero_add, List.range, List.range.loop]
  refine cl_read (o := 0) (v := .chan (some Bc)) s7 rfl fDf (.inr rfl) rfl fun wV hcell => ?_
  refine goes_oper_k rfl rfl (by k_ne) (fun W hW => ?_)
  go_simp
  refine hW _ _ ⟨⟨rfl, fun e he => by have hm := mem_listed he; simp [go_sem, hcell] at hm; exact hm⟩, ?_⟩
  clear hW hcell
  clear W
  clear wV
  try walk_nrm
  refine lives_ctl rfl hg (fun _ => stepG_region_end) ?_
  refine lives_ctl rfl hg (fun _ => stepG_block) ?_
  refine lives_ctl rfl hg (fun _ => stepG_loop) ?_
  refine lives_loop (ColAt c h rows n Bo Bc γ6 w5) (m := left γ7.done n) ⟨_, _, _, _, _, _, _, _, _, _, _, _, _, _, _, _, _, _, _, _, _, _, _, _, _, _, _, _, _, _, _, _, _, _, Z, rfl, rfl, s7, l7.weak (fun _ _ q => q.elim), a7, fO, hZ, fun x _ q => absurd ((d7 x).1 q) (nd x)⟩ fun m ih tm γ8 w8 hR => ?_
  clear hg s7 l7 d7 fO fDf hZ hmk
  obtain ⟨u0, u1, u2, u3, u4, u5, u6, u7, u8, u9, u11, u12, u13, u14, u15, u16, u17, u18, u19, u20, u21, u22, u23, u24, u26, u27, u28, u29, u30, u31, u32, u33, u34, u35, cells, rfl, rfl, s8, l8, _, fO, hsz, hdn⟩ := hR
  have hg : γ8.tag 0 ≠ .gone := s8.ng
  refine lives_ctl rfl hg (fun _ => stepG_seq) ?_
  refine lives_ctl rfl hg (fun _ => stepG_region) ?_
  simp only [List.size_toArray, List.length_cons, List.length_nil, Nat.reduceAdd, Nat.zero_add, List.range, List.range.loop]
  refine lives_comm (cases := #[rcase Bc (.agg #[.int .i64 0, .slice none 0 0])]) (blocking := true) (shape := .recv true) rfl rfl (by k_ne) hg (fun _ => by kernel_rfl) (fun _ => by kernel_rfl) (fun γ2 w2 hrl hI => .coll c _ (s8.rel hI hrl).1.col rfl rfl (by rw [cdn])) fun γ2 w2 hrl hI kk v ok γ3 w3 hR hI3 => ?_
  obtain ⟨s2, l2, d2⟩ := s8.rel hI hrl
  replace l2 := l8.trans l2 (fun _ q => q) (fun _ _ q => q.elim)
  have fO2 := fO.cl (.inl rfl) (s8.rel hI hrl).2.1 id
  have hdn2 : ∀ x, x < n -> γ2.done x -> ∃ v, cells[x]? = some v /\ PartOwn γ2 w2 h rows x v := fun x hx q => by
   obtain ⟨v, h1, h2⟩ := hdn x hx ((d2 x).1 q)
   exact ⟨v, h1, h2.cl (s8.rel hI hrl).2.1 fun _ _ _ q => q.elim⟩
  have hm2 : left γ8.done n = left γ2.done n := left_congr fun z _ => (d2 z).symm
  rw [hm2] at ih
  rw [show commResult #[rcase Bc (.agg #[.int .i64 0, .slice none 0 0])] (.recv true) kk v ok = .tuple #[v, .bool ok] from rfl]
  rcases coll_result hR hI s2.col with ⟨rfl, hh, x, s, rfl, hgv, rfl, hxn, hnd, hok, rfl, rfl⟩ | ⟨rfl, hall, rfl, rfl⟩
  ·have hh0 : hh ≠ 0 := fun e => by rw [e, s2.tag] at hgv; cases hgv
   obtain ⟨ob, hgood, hob⟩ := hok.good
   rw [cg] at hgood
   obtain ⟨row, u, hrow, hvv, hpa⟩ := hgood
   rw [hvv]
   rw [cn] at hxn
   have hdlt : c.dn < w2.heap.size := (hI.coll c s2.col).lt hI.hs |> fun q => by rw [<- hI.hs]; exact q
   have hbd : γ2.bk c.dn = .shd 0 := (hI.coll c s2.col).bdn
   have tkb : ∀ b, (∀ j, j ≠ 0 -> γ2.bk b ≠ .priv j) -> (γ2.taken hh x).bk b = γ2.bk b := fun b hj => by
    show (if γ2.gb hh = some b then BK.priv 0 else γ2.bk b) = γ2.bk b
    rw [if_neg fun q => ?_]
    rw [q] at hob
    exact hj hh hh0 hob.2.1
   have l3 : ClLater (fun _ => False) γ2 w2 (γ2.taken hh x) (w2.setChan c.dn 0 #[] false s s false) := ⟨Nat.le_refl _, fun b hb hj => tkb b hj, fun b hb _ q => heap_setChan _ _ _ _ _ _ _ _ (fun r => by subst r; rw [hbd] at q; rcases q with q | q <;> cases q), rfl⟩
   have s3 : Cl c (γ2.taken hh x) (w2.setChan c.dn 0 #[] false s s false) := ⟨s2.col, (upd_ne _ _ (Ne.symm hh0)).trans s2.tag, s2.deaf, by rw [show (w2.setChan c.dn 0 #[] false s s false).heap.size = w2.heap.size by simp [World.setChan]]; exact s2.hs⟩
   have fO3 := fO2.cl (.inl rfl) l3 id
   have hdn3 : ∀ z, z < n -> γ2.done z -> ∃ v, cells[z]? = some v /\ PartOwn (γ2.taken hh x) (w2.setChan c.dn 0 #[] false s s false) h rows z v := fun z hz q => by
    obtain ⟨v, h1, h2⟩ := hdn2 z hz q
    exact ⟨v, h1, h2.cl l3 fun _ _ _ q => q.elim⟩
   have hpo : PartOwn (γ2.taken hh x) (w2.setChan c.dn 0 #[] false s s false) h rows x u := by
    refine ⟨row, ob, hrow, hpa, fun B o e => ?_⟩
    cases hgb : γ2.gb hh with
    | none => rw [hgb] at hob; rw [hob] at e; cases e
    | some B' =>
     rw [hgb] at hob
     obtain ⟨q1, q2, o', q3, q4⟩ := hob
     rw [q4] at e
     injection e with e
     injection e with e1 e2
     subst e1 e2
     refine ⟨q1, ?_, ?_⟩
     ·show (if γ2.gb hh = some B' then BK.priv 0 else γ2.bk B') = _
      rw [if_pos hgb]
     ·rw [heap_setChan _ _ _ _ _ _ _ _ (fun r => by subst r; rw [hbd] at q2; cases q2)]
      exact q3
   have hmd : left (γ2.taken hh x).done n < left γ2.done n := left_lt (x := x) (fun _ => Iff.rfl) hnd hxn
   have hd3 : ∀ z, (γ2.taken hh x).done z ↔ γ2.done z \/ z = x := fun _ => Iff.rfl
   replace l3 := l2.trans l3 (fun _ q => q) (fun _ _ q => q.elim)
   clear l2 s2 s8 l8 fO fO2 hdn hdn2 hok hob hI hI3 hR hrl hgv hg hvv hbd hdlt tkb hnd d2 hm2
   obtain ⟨va, vn, vc, rfl⟩ : ∃ a n c, u = .slice a n c := by
    rcases hpa with ⟨_, e, _⟩ | ⟨B, cap, cs, e, _⟩
    ·exact ⟨_, _, _, e⟩
    ·exact ⟨_, _, _, e⟩
   generalize γ2.taken hh x = γ4, w2.setChan c.dn 0 #[] false s s false = w4 at *
   have hg : γ4.tag 0 ≠ .gone := s3.ng
   walk_nrm
   refine lives_pure rfl hg (fun wV => ?_)
   refine goes_oper_k rfl rfl (by k_ne) (fun W hW => ?_)
   go_simp
   refine hW _ _ ⟨⟨rfl, no_listed (by simp [go_sem])⟩, ?_⟩
   clear hW
   clear W wV
   try walk_nrm
   refine lives_ctl rfl hg (fun _ => stepG_region_end) ?_
   refine lives_ctl rfl hg (fun _ => stepG_seq) ?_
   refine lives_ctl rfl hg (fun _ => stepG_cond (t := true) rfl) ?_
   simp only [if_true, if_false, Bool.false_eq_true, ↓reduceIte]
   refine lives_ctl rfl hg (fun _ => stepG_skip) ?_
   refine lives_ctl rfl hg (fun _ => stepG_block) ?_
   refine lives_ctl rfl hg (fun _ => stepG_seq) ?_
   refine lives_ctl rfl hg (fun _ => stepG_region) ?_
   simp only [List.size_toArray, List.length_cons, List.length_nil, Nat.reduceAdd, Nat.zero_add, List.range, List.range.loop]
   refine lives_pure rfl hg (fun wV => ?_)
   refine goes_oper_k rfl rfl (by k_ne) (fun W hW => ?_)
   go_simp
   refine hW _ _ ⟨⟨rfl, no_listed (by simp [go_sem])⟩, ?_⟩
   clear hW
   clear W wV
   try walk_nrm
   refine cl_push s3 rfl fun wV => ?_
   refine goes_oper_k rfl rfl (by k_ne) (fun W hW => ?_)
   go_simp
   refine hW _ _ ⟨_, rfl, rfl, rfl, rfl, no_listed (by simp [go_sem]), fun γ5 w5' s5 l5 d5 a5 fR => ?_⟩
   clear hW
   clear W
   generalize wV.heap.size = Br at a5 fR ⊢
   clear wV
   replace fR : Fact 0 γ5 w5' Br (.priv 0) (.cells #[.int .i64 0, .slice none 0 0] 62 (0, 0)) := fR
   have noX : ∀ {γ : Gho} {w : World} {Bx : Nat} {cs : Array Value} {tx : TypeId}, Fact 0 γ w Bx (.priv 0) (.cells cs tx (0, 0)) -> tx ≠ 60 -> ∀ b t cs', b = Bx -> w.heap[b]? = some (.cells cs' t (0, 0)) -> t ≠ 60 := fun f hx b t cs' e q => by
    subst e
    rw [f.heap] at q
    injection q with q
    injection q with _ q
    rw [<- q]; exact hx
   have no0 : ∀ {w : World} (b : Nat) (t : TypeId) (cs' : Array Value), False -> w.heap[b]? = some (.cells cs' t (0, 0)) -> t ≠ 60 := fun _ _ _ q => q.elim
   have fO5 := fO3.cl (.inl rfl) l5 id
   have hpo5 := hpo.cl l5 no0
   have hdn5 : ∀ z, z < n -> γ2.done z -> ∃ v, cells[z]? = some v /\ PartOwn γ5 w5' h rows z v := fun z hz q => by
    obtain ⟨v, h1, h2⟩ := hdn3 z hz q
    exact ⟨v, h1, h2.cl l5 no0⟩
   have lb5 : γ6.hs <= Br := Nat.le_trans l3.hs a5
   replace l3 := l3.trans l5 (fun _ q => q) (fun _ _ q => q.elim)
   clear fO3 hpo hdn3 l5 s3 hg
   have hg : γ5.tag 0 ≠ .gone := s5.ng
   try walk_nrm
   refine cl_row (cl' := #[.int .i64 (x : Int), .slice va vn vc]) s5 rfl fR fun wV hH => ?_
   have hex := exec_store_row (P := Tryz.prog) (a := ⟨#[u0, u1, u2, u3, u4, u5, u6, u7, u8, u9, .slice (some ⟨Bo, 0, none⟩) n n, .pointer (some ⟨Br, 0, none⟩), u12, u13, u14, u15, u16, u17, u18, u19, u20, u21, u22, u23, u24, .chan (some Bc), .tuple #[.agg #[.int .i64 (x : Int), .slice va vn vc], .bool true], .bool true, .agg #[.int .i64 (x : Int), .slice va vn vc], u29, u30, u31, u32, u33, u34, u35], []⟩) (op := resOps[2]) (x := .tmp 11) (y := .tmp 28) (o := 0) (vs := [.int .i64 (x : Int), .slice va vn vc]) (ty := 62) (w := wV) rfl rfl rfl (by kernel_rfl) hH (by simp) (fun v hv => by simp at hv; rcases hv with rfl | rfl <;> rfl)
   refine ⟨_, _, stepG_none rfl rfl (by k_ne) hex.1, fun e he => ?_, fun γ6' w6' s6' l6 d6 fR6 => ?_⟩
   ·obtain ⟨j, _, q⟩ := hex.2 e (mem_listed he)
    exact ⟨_, q⟩
   clear hex hH
   clear wV
   have fO6 := fO5.cl (.inl rfl) l6 (fun q => by subst q; have q1 := fO5.heap; rw [fR.heap] at q1; injection q1 with q1; injection q1 with _ q1; cases q1)
   have hpo6 := hpo5.cl l6 (noX fR (by decide))
   have hdn6 : ∀ z, z < n -> γ2.done z -> ∃ v, cells[z]? = some v /\ PartOwn γ6' w6' h rows z v := fun z hz q => by
    obtain ⟨v, h1, h2⟩ := hdn5 z hz q
    exact ⟨v, h1, h2.cl l6 (noX fR (by decide))⟩
   replace l3 := l3.trans l6 (fun _ q => q) (fun b _ q => by have q' : b = Br := q; show γ6.hs <= b; omega)
   clear fO5 hpo5 hdn5 l6 s5 hg
   have hg : γ6'.tag 0 ≠ .gone := s6'.ng
   try walk_nrm
   refine lives_ctl rfl hg (fun _ => stepG_region_end) ?_
   refine lives_ctl rfl hg (fun _ => stepG_region) ?_
   simp only [List.size_toArray, List.length_cons, List.length_nil, Nat.reduceAdd, Nat.zero_add, List.range, List.range.loop]
   refine lives_pure rfl hg (fun wV => ?_)
   refine goes_oper_k rfl rfl (by k_ne) (fun W hW => ?_)
   go_simp
   refine hW _ _ ⟨⟨rfl, no_listed (by simp [go_sem])⟩, ?_⟩
   clear hW
   clear W wV
   try walk_nrm
   refine lives_pure rfl hg (fun wV => ?_)
   refine goes_oper_k rfl rfl (by k_ne) (fun W hW => ?_)
   go_simp
   refine hW _ _ ⟨⟨rfl, no_listed (by simp [go_sem])⟩, ?_⟩
   clear hW
   clear W wV
   try walk_nrm
   refine cl_read (o := 0) (v := .int .i64 (x : Int)) s6' rfl fR6 (.inl rfl) rfl fun wV hcell => ?_
   refine goes_oper_k rfl rfl (by k_ne) (fun W hW => ?_)
   go_simp
   refine hW _ _ ⟨⟨rfl, fun e he => by have hm := mem_listed he; simp [go_sem, hcell] at hm; exact hm⟩, ?_⟩
   clear hW hcell
   clear W
   clear wV
   try walk_nrm
   refine lives_pure rfl hg (fun wV => ?_)
   refine goes_oper_k rfl rfl (by k_ne) (fun W hW => ?_)
   go_simp
   refine hW _ _ ⟨⟨rfl, no_listed (by simp [go_sem])⟩, ?_⟩
   clear hW
   clear W wV
   try walk_nrm
   refine cl_read (o := 1) (v := .slice va vn vc) s6' rfl fR6 (.inl rfl) rfl fun wV hcell => ?_
   refine goes_oper_k rfl rfl (by k_ne) (fun W hW => ?_)
   go_simp
   refine hW _ _ ⟨⟨rfl, fun e he => by have hm := mem_listed he; simp [go_sem, hcell] at hm; exact hm⟩, ?_⟩
   clear hW hcell
   clear W
   clear wV
   try walk_nrm
   have hidx : (0 : Int) <= (x : Int) /\ (x : Int) < (n : Int) := ⟨by omega, by omega⟩
   refine lives_pure rfl hg (fun wV => ?_)
   refine goes_oper_k rfl rfl (by k_ne) (fun W hW => ?_)
   go_simp
   refine hW _ _ ⟨⟨rfl, no_listed (by simp [go_sem]; exact events_indexAt_slice _ _ _ _ _ _ (by kernel_rfl) hidx)⟩, ?_⟩
   clear hW
   clear W wV
   try walk_nrm
   have hxs : x < cells.size := by rw [hsz]; exact hxn
   refine cl_store (o := x) (v := .slice va vn vc) s6' rfl fO6 fun wV hH => ?_
   refine goes_oper_k rfl rfl (by k_ne) (fun W hW => ?_)
   have hcell : wV.cell? ⟨Bo, x, none⟩ = some cells[x] := by simp [World.cell?, hH, hxs]
   have hfro : wV.frozen? ⟨Bo, x, none⟩ = false := by simp [World.frozen?, hH]
   go_simp
   refine hW _ _ ⟨rfl, fun e he => by have hm := mem_listed he; simp [go_sem, hcell, hfro] at hm; first | exact hm | (rw [events_store _ _ _ _ _ _ rfl, hcell] at hm; simp [hfro] at hm; exact hm), fun γ7 w7 s7 l7 d7 fO7 => ?_⟩
   clear hW
   clear W hcell hfro hH
   clear wV
   have hpo7 := hpo6.cl l7 (noX fO6 (by decide))
   have hdn7 : ∀ z, z < n -> γ2.done z -> ∃ v, cells[z]? = some v /\ PartOwn γ7 w7 h rows z v := fun z hz q => by
    obtain ⟨v, h1, h2⟩ := hdn6 z hz q
    exact ⟨v, h1, h2.cl l7 (noX fO6 (by decide))⟩
   replace l3 := l3.trans l7 (fun _ q => q) (fun b _ q => by have q' : b = Bo := q; show γ6.hs <= b; omega)
   have hd7 : ∀ z, γ7.done z ↔ γ4.done z := fun z => (d7 z).trans ((d6 z).trans (d5 z))
   have hm7 : left γ7.done n < left γ2.done n := by rw [left_congr fun z _ => hd7 z]; exact hmd
   clear hg
   have hg : γ7.tag 0 ≠ .gone := s7.ng
   try walk_nrm
   refine lives_ctl rfl hg (fun _ => stepG_region_end) ?_
   refine lives_ctl rfl hg (fun _ => stepG_inBlock) ?_
   refine lives_ctl rfl hg (fun _ => stepG_inLoop) ?_
   refine ih _ hm7 _ _ _ ⟨_, _, _, _, _, _, _, _, _, _, _, _, _, _, _, _, _, _, _, _, _, _, _, _, _, _, _, _, _, _, _, _, _, _, cells.setIfInBounds x (.slice va vn vc), rfl, rfl, s7, l3, by assumption, fO7, by simpa using hsz, fun z hz q => ?_⟩
   by_cases e : z = x
   ·subst e
    exact ⟨_, by simp [hxs], hpo7⟩
   ·rcases (hd3 z).1 ((hd7 z).1 q) with q | q
    ·obtain ⟨v, h1, h2⟩ := hdn7 z hz q
     exact ⟨v, by rw [Array.getElem?_setIfInBounds_ne (Ne.symm e)]; exact h1, h2⟩
    ·exact absurd q e
  ·have sH := Solo.home hI hI3 s2.col s2.deaf
   have hcn2 := (hI.coll c s2.col).f.2.2
   rw [cf, cW, cn5] at hcn2
   have hcnH : γ2.home.cnt <= γ.cnt + 17 := by show γ2.cnt <= _; omega
   have hpv : ∀ {b : Nat}, γ2.bk b = .priv 0 \/ γ2.bk b = .fix 0 -> γ2.home.bk b = .priv 0 := fun q => home_not fun s r => by rcases q with q | q <;> (rw [r] at q; cases q)
   have fOH : Fact 0 γ2.home w3 Bo (.priv 0) (.cells cells 35 (0, 0)) := ⟨fO2.lt, hpv (.inl fO2.bk), fO2.heap⟩
   have hmade : PartsMade γ2.home w3 h rows Bo := ⟨cells, fOH, by rw [hsz, hmem.n], fun x hx => by
    rw [<- hmem.n] at hx
    obtain ⟨v, h1, row, ob, h2, h3, h4⟩ := hdn2 x hx (hall x (by rw [cn]; exact hx))
    exact ⟨v, h1, row, ob, h2, h3, fun B o e => by
     have f := h4 B o e
     exact ⟨f.lt, hpv (.inl f.bk), f.heap⟩⟩⟩
   have hsH : γ.hs <= γ2.home.hs := by
    have h1 := l2.hs
    have h2 : γ2.home.hs = γ2.hs := rfl
    omega
   have hbH : ∀ b, b < γ.hs -> γ2.home.bk b = γ.bk b := fun b hb => by
    rcases so.bk b hb with e | ⟨s, e⟩
    ·have e6 := (hbk6 b hb).1 e
     rw [hpv (.inr ((cl_same l2 (by omega) (.inr e6)).trans e6)), e]
    ·have e6 := (hbk6 b hb).2 s e
     rw [e]
     exact home_shd.2 ((l2.bk b (by omega) fun j _ r => by rw [e6] at r; cases r).trans e6)
   have hhH : ∀ b, b < γ.hs -> γ.bk b = .priv 0 -> w3.heap[b]? = w.heap[b]? := fun b hb q => (l2.heap b (by omega) (fun r => by have r' : γ6.hs <= b := r; omega) (.inr ((hbk6 b hb).1 q))).trans (hh6 b hb q)
   have tpH : w3.tape = w.tape := l2.tape.trans tp6
   clear hg
   have hg : γ2.home.tag 0 ≠ .gone := sH.ng
   generalize γ2.home = γ9 at sH hcnH fOH hmade hsH hbH hg ⊢
   walk_nrm
   refine lives_pure rfl hg (fun wV => ?_)
   refine goes_oper_k rfl rfl (by k_ne) (fun W hW => ?_)
   go_simp
   refine hW _ _ ⟨⟨rfl, no_listed (by simp [go_sem])⟩, ?_⟩
   clear hW
   clear W wV
   try walk_nrm
   refine lives_ctl rfl hg (fun _ => stepG_region_end) ?_
   refine lives_ctl rfl hg (fun _ => stepG_seq) ?_
   refine lives_ctl rfl hg (fun _ => stepG_cond (t := false) rfl) ?_
   simp only [if_true, if_false, Bool.false_eq_true, ↓reduceIte]
   refine lives_ctl rfl hg (fun _ => stepG_exit rfl) ?_
   refine lives_ctl rfl hg (fun _ => stepG_seq) ?_
   refine lives_ctl rfl hg (fun _ => stepG_region) ?_
   simp only [List.size_toArray, List.length_cons, List.length_nil, Nat.reduceAdd, Nat.zero_add, List.range, List.range.loop]
   refine lives_pure rfl hg (fun wV => ?_)
   refine goes_oper_k rfl rfl (by k_ne) (fun W hW => ?_)
   go_simp
   refine hW _ _ ⟨⟨rfl, no_listed (by simp [go_sem])⟩, ?_⟩
   clear hW
   clear W wV
   try walk_nrm
   refine lives_pure rfl hg (fun wV => ?_)
   refine goes_oper_k rfl rfl (by k_ne) (fun W hW => ?_)
   go_simp
   refine hW _ _ ⟨⟨rfl, no_listed (by simp [go_sem])⟩, ?_⟩
   clear hW
   clear W wV
   try walk_nrm
   refine lives_pure rfl hg (fun wV => ?_)
   refine goes_oper_k rfl rfl (by k_ne) (fun W hW => ?_)
   go_simp
   refine hW _ _ ⟨⟨rfl, no_listed (by simp [go_sem])⟩, ?_⟩
   clear hW
   clear W wV
   try walk_nrm
   refine lives_ctl rfl hg (fun _ => stepG_region_end) ?_
   refine lives_ctl rfl hg (fun _ => stepG_ret') ?_
   refine lives_ctl rfl hg (fun _ => stepG_leave (v := .tuple #[.slice (some ⟨Bo, 0, none⟩) n n, .int .i64 0]) rfl rfl Tryz.func6 (by kernel_rfl) (by kernel_rfl)) ?_
   exact hK γ9 w3 Bo sH hsH hcnH hbH hhH tpH hmade
 ·have hj0 : γ5.cnt ≠ 0 := by omega
  have hi0 : (γ5.cnt == 0) = false := by simpa using hj0
  have tc : (γ5.fork c Fx).tag γ5.cnt = .pre := upd_same _ _ _
  have sn : ∀ {b o : Nat} {v : Value}, b < γ5.hs -> γ5.bk b = .priv 0 -> w5.cell? ⟨b, o, none⟩ = some v -> (snapW γ5 γ5.hs w5).cell? ⟨b, o, none⟩ = some v := fun h1 h2 h3 => snap_cell_of h2 (by omega) h3
  have cl : ∀ {b o : Nat} {v : Value} {cs : Array Value} {t : TypeId}, Fact 0 γ5 w5 b (.priv 0) (.cells cs t (0, 0)) -> cs[o]? = some v -> (snapW γ5 γ5.hs w5).cell? ⟨b, o, none⟩ = some v := fun f e => sn f.lt f.bk (by simp [World.cell?, f.heap, e])
  show LV Tryz.prog wgLink.tWg top Post γ5.cnt (γ5.fork c Fx) w5 _
  refine lives_ctl rfl (by rw [tc]; simp) (fun w => by rw [hi0]; exact born_one _ w rfl) ?_
  refine lives_partsone (Hw := snapW γ5 γ5.hs w5) (rows := rows) (la := la) (lc := lc) (n := n) (W0 := W0) (SB := SB) (LB := LB) (DB := DB) (WB := WB) hG ⟨⟨hp5, .inr ⟨hj0, c, rfl, cf, tc⟩⟩, .inr tc, upd_same _ _ _, s5.hs⟩ hj0 hp5 rfl cf tc (fun b o v hv => ?_) (fun b _ _ => by rw [cH]) (fun p hpn => ?_) (cl fL5 rfl) (cl fW5 rfl) (by rw [cg]; exact fun x v ob q => q) hn cn.symm (by rw [cW]; exact Nat.le_refl _) hW (by omega) (by show γ5.cnt + 1 + W0 <= top; omega) (by show _ <= γ5.hs; omega)
  ·obtain ⟨h1, h2, h3, h4⟩ := snap_cell hv
   have hlt : b < γ5.hs := by rw [s5.hs]; exact h3
   exact ⟨⟨hlt, fxb b hlt h1⟩, by rw [cH, snap_of h1 h2]⟩
  ·have hm5 := hmem.keeps (snap_keeps2 (γ' := γ5) (w' := w5) (out' := γ5.hs) (fun b hb q => (bk5 b hb).trans q) so.hs (fun b hb q => L.heap b hb (Nat.not_le.2 hb) (.inl q)) lo5)
   obtain ⟨m1, ⟨lb, lo, m2, m3⟩, m4⟩ := hm5
   have hlb5 : (snapW γ5 γ5.hs w5).cell? ⟨LB, 0, none⟩ = some (.slice la n lc) := cl fL5 rfl
   have hdb5 : (snapW γ5 γ5.hs w5).cell? ⟨DB, 0, none⟩ = some (.chan (some Bc)) := cl fD rfl
   refine ⟨hpn.trans m1, by omega, cl fS5 rfl, cl fS5 rfl, cl fS5 rfl, cl fS5 rfl, cl fS5 rfl, ⟨lb, lo, lc, fun q => by rw [hlb5, m2 q, hpn], fun x row hx => ?_⟩, by rw [hdb5, cdn], m4⟩
   obtain ⟨_, q⟩ := m3 x row hx
   exact ⟨hshort row (List.mem_of_getElem? hx), q⟩
end
end Go.Proofs.YtbicafgmfgdckaaGreatDoor
