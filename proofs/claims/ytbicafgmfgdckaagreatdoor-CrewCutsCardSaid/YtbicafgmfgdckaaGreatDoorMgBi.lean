/- Parts' goroutine. The crew's pact: main collects. For any program. The crew's pact: main by itself, lone calls and the rest of a function. For any program. What main holds by itself: rows in its own blocks, as the company's world has them and as a lone call sees them. The law's own functions and the references pass the test of transfer. each, by main. -/
import Derived.Test.YtbicafgmfgdckaaGreatDoorMgBf
import Derived.Test.YtbicafgmfgdckaaGreatDoorMgBh
import Derived.Test.YtbicafgmfgdckaaGreatDoorMgBg
import Derived.Test.YtbicafgmfgdckaaGreatDoorMgBe
import Derived.Test.YtbicafgmfgdckaaGreatDoorMgAt
import Derived.Test.YtbicafgmfgdckaaGreatDoorMgAr
import Derived.Test.YtbicafgmfgdckaaGreatDoorMgAl
import Derived.Test.YtbicafgmfgdckaaGreatDoorProg
import Derived.KernelRfl
namespace Go.Proofs.YtbicafgmfgdckaaGreatDoor
open Go Go.RowKit Go.Conc Go.Conc.Lib Go.ConcR.Gen
open Go.ConcR (KK wgBlock WgAt stA smA rd wr mk DC0)
open Go.ConcN (sumTo upd upd_same upd_ne RelBy PermW WgLive)
def SnapC (γ : Gho) (c : Col) (Hw : World) : Prop := ∀ b o v, Hw.cell? ⟨b, o, none⟩ = some v -> (b < γ.hs /\ γ.bk b = .fix 0) /\ c.H b = Hw.heap[b]?
section
variable {top : Nat} {γ γ' γ2 : Gho} {p : Ph} {c : Col} {w w' w2 : World} {i j k n W0 : Nat} {Post : Value -> World -> Prop} {es : Array Event} {g g' : Goroutine} {Hw : World} {SB LB DB WB dn : Nat}
theorem SnapC.keeps {ty : TypeId} (s : SnapC γ c Hw) (hI : GInv ty top γ2 w2) (hc : γ2.col = some c) (hb : ∀ b, b < γ.hs -> γ.bk b = .fix 0 -> b < γ2.hs /\ γ2.bk b = .fix 0) : Keeps Hw w2 := by
 rintro ⟨b, o, sp⟩ v h
 cases sp with
 | some sp =>
  exfalso
  unfold World.cell? at h
  cases hb : Hw.heap[b]? with
  | none => simp [hb] at h
  | some ob => cases ob <;> simp [hb] at h
 | none =>
  obtain ⟨⟨h1, h2⟩, hH⟩ := s b o v h
  obtain ⟨q1, q2⟩ := hb b h1 h2
  have e := (hI.coll c hc).fix b q1 q2
  unfold World.cell? at h ⊢
  rw [e, hH]
  exact h
theorem quitsOne (T : Array Value) (todo : List Item) : QuitsD Tryz.prog 2 0 (G { (baseD 21).at ⟨T, []⟩ todo with mode := .returning } [bot]) := by
 refine QuitsD.ctl (g' := G bot []) rfl (fun w => ?_) ?_
 ·simp [G, stepG, unwind, doReturn, results, Frame.at, baseD, bot, Tryz.func21, Tryz.f21, seen, GStep.after, goexitEntry]
 refine QuitsD.ctl (g' := { G bot [] with status := .finished }) rfl (fun w => ?_) ⟨rfl, rfl⟩
 simp [G, stepG, unwind, bot, goexitEntry, Frame.catches]
 rfl
set_option maxRecDepth 100000 in
set_option maxHeartbeats 8000000 in
theorem lives_partsone {h : CutMath.Sh} {rows : List (List (BitVec 8))} {la : Option Addr} {lc : Nat} (hG : h.Good) (s0 : Lon i γ w) (hi0 : i ≠ 0) (hp : γ.ph = none) (hc : γ.col = some c) (hf : c.f = i) (ht : γ.tag i = .pre) (hS : SnapC γ c Hw) (hfix : ∀ b, b < γ.hs -> γ.bk b = .fix 0 -> w.heap[b]? = c.H b)
  (hIn : ∀ p : Ph, p.n = n -> PartsIn p h Hw SB LB DB c.dn rows) (hLB : Hw.cell? ⟨LB, 0, none⟩ = some (.slice la n lc)) (hWB : Hw.cell? ⟨WB, 0, none⟩ = some (.int .i64 W0)) (hgood : ∀ x v ob, PartGood h rows x v ob -> c.good x v ob)
  (hn : n <= 1000) (hcn : n = c.n) (hcW : W0 <= c.W) (hW : 1 <= W0) (hW2 : W0 <= 1000) (hcnt : γ.cnt + W0 <= top) (hgl : Tryz.prog.globals.size <= γ.hs) :
  LV Tryz.prog wgLink.tWg top Post i γ w (G ((baseD 21).at ⟨#[.pointer (some ⟨DB, 0, none⟩), .pointer (some ⟨LB, 0, none⟩), .pointer (some ⟨WB, 0, none⟩), .pointer (some ⟨SB, 0, none⟩)] ++ Array.replicate 6 undef, []⟩ [.code (Tryz.f21.body.getD .skip)]) [bot]) := by
 have HCN := Lib.hid hcn
 clear hcn
 have hg : γ.tag i ≠ .gone := s0.ng
 have hs : ¬ (γ.tag i).tied := s0.ns
 obtain ⟨p0, hp0⟩ : ∃ p : Ph, p.n = n := ⟨⟨0, 0, 0, n, 0, 0, 0, 0, 0, fun _ => none, fun _ _ => undef, .hand⟩, rfl⟩
 have hDB := (hIn p0 hp0).db
 have hbk2 : ∀ {γ2 w2 : _}, RelL i γ w γ2 w2 -> ∀ b, b < γ.hs -> γ.bk b = .fix 0 -> b < γ2.hs /\ γ2.bk b = .fix 0 := fun l b h1 h2 => ⟨Nat.lt_of_lt_of_le h1 l.hs, (l.bk b h1 fun j _ e => by rw [h2] at e; cases e).trans h2⟩
 have hFX : ∀ b o v, Hw.cell? ⟨b, o, none⟩ = some v -> γ.F i b := fun b o v e => ⟨(hS b o v e).1.1, 0, Nat.zero_le _, (hS b o v e).1.2⟩
 simp only [Tryz.f21, Option.getD_some]
 walk_nrm
 refine lives_ctl rfl hg (fun _ => stepG_seq) ?_
 refine lives_ctl rfl hg (fun _ => stepG_region) ?_
 simp only [List.size_toArray, List.length_cons, List.length_nil, Nat.reduceAdd, Nat.zero_add, List.range, List.range.loop]
 refine lives_read rfl hs (fun γV wV hrl hIV => ?_)
 have hcell : wV.cell? ⟨DB, 0, none⟩ = some (.chan (some c.dn)) := (hS.keeps hIV ((hrl.live hg).col.trans hc) (hbk2 (hrl.live hg))) _ _ hDB
 refine goes_oper_k rfl rfl (by k_ne) (fun W hW => ?_)
 go_simp
 refine hW _ _ ⟨⟨rfl, fun e he => ?_⟩, ?_⟩
 ·have hm := mem_listed he
  simp [go_sem, hcell] at hm
  subst hm
  exact .inl ⟨_, rfl, rfl, .inr ⟨(hrl.live hg).kw.F (hFX _ _ _ hDB), rfl⟩⟩
 clear hW hcell
 clear W
 clear hrl hIV
 clear γV wV
 try walk_nrm
 refine lives_ctl rfl hg (fun _ => stepG_defer_close rfl rfl (by k_ne) rfl) ?_
 try walk_nrm
 refine lives_ctl rfl hg (fun _ => stepG_region_end) ?_
 refine lives_ctl rfl hg (fun _ => stepG_region) ?_
 simp only [List.size_toArray, List.length_cons, List.length_nil, Nat.reduceAdd, Nat.zero_add, List.range, List.range.loop]
 refine lives_read rfl hs (fun γV wV hrl hIV => ?_)
 have hcell : wV.cell? ⟨LB, 0, none⟩ = some (.slice la n lc) := (hS.keeps hIV ((hrl.live hg).col.trans hc) (hbk2 (hrl.live hg))) _ _ hLB
 refine goes_oper_k rfl rfl (by k_ne) (fun W hW => ?_)
 go_simp
 refine hW _ _ ⟨⟨rfl, fun e he => ?_⟩, ?_⟩
 ·have hm := mem_listed he
  simp [go_sem, hcell] at hm
  subst hm
  exact .inl ⟨_, rfl, rfl, .inr ⟨(hrl.live hg).kw.F (hFX _ _ _ hLB), rfl⟩⟩
 clear hW hcell
 clear W
 clear hrl hIV
 clear γV wV
 try walk_nrm
 refine lives_pure rfl hg (fun wV => ?_)
 refine goes_oper_k rfl rfl (by k_ne) (fun W hW => ?_)
 go_simp
 refine hW _ _ ⟨⟨rfl, no_listed (by simp [go_sem])⟩, ?_⟩
 clear hW
 clear W wV
 try walk_nrm
 refine lives_read rfl hs (fun γV wV hrl hIV => ?_)
 have hcell : wV.cell? ⟨WB, 0, none⟩ = some (.int .i64 W0) := (hS.keeps hIV ((hrl.live hg).col.trans hc) (hbk2 (hrl.live hg))) _ _ hWB
 refine goes_oper_k rfl rfl (by k_ne) (fun W hW => ?_)
 go_simp
 refine hW _ _ ⟨⟨rfl, fun e he => ?_⟩, ?_⟩
 ·have hm := mem_listed he
  simp [go_sem, hcell] at hm
  subst hm
  exact .inl ⟨_, rfl, rfl, .inr ⟨(hrl.live hg).kw.F (hFX _ _ _ hWB), rfl⟩⟩
 clear hW hcell
 clear W
 clear hrl hIV
 clear γV wV
 try walk_nrm
 refine lives_pure rfl hg (fun wV => ?_)
 refine goes_oper_k rfl rfl (by k_ne) (fun W hW => ?_)
 go_simp
 refine hW _ _ ⟨⟨rfl, no_listed (by simp [go_sem])⟩, ?_⟩
 clear hW
 clear W wV
 try walk_nrm
 refine lives_ctl rfl hg (fun _ => stepG_callv (first := #[]) (caps := #[]) (vs := #[.int .i64 n, .int .i64 W0, .func (.func 23) #[] #[.pointer (some ⟨SB, 0, none⟩), .pointer (some ⟨LB, 0, none⟩), .pointer (some ⟨DB, 0, none⟩)]]) rfl rfl (by k_ne) rfl rfl (by simp [Act.eval]) Tryz.func22 (by kernel_rfl) rfl) ?_
 refine lives_each_any (kind := .hand) (out := 0) (oty := 0) (val := fun _ _ => undef) s0 Tryz.func23 rfl (by kernel_rfl) hn hW hW2 hcnt (.inr ⟨c, hc, rfl, HCN.out, hcW⟩) (by simp) (fun q => by cases q) (fun p γ' w' j q1 q2 q3 q4 q5 q6 q7 q8 q9 q10 q11 => ?_) fun p γE wE γ6 w6 γ7 w7 sE L e1 e2 e3 e4 e5 e6 e7 e8 e9 hk6 hp6 ht6 hd6 hI6 hrl7 => ?_
 ·refine parts_job hG (fun b o v hv => ?_) (hIn p q4) (q11.trans hc) rfl hgood q2 q3 (Nat.le_trans hgl q10)
  obtain ⟨⟨h1, h2⟩, h3⟩ := hS b o v hv
  obtain ⟨h4, h5⟩ := q9 b h1 (.inr ⟨0, Nat.zero_le _, h2⟩)
  exact ⟨h4, by rw [h5, hfix b h1 h2, h3]⟩
 ·have epast : γ6.past p = γ6.rest i := by unfold Gho.past; rw [if_neg (by omega), e1]
  rw [epast] at hrl7
  have ht6' : (γ6.rest i).tag i = .fin := upd_same _ _ _
  have hg6 : (γ6.rest i).tag i ≠ .gone := by rw [ht6']; simp
  have l7 := hrl7.live hg6
  have hp7 : γ7.ph = none := l7.pn rfl (.inl hi0)
  have ht7 : γ7.tag i = .fin := hrl7.tag.trans ht6'
  have hd7 : γ7.deaf i = 0 := hrl7.deaf.trans hd6
  have hc7 : γ7.col = some c := by rw [l7.col]; show γ6.col = _; rw [hk6.col]; show γE.col = _; rw [L.col, hc]
  clear hg hs
  have hg : γ7.tag i ≠ .gone := by rw [ht7]; simp
  rw [Frame.finish_at]
  walk_nrm
  refine lives_ctl rfl hg (fun _ => stepG_region_end) ?_
  refine lives_ctl rfl hg (fun _ => stepG_end) ?_
  exact lives_shut (q := 2) rfl hp7 hc7 hf hi0 ht7 hd7 (quitsOne _ _)
end
end Go.Proofs.YtbicafgmfgdckaaGreatDoor
namespace Go.Proofs.YtbicafgmfgdckaaGreatDoor
open Go Go.Conc
open Go.ConcR (KK wgBlock WgAt stA smA rd wr mk DC0)
open Go.ConcN (sumTo upd upd_same upd_ne RelBy PermW WgLive)
section
variable {ty : TypeId} {top : Nat} {γ γ' γ1 γ2 : Gho} {p : Ph} {c : Col} {w w' w1 w2 : World} {i j n : Nat} {P : Program} {Post : Value -> World -> Prop} {es : Array Event} {g g' : Goroutine} {b : Frame} {a : Act} {k : List Item} {cs : List Frame}
structure Cl (c : Col) (γ : Gho) (w : World) : Prop where
 col : γ.col = some c
 tag : γ.tag 0 = .coll
 deaf : γ.deaf 0 = 0
 hs : γ.hs = w.heap.size
theorem Cl.ng (s : Cl c γ w) : γ.tag 0 ≠ .gone := by rw [s.tag]; simp
theorem Cl.ns (s : Cl c γ w) : ¬ (γ.tag 0).tied := by rw [s.tag]; exact fun h => h
structure ClLater (X : Nat -> Prop) (γ : Gho) (w : World) (γ' : Gho) (w' : World) : Prop where
 hs : γ.hs <= γ'.hs
 bk : ∀ b, b < γ.hs -> (∀ j, j ≠ 0 -> γ.bk b ≠ .priv j) -> γ'.bk b = γ.bk b
 heap : ∀ b, b < γ.hs -> ¬ X b -> (γ.bk b = .priv 0 \/ γ.bk b = .fix 0) -> w'.heap[b]? = w.heap[b]?
 tape : w'.tape = w.tape
theorem cl_same {X : Nat -> Prop} (l : ClLater X γ w γ' w') {b : Nat} (hb : b < γ.hs) (h : γ.bk b = .priv 0 \/ γ.bk b = .fix 0) : γ'.bk b = γ.bk b := l.bk b hb fun j hj e => by
 rcases h with q | q <;> (rw [q] at e; cases e)
 exact hj rfl
theorem ClLater.trans {X Y Z : Nat -> Prop} (h : ClLater X γ w γ1 w1) (h' : ClLater Y γ1 w1 γ2 w2) (hX : ∀ b, X b -> Z b) (hY : ∀ b, b < γ.hs -> Y b -> Z b) : ClLater Z γ w γ2 w2 := by
 refine ⟨Nat.le_trans h.hs h'.hs, fun b hb hj => ?_, fun b hb hx q => ?_, h'.tape.trans h.tape⟩
 ·have e1 := h.bk b hb hj
  exact (h'.bk b (Nat.lt_of_lt_of_le hb h.hs) fun j hj' => by rw [e1]; exact hj j hj').trans e1
 ·exact (h'.heap b (Nat.lt_of_lt_of_le hb h.hs) (fun r => hx (hY b hb r)) (by rw [cl_same h hb q]; exact q)).trans (h.heap b hb (fun r => hx (hX b r)) q)
theorem ClLater.weak {X Y : Nat -> Prop} (h : ClLater X γ w γ' w') (hX : ∀ b, b < γ.hs -> X b -> Y b) : ClLater Y γ w γ' w' := ⟨h.hs, h.bk, fun b hb hn q => h.heap b hb (fun r => hn (hX b hb r)) q, h.tape⟩
theorem Fact.cl {X : Nat -> Prop} {b : Nat} {k : BK} {o : Obj} (h : Fact 0 γ w b k o) (hk : k = .priv 0 \/ k = .fix 0) (l : ClLater X γ w γ' w') (hx : ¬ X b) : Fact 0 γ' w' b k o := by
 have q : γ.bk b = .priv 0 \/ γ.bk b = .fix 0 := by rw [h.bk]; exact hk
 exact ⟨Nat.lt_of_lt_of_le h.lt l.hs, (cl_same l h.lt q).trans h.bk, (l.heap b h.lt hx q).trans h.heap⟩
theorem Cl.rel (s : Cl c γ w) (hI : GInv ty top γ2 w2) (h : Rel 0 γ w γ2 w2) : Cl c γ2 w2 /\ ClLater (fun _ => False) γ w γ2 w2 /\ ∀ x, γ2.done x ↔ γ.done x := by
 have l := h.live s.ng
 refine ⟨⟨l.col.trans s.col, h.tag.trans s.tag, h.deaf.trans s.deaf, hI.hs⟩, ⟨l.hs, l.bk, fun b hb _ q => ?_, l.tape⟩, l.done rfl (by rw [s.col]; simp)⟩
 rcases q with q | q
 ·exact l.keep b hb (.inl q)
 ·exact l.keep b hb (.inr ⟨0, Nat.zero_le _, q⟩)
theorem cl_own {X : Nat -> Prop} (s : Cl c γ w) (hr : g.status = .running) (h : ∀ γ2 w2, Cl c γ2 w2 -> ClLater (fun _ => False) γ w γ2 w2 -> ∃ g' w' es, stepG P true g w2 = .go g' w' es /\ Own (γ2.S 0) (γ2.F 0) w2 w' es /\ (∀ b, b < w2.heap.size -> ¬ X b -> w'.heap[b]? = w2.heap[b]?) /\
  ∀ γ', Cl c γ' w' -> ClLater X γ w γ' w' -> (∀ x, γ'.done x ↔ γ.done x) -> (∀ b, w2.heap.size <= b -> b < w'.heap.size -> γ'.bk b = .priv 0) -> LV P ty top Post 0 γ' w' g') : LV P ty top Post 0 γ w g := by
 refine lives_step hr s.ng fun γ2 w2 hrl hI hi => ?_
 obtain ⟨s2, l2, d2⟩ := s.rel hI hrl
 obtain ⟨g', w', es, hst, ho, hX, hK⟩ := h γ2 w2 s2 l2
 have hle := ho.size
 have l3 : ClLater X γ2 w2 (γ2.grown 0 w') w' := ⟨by show γ2.hs <= w'.heap.size; rw [s2.hs]; exact hle, fun b hb _ => grown_bk hb, fun b hb hn _ => hX b (by rw [<- s2.hs]; exact hb) hn, ho.tape⟩
 exact .go g' w' es _ hst (do_own hI hi (by exact s2.ns) ho _) (hK _ ⟨s2.col, s2.tag, s2.deaf, rfl⟩ (l2.trans l3 (fun _ q => q.elim) fun _ _ q => q) d2 fun b h1 h2 => grown_new (by rw [s2.hs]; exact h1))
theorem cl_push (s : Cl c γ w) (hr : g.status = .running) (h : ∀ w2, (stepG P true g w2).goes fun g' w' es => ∃ o, w'.heap = w2.heap.push o /\ w'.tape = w2.tape /\ w'.os = w2.os /\ w'.output = w2.output /\ (∀ e ∈ es, False) /\
  ∀ γ' w1, Cl c γ' w1 -> ClLater (fun _ => False) γ w γ' w1 -> (∀ x, γ'.done x ↔ γ.done x) -> γ.hs <= w2.heap.size -> Fact 0 γ' w1 w2.heap.size (.priv 0) o -> LV P ty top Post 0 γ' w1 g') : LV P ty top Post 0 γ w g := by
 refine cl_own (X := fun _ => False) s hr fun γ2 w2 s2 l2 => ?_
 obtain ⟨g', w', es, hst, o, e1, e2, e3, e4, e5, hK⟩ := goes_inv (h w2)
 have hsz : w'.heap.size = w2.heap.size + 1 := by rw [e1]; simp
 have hold : ∀ b, b < w2.heap.size -> w'.heap[b]? = w2.heap[b]? := fun b hb => by rw [e1, Array.getElem?_push, if_neg (Nat.ne_of_lt hb)]
 have hnew : w'.heap[w2.heap.size]? = some o := by rw [e1, Array.getElem?_push, if_pos rfl]
 refine ⟨g', w', es, hst, own_push e1 e2 e3 e4 e5, fun b hb _ => hold b hb, fun γ' s' l' d' nw => hK γ' w' s' l' d' (by rw [<- s2.hs]; exact l2.hs) ⟨by rw [s'.hs, hsz]; exact Nat.lt_succ_self _, nw _ (Nat.le_refl _) (by rw [hsz]; exact Nat.lt_succ_self _), hnew⟩⟩
theorem cl_store {B o : Nat} {v : Value} {cl : Array Value} {t : TypeId} (s : Cl c γ w) (hr : g.status = .running) (f : Fact 0 γ w B (.priv 0) (.cells cl t (0, 0))) (h : ∀ w2, w2.heap[B]? = some (.cells cl t (0, 0)) -> (stepG P true g w2).goes fun g' w' es => w' = w2.setCell ⟨B, o, none⟩ v /\ (∀ e ∈ es, e = ⟨.cell ⟨B, o, none⟩, true, false⟩) /\
  ∀ γ' w1, Cl c γ' w1 -> ClLater (fun b => b = B) γ w γ' w1 -> (∀ x, γ'.done x ↔ γ.done x) -> Fact 0 γ' w1 B (.priv 0) (.cells (cl.setIfInBounds o v) t (0, 0)) -> LV P ty top Post 0 γ' w1 g') : LV P ty top Post 0 γ w g := by
 refine cl_own (X := fun b => b = B) s hr fun γ2 w2 s2 l2 => ?_
 have f2 := f.cl (.inl rfl) l2 id
 obtain ⟨g', w', es, hst, e1, e2, hK⟩ := goes_inv (h w2 f2.heap)
 subst e1
 have hsz : (w2.setCell ⟨B, o, none⟩ v).heap.size = w2.heap.size := size_cell _ _ _
 refine ⟨g', _, es, hst, own_set w2 _ _ ⟨f2.lt, f2.bk⟩ e2, fun b hb hx => heap_cell_ne _ _ _ hx, fun γ' s' l' d' nw => hK γ' _ s' l' d' ⟨by rw [s'.hs, hsz, <- s2.hs]; exact f2.lt, (cl_same l' f.lt (.inl f.bk)).trans f.bk, ?_⟩⟩
 rw [heap_setCell, if_pos rfl, f2.heap]
 simp
theorem cl_row {B : Nat} {cl cl' : Array Value} {t : TypeId} (s : Cl c γ w) (hr : g.status = .running) (f : Fact 0 γ w B (.priv 0) (.cells cl t (0, 0))) (h : ∀ w2, w2.heap[B]? = some (.cells cl t (0, 0)) -> ∃ g' es, stepG P true g w2 = .go g' (w2.setRow B cl') es /\ (∀ e ∈ es, ∃ o, e = ⟨.cell ⟨B, o, none⟩, true, false⟩) /\
  ∀ γ' w1, Cl c γ' w1 -> ClLater (fun b => b = B) γ w γ' w1 -> (∀ x, γ'.done x ↔ γ.done x) -> Fact 0 γ' w1 B (.priv 0) (.cells cl' t (0, 0)) -> LV P ty top Post 0 γ' w1 g') : LV P ty top Post 0 γ w g := by
 refine cl_own (X := fun b => b = B) s hr fun γ2 w2 s2 l2 => ?_
 have f2 := f.cl (.inl rfl) l2 id
 obtain ⟨g', es, hst, e2, hK⟩ := h w2 f2.heap
 have hsz : (w2.setRow B cl').heap.size = w2.heap.size := by simp [World.setRow]
 refine ⟨g', _, es, hst, ⟨Nat.le_of_eq hsz.symm, rfl, rfl, rfl, fun b hb hn => setRow_other _ _ _ _ fun q => hn (by rw [q]; exact ⟨f2.lt, f2.bk⟩), fun e he => ?_⟩, fun b hb hx => setRow_other _ _ _ _ hx, fun γ' s' l' d' nw => hK γ' _ s' l' d' ⟨by rw [s'.hs, hsz, <- s2.hs]; exact f2.lt, (cl_same l' f.lt (.inl f.bk)).trans f.bk, setRow_heap _ _ _ _ _ _ f2.heap⟩⟩
 obtain ⟨o, rfl⟩ := e2 e he
 exact .inl ⟨_, rfl, rfl, .inl (.inl ⟨f2.lt, f2.bk⟩)⟩
theorem cl_read {B o : Nat} {v : Value} {kk : BK} {cl : Array Value} {t : TypeId} {m : Nat × Nat} (s : Cl c γ w) (hr : g.status = .running) (f : Fact 0 γ w B kk (.cells cl t m)) (hk : kk = .priv 0 \/ kk = .fix 0) (ho : cl[o]? = some v) (h : ∀ w2, w2.cell? ⟨B, o, none⟩ = some v -> (stepG P true g w2).goes fun g' w' es => (w' = w2 /\ ∀ e ∈ es, e = ⟨.cell ⟨B, o, none⟩, false, false⟩) /\ LV P ty top Post 0 γ w g') : LV P ty top Post 0 γ w g := by
 refine lives_read hr s.ns fun γ2 w2 hrl hI => ?_
 obtain ⟨s2, l2, _⟩ := s.rel hI hrl
 have f2 := f.cl hk l2 id
 have hc : w2.cell? ⟨B, o, none⟩ = some v := by simp [World.cell?, f2.heap, ho]
 obtain ⟨g', w', es, hst, ⟨e1, e2⟩, e3⟩ := goes_inv (h w2 hc)
 rw [show stepG P (0 == 0) g w2 = _ from hst]
 refine ⟨⟨e1, fun e he => ?_⟩, e3⟩
 rw [e2 e he]
 refine .inl ⟨_, rfl, rfl, ?_⟩
 rcases hk with rfl | rfl
 ·exact .inl ⟨f2.lt, f2.bk⟩
 ·exact .inr ⟨⟨f2.lt, 0, Nat.zero_le _, f2.bk⟩, rfl⟩
open Classical in
noncomputable def left (d : Nat -> Prop) : Nat -> Nat
 | 0 => 0
 | n + 1 => left d n + if d n then 0 else 1
theorem left_congr {d d' : Nat -> Prop} : ∀ {n : Nat}, (∀ z, z < n -> (d' z ↔ d z)) -> left d' n = left d n
 | 0, _ => rfl
 | n + 1, h => by
  have e := h n (Nat.lt_succ_self _)
  unfold left
  rw [left_congr fun z hz => h z (Nat.lt_succ_of_lt hz)]
  by_cases q : d n
  ·rw [if_pos q, if_pos (e.2 q)]
  ·rw [if_neg q, if_neg fun r => q (e.1 r)]
theorem left_lt {d d' : Nat -> Prop} {x : Nat} (hd : ∀ z, d' z ↔ d z \/ z = x) (hn : ¬ d x) : ∀ {n : Nat}, x < n -> left d' n < left d n
 | 0, h => by omega
 | n + 1, h => by
  unfold left
  by_cases e : x = n
  ·subst e
   rw [left_congr fun z hz => (hd z).trans ⟨fun q => q.resolve_right (by omega), .inl⟩, if_neg hn, if_pos ((hd x).2 (.inr rfl))]
   omega
  ·have h1 := left_lt hd hn (n := n) (by omega)
   have h2 : d' n ↔ d n := (hd n).trans ⟨fun q => q.resolve_right (fun r => e r.symm), .inl⟩
   by_cases q : d n
   ·rw [if_pos q, if_pos (h2.2 q)]
    omega
   ·rw [if_neg q, if_neg fun r => q (h2.1 r)]
    omega
end
end Go.Proofs.YtbicafgmfgdckaaGreatDoor
namespace Go.Proofs.YtbicafgmfgdckaaGreatDoor
open Go Go.Conc
open Go.ConcR (KK wgBlock WgAt stA smA rd wr mk DC0)
open Go.ConcN (sumTo upd upd_same upd_ne RelBy PermW WgLive)
section
variable {ty : TypeId} {top : Nat} {γ γ' γ2 : Gho} {p : Ph} {w w' w2 : World} {i j n : Nat} {P : Program} {Post : Value -> World -> Prop} {es : Array Event} {g g' : Goroutine} {c b : Frame} {rest : List Frame} {F T : Nat -> Prop}
theorem lives_wayA {K : (Nat -> Prop) -> Goroutine -> World -> Prop} {S : Nat -> Prop} (h : WayA P F K S g w) : ∀ γ, Solo γ w -> (∀ b, S b -> γ.S 0 b) -> (∀ b, F b -> γ.S 0 b) ->
  (∀ S' g' w' γ', Solo γ' w' -> Later2 γ γ' -> (∀ b, γ.hs <= b -> b < γ'.hs -> γ'.bk b = .priv 0) -> (∀ b, b < γ.hs -> ¬ S b -> w'.heap[b]? = w.heap[b]?) -> w'.tape = w.tape -> (∀ b, S' b -> S b \/ γ.hs <= b) -> K S' g' w' -> LV P ty top Post 0 γ' w' g') -> LV P ty top Post 0 γ w g := by
 induction h with
 | stop h => intro γ s _ _ hK; exact hK _ _ _ γ s (.refl _) (fun b h1 h2 => by omega) (fun _ _ _ => rfl) rfl (fun _ q => .inl q) h
 | @step S g w hg h k ih =>
  intro γ s hS hF hK
  refine solo_own s hg fun w2 e1 e2 => ?_
  obtain ⟨g1, w3, es, h1, h2⟩ := h w2 ⟨e1, e2⟩
  refine ⟨g1, w3, es, h1, ⟨h2.size, h2.tape, h2.os, h2.output, fun b hb hn => h2.old b hb fun q => hn (hS b q), fun e he => ?_⟩, fun γ' s' l hnew => ?_⟩
  ·have hgr : ∀ b, grow S w2 w3 b -> grow (γ.S 0) w2 w3 b := fun b hb => hb.imp (hS b) id
   rcases h2.ev e he with ⟨ad, q1, q2, q3⟩ | q | ⟨r, q1, q2, q3⟩
   ·exact .inl ⟨ad, q1, q2, .inl (q3.elim (hgr _) fun q => .inl (hF _ q.1))⟩
   ·exact .inr (.inl q)
   ·exact .inr (.inr ⟨r, q1, .inl (q2.elim (hgr _) fun q => .inl (hF _ q)), q3⟩)
  ·have hs2 : γ.hs = w2.heap.size := by rw [e1]; exact s.hs
   refine ih w2 g1 w3 es ⟨e1, e2⟩ h1 γ' s' (fun b hb => ?_) (fun b hb => ?_) fun S' g' w' γ'' s'' l' hnew' hold htp hS' hk => hK S' g' w' γ'' s'' (l.trans l') (fun b h3 h4 => ?_) (fun b h3 h4 => ?_) (htp.trans (h2.tape.trans e2)) (fun b q => ?_) hk
   ·rcases hb with hb | ⟨h3, h4⟩
    ·obtain ⟨q1, q2⟩ := hS b hb
     exact ⟨Nat.lt_of_lt_of_le q1 l.hs, (l.bk b q1).trans q2⟩
    ·exact ⟨by rw [s'.hs]; exact h4, hnew b (by omega) h4⟩
   ·obtain ⟨q1, q2⟩ := hF b hb
    exact ⟨Nat.lt_of_lt_of_le q1 l.hs, (l.bk b q1).trans q2⟩
   ·by_cases q : b < γ'.hs
    ·rw [l'.bk b q]; exact hnew b h3 (by rw [<- s'.hs]; exact q)
    ·exact hnew' b (by omega) h4
   ·have h5 : b < w2.heap.size := by omega
    refine (hold b (by have := l.hs; omega) fun q => q.elim h4 fun q => by omega).trans ?_
    rw [h2.old b h5 h4, e1]
   ·rcases hS' b q with (q | ⟨q, _⟩) | q
    ·exact .inl q
    ·exact .inr (by omega)
    ·exact .inr (Nat.le_trans l.hs q)
structure SameN (T : Nat -> Prop) (n : Nat) (ρ : Ren) (w1 w' : World) : Prop where
 id : ∀ a b, ρ a b -> a = b
 where_ : ∀ a b, ρ a b -> T b \/ n <= b
 cell : ∀ (a : Addr) v, ρ a.block a.block -> w1.cell? a = some v -> ∃ v', w'.cell? a = some v' /\ VR ρ v v'
 obj : ∀ b cs t fr, ρ b b -> w1.heap[b]? = some (.cells cs t fr) -> ∃ cs' fr', w'.heap[b]? = some (.cells cs' t fr') /\ (n <= b -> fr' = (0, 0))
theorem same_of {gs : Nat} {ρ1 : Ren} {w1 W : World} {S : Nat -> Prop} (hw : WR gs T ρ1 (re w1 W.tape W.drawn) W) (hid : ∀ a b, ρ1 a b -> a = b) (hS : ∀ a b, ρ1 a b -> S b \/ T b) (hn : ∀ b, S b -> n <= b) (hT : ∀ b, T b -> b < n) : SameN T n ρ1 w1 W := by
 refine ⟨hid, fun a b h => (hS a b h).elim (fun q => .inr (hn b q)) .inl, fun a v h hc => ?_, fun b cs t fr h hc => ?_⟩
 ·rcases hw.cell (a := a) (a' := a) ⟨h, rfl, rfl⟩ with ⟨e1, _⟩ | ⟨u, u', e1, e2, e3⟩
  ·have : w1.cell? a = none := e1
   rw [this] at hc; cases hc
  ·have e1 : w1.cell? a = some u := e1
   rw [e1] at hc
   injection hc with hc
   subst hc
   exact ⟨u', e2, e3⟩
 ·obtain ⟨o, o', h1, h2, h3⟩ := hw.block b b h
  have h1' : w1.heap[b]? = some o := h1
  rw [hc] at h1'
  injection h1' with h1'
  subst h1'
  cases o' with
  | cells cs' t' fr' =>
   obtain ⟨rfl, h4, h5, h6⟩ := h3
   exact ⟨_, _, h2, fun q => (h6 fun q2 => by have := hT b q2; omega).2⟩
  | _ => exact h3.elim
theorem SameN.cell_of {ρ : Ren} {w1 : World} (h : SameN T n ρ w1 w') {b o : Nat} {v : Value} (hb : ρ b b) (hc : w1.cell? ⟨b, o, none⟩ = some v) : ∃ v', w'.cell? ⟨b, o, none⟩ = some v' /\ VR ρ v v' := h.cell ⟨b, o, none⟩ v hb hc
theorem SameN.int {ρ : Ren} {w1 : World} (h : SameN T n ρ w1 w') {b o : Nat} {k : IntKind} {x : Int} (hb : ρ b b) (hc : w1.cell? ⟨b, o, none⟩ = some (.int k x)) : w'.cell? ⟨b, o, none⟩ = some (.int k x) := by
 obtain ⟨v', e, hv⟩ := h.cell_of hb hc
 cases hv
 exact e
theorem SameN.slice {ρ : Ren} {w1 : World} (h : SameN T n ρ w1 w') {a : Option Addr} {l cp : Nat} {v' : Value} (hsp : ∀ ad, a = some ad -> ad.spot = none) (hv : VR ρ (.slice a l cp) v') : v' = .slice a l cp /\ ∀ ad, a = some ad -> ρ ad.block ad.block := by
 cases hv with
 | snil => exact ⟨rfl, fun _ e => by cases e⟩
 | slz q => rw [hsp _ rfl] at q; cases q
 | @slice a a' _ _ q =>
  have e : a' = a := by
   obtain ⟨q1, q2, q3⟩ := q
   have := h.id _ _ q1
   obtain ⟨a1, a2, a3⟩ := a
   obtain ⟨b1, b2, b3⟩ := a'
   dsimp only at *
   subst this q2 q3
   rfl
  subst e
  exact ⟨rfl, fun ad e => by cases e; exact q.block⟩
theorem SameN.slice_cell {ρ : Ren} {w1 : World} (h : SameN T n ρ w1 w') {b o : Nat} {a : Option Addr} {l cp : Nat} (hsp : ∀ ad, a = some ad -> ad.spot = none) (hb : ρ b b) (hc : w1.cell? ⟨b, o, none⟩ = some (.slice a l cp)) : w'.cell? ⟨b, o, none⟩ = some (.slice a l cp) /\ ∀ ad, a = some ad -> ρ ad.block ad.block := by
 obtain ⟨v', e, hv⟩ := h.cell_of hb hc
 obtain ⟨rfl, q⟩ := h.slice hsp hv
 exact ⟨e, q⟩
theorem vr_bool {ρ : Ren} {x : Bool} {v' : Value} (h : VR ρ (.bool x) v') : v' = .bool x := by cases h; rfl
theorem lone_wr {T : Nat -> Prop} (s : Solo γ w) (hgl : P.globals.size <= γ.hs) (hT : ∀ b, T b -> γ.S 0 b /\ ∃ cs t fr, w.heap[b]? = some (.cells cs t fr)) : WR P.globals.size T (diag T) (re (loneW (diag T) T w) w.tape w.drawn) w :=
 wr_lone (F := T) (T := T) (fun b hb => by have := (hT b hb).1.1; rw [<- s.hs]; exact this) (by rw [<- s.hs]; exact hgl) fun b hb => by
  obtain ⟨_, cs, t, fr, e⟩ := hT b hb
  exact ⟨cs, t, fr, e, fun q => absurd hb q⟩
theorem lives_call0 {G : Nat -> Bool} {fs : List Nat} (hfs : ∀ f, fs.contains f = true -> okBody P G fs f = true) {f : Nat} (hf : fs.contains f = true) (s : Solo γ w) (hgl : P.globals.size <= γ.hs) (T : Nat -> Prop) (hT : ∀ b, T b -> γ.S 0 b /\ ∃ cs t fr, w.heap[b]? = some (.cells cs t fr))
  {args : Array Value} (ha : VsR (diag T) args args) (hG : ∀ g, G g = true -> T g) (R : Value -> World -> Prop)
  (hc : ∀ (Tp : Tape) (d : Nat), Calls P f args (re (loneW (diag T) T w) Tp d) (fun e w' => ∃ v, e = .returned v /\ R v w'))
  (hK : ∀ γ' w' v v' ρ w1, Solo γ' w' -> Later2 γ γ' -> (∀ b, γ.hs <= b -> b < γ'.hs -> γ'.bk b = .priv 0) -> (∀ b, b < γ.hs -> w'.heap[b]? = w.heap[b]?) -> w'.tape = w.tape -> R v w1 -> VR ρ v v' -> SameN T γ.hs ρ w1 w' -> LV P ty top Post 0 γ' w' (Conc.G (c.finish v') rest)) :
  LV P ty top Post 0 γ w (Conc.G (Frame.enter P f args .normal) (c :: rest)) := by
 have h1 := wayA_call (P := P) (G := G) (fs := fs) (F := T) (S := fun _ => False) (ρ := diag T) (c := c) (rest := rest) (R := R) hfs hf (w0 := loneW (diag T) T w) (lone_wr s hgl hT) ha (fun g hg => ⟨rfl, hG g hg⟩) (fun a b h => .inr (by obtain ⟨rfl, h⟩ := h; exact h)) (fun a b h => h.1) (lone_size) hc
 refine lives_wayA h1 γ s (fun _ q => q.elim) (fun b hb => (hT b hb).1) fun S' g' w' γ' s' l hnew hold htp hS' hk => ?_
 obtain ⟨v, v', ρ1, w1, rfl, hv, ⟨Tp, d, hR⟩, hw, hS, _, hid⟩ := hk
 refine hK γ' w' v v' ρ1 (re w1 Tp d) s' l hnew (fun b hb => hold b hb fun q => q) htp hR hv ?_
 exact same_of (gs := P.globals.size) (w1 := re w1 Tp d) (S := S') hw hid hS (fun b q => (hS' b q).elim (fun q => q.elim) id) fun b q => (hT b q).1.1
theorem lives_code0 {G : Nat -> Bool} {fs : List Nat} (hfs : ∀ f, fs.contains f = true -> okBody P G fs f = true) {f : Nat} {fn : Func} (hf : P.funcs[f]? = some fn) (hfi : (P.inits.idxOf? f).isNone = true) {code : Code} (hok : okCode P G fs code = true) (hbf : b.fn = f) (hbk : b.kind = .normal)
  (s : Solo γ w) (hgl : P.globals.size <= γ.hs) (T : Nat -> Prop) (hT : ∀ b, T b -> γ.S 0 b /\ ∃ cs t fr, w.heap[b]? = some (.cells cs t fr))
  {ts : Array Value} (ha : VsR (diag T) ts ts) (hG : ∀ g, G g = true -> T g) (R : Value -> World -> Prop)
  (hc : ∀ (Tp : Tape) (d : Nat), code.wp P (bodyPost P fn (fun e w' => ∃ v, e = .returned v /\ R v w')) ⟨ts, []⟩ (re (loneW (diag T) T w) Tp d))
  (hK : ∀ γ' w' v v' ρ w1, Solo γ' w' -> Later2 γ γ' -> (∀ b, γ.hs <= b -> b < γ'.hs -> γ'.bk b = .priv 0) -> (∀ b, b < γ.hs -> w'.heap[b]? = w.heap[b]?) -> w'.tape = w.tape -> R v w1 -> VR ρ v v' -> SameN T γ.hs ρ w1 w' -> LV P ty top Post 0 γ' w' (Conc.G (c.finish v') rest)) :
  LV P ty top Post 0 γ w (Conc.G (b.at ⟨ts, []⟩ [.code code]) (c :: rest)) := by
 have h1 := wayA_code (P := P) (G := G) (fs := fs) (F := T) (S := fun _ => False) (ρ := diag T) (c := c) (rest := rest) (R := R) hfs hf hfi hok hbf hbk (w0 := loneW (diag T) T w) (lone_wr s hgl hT) ha (fun g hg => ⟨rfl, hG g hg⟩) (fun a b h => .inr (by obtain ⟨rfl, h⟩ := h; exact h)) (fun a b h => h.1) (lone_size) hc
 refine lives_wayA h1 γ s (fun _ q => q.elim) (fun b hb => (hT b hb).1) fun S' g' w' γ' s' l hnew hold htp hS' hk => ?_
 obtain ⟨v, v', ρ1, w1, rfl, hv, ⟨Tp, d, hR⟩, hw, hS, _, hid⟩ := hk
 refine hK γ' w' v v' ρ1 (re w1 Tp d) s' l hnew (fun b hb => hold b hb fun q => q) htp hR hv ?_
 exact same_of (gs := P.globals.size) (w1 := re w1 Tp d) (S := S') hw hid hS (fun b q => (hS' b q).elim (fun q => q.elim) id) fun b q => (hT b q).1.1
end
end Go.Proofs.YtbicafgmfgdckaaGreatDoor
namespace Go.Proofs.YtbicafgmfgdckaaGreatDoor
open Go Go.RowKit Go.Conc
section
variable {γ γ' γ2 : Gho} {w w' w2 w1 : World} {a : Option Addr} {cap : Nat} {ls : Txts} {Tp : Tape} {d : Nat} {ρ : Ren}
def ownT (γ : Gho) (w : World) : Nat -> Prop := fun b => γ.S 0 b /\ ∃ cs t fr, w.heap[b]? = some (.cells cs t fr)
noncomputable abbrev LW (γ : Gho) (w : World) (Tp : Tape) (d : Nat) : World := re (loneW (diag (ownT γ w)) (ownT γ w) w) Tp d
def Held (γ : Gho) (w : World) (a : Option Addr) : Prop := ∀ ad, a = some ad -> ad.spot = none /\ ownT γ w ad.block
theorem held_none : Held γ w none := fun ad e => by cases e
theorem Held.vr {n c : Nat} (h : Held γ w a) : VR (diag (ownT γ w)) (.slice a n c) (.slice a n c) := by
 cases a with
 | none => exact .snil _ _
 | some ad => exact .slice _ _ ⟨⟨rfl, (h ad rfl).2⟩, rfl, rfl⟩
theorem lw_cell {ad : Addr} {v : Value} (h : w.cell? ad = some v) (hv : VR (diag (ownT γ w)) v v) : (LW γ w Tp d).cell? ad = some v := lone_cell (ρ := diag (ownT γ w)) (F := ownT γ w) h hv
theorem lw_int {ad : Addr} {k : IntKind} {n : Int} (h : w.cell? ad = some (.int k n)) : (LW γ w Tp d).cell? ad = some (.int k n) := lw_cell h (.int k n)
theorem lw_reads {l : List (BitVec 8)} (h : Reads w a cap l) : Reads (LW γ w Tp d) a cap l := ⟨h.fits, h.room, h.null, h.bytes.imp id fun ⟨b, off, e, h⟩ => ⟨b, off, e, fun i hi => lw_int (h i hi)⟩⟩
structure TextsH (γ : Gho) (w : World) (a : Option Addr) (cap : Nat) (ls : Txts) : Prop where
 txts : Texts w a cap ls
 held : Held γ w a
 rows : ∀ b off i x n c, a = some ⟨b, off, none⟩ -> i < ls.length -> w.cell? ⟨b, off + i, none⟩ = some (.slice x n c) -> Held γ w x /\ ∀ ad, x = some ad -> 0 < n
theorem TextsH.lone (h : TextsH γ w a cap ls) : Texts (LW γ w Tp d) a cap ls := by
 refine ⟨h.txts.fits, h.txts.room, ?_⟩
 rcases h.txts.rows with e | ⟨b, off, e, hb⟩
 ·exact .inl e
 ·refine .inr ⟨b, off, e, fun i hi => ?_⟩
  obtain ⟨x, c, h1, h2⟩ := hb i hi
  exact ⟨x, c, lw_cell h1 (h.rows b off i x _ c e hi h1).1.vr, lw_reads h2⟩
structure RowsH {α : Type} (enc : α -> List Value) (K : Nat) (γ : Gho) (w : World) (a : Option Addr) (cap : Nat) (l : List α) : Prop where
 rows : RowsC enc K w a cap l
 held : Held γ w a
section
variable {α : Type} {enc : α -> List Value} {K : Nat} {l : List α}
theorem RowsH.lone (h : RowsH enc K γ w a cap l) (hi : ∀ x ∈ l, ∀ v ∈ enc x, ∃ k n, v = .int k n) : RowsC enc K (LW γ w Tp d) a cap l := by
 refine ⟨h.rows.fits, h.rows.room, ?_⟩
 rcases h.rows.rows with e | ⟨b, off, e, hb⟩
 ·exact .inl e
 ·refine .inr ⟨b, off, e, fun i hlt j v hv => ?_⟩
  obtain ⟨k, n, rfl⟩ := hi l[i] (List.getElem_mem hlt) v (List.mem_of_getElem? hv)
  exact lw_int (hb i hlt j _ hv)
end
structure Stays (γ : Gho) (w : World) (γ' : Gho) (w' : World) : Prop where
 hs : γ.hs <= γ'.hs
 bk : ∀ b, b < γ.hs -> γ'.bk b = γ.bk b
 heap : ∀ b, b < γ.hs -> γ.bk b = .priv 0 -> w'.heap[b]? = w.heap[b]?
theorem Stays.trans (h : Stays γ w γ' w') (h' : Stays γ' w' γ2 w2) : Stays γ w γ2 w2 :=
 ⟨Nat.le_trans h.hs h'.hs, fun b hb => (h'.bk b (Nat.lt_of_lt_of_le hb h.hs)).trans (h.bk b hb), fun b hb hp => (h'.heap b (Nat.lt_of_lt_of_le hb h.hs) ((h.bk b hb).trans hp)).trans (h.heap b hb hp)⟩
theorem Stays.of (l : Later2 γ γ') (h : ∀ b, b < γ.hs -> w'.heap[b]? = w.heap[b]?) : Stays γ w γ' w' := ⟨l.hs, l.bk, fun b hb _ => h b hb⟩
theorem Stays.own (h : Stays γ w γ' w') {b : Nat} (k : ownT γ w b) : ownT γ' w' b := by
 obtain ⟨⟨h1, h2⟩, cs, t, fr, h3⟩ := k
 exact ⟨⟨Nat.lt_of_lt_of_le h1 h.hs, (h.bk b h1).trans h2⟩, cs, t, fr, (h.heap b h1 h2).trans h3⟩
theorem Stays.cell (h : Stays γ w γ' w') {ad : Addr} (k : ownT γ w ad.block) : w'.cell? ad = w.cell? ad := by
 obtain ⟨⟨h1, h2⟩, _⟩ := k
 unfold World.cell?
 rw [h.heap _ h1 h2]
theorem Held.stays (h : Held γ w a) (k : Stays γ w γ' w') : Held γ' w' a := fun ad e => ⟨(h ad e).1, k.own (h ad e).2⟩
theorem Held.reads {l : List (BitVec 8)} (h : Held γ w a) (k : Stays γ w γ' w') (hr : Reads w a cap l) : Reads w' a cap l :=
 ⟨hr.fits, hr.room, hr.null, hr.bytes.imp id fun ⟨b, off, e, hb⟩ => ⟨b, off, e, fun i hi => (k.cell (ad := ⟨b, off + i, none⟩) (h _ e).2).trans (hb i hi)⟩⟩
theorem TextsH.stays (h : TextsH γ w a cap ls) (k : Stays γ w γ' w') : TextsH γ' w' a cap ls := by
 refine ⟨⟨h.txts.fits, h.txts.room, ?_⟩, h.held.stays k, fun b off i x n c e hi hc => ?_⟩
 ·rcases h.txts.rows with e | ⟨b, off, e, hb⟩
  ·exact .inl e
  ·refine .inr ⟨b, off, e, fun i hi => ?_⟩
   obtain ⟨x, c, h1, h2⟩ := hb i hi
   have hx := h.rows b off i x _ c e hi h1
   exact ⟨x, c, (k.cell (ad := ⟨b, off + i, none⟩) (h.held _ e).2).trans h1, hx.1.reads k h2⟩
 ·rw [k.cell (ad := ⟨b, off + i, none⟩) (h.held _ e).2] at hc
  obtain ⟨q1, q2⟩ := h.rows b off i x n c e hi hc
  exact ⟨q1.stays k, q2⟩
theorem own_of_same (sm : SameN (ownT γ w) γ.hs ρ w1 w') (st : Stays γ w γ' w') (hs' : γ'.hs = w'.heap.size) (hnew : ∀ b, γ.hs <= b -> b < γ'.hs -> γ'.bk b = .priv 0) {b : Nat} (hb : ρ b b) {cs : Array Value} {t : TypeId} {fr : Nat × Nat} (hc : w1.heap[b]? = some (.cells cs t fr)) : ownT γ' w' b := by
 rcases sm.where_ b b hb with h | h
 ·exact st.own h
 ·obtain ⟨cs', fr', e, _⟩ := sm.obj b cs t fr hb hc
  have hlt : b < γ'.hs := by rw [hs']; exact (Array.getElem?_eq_some_iff.1 e).1
  exact ⟨⟨hlt, hnew b h hlt⟩, cs', t, fr', e⟩
theorem cells_of_cell {ad : Addr} {v : Value} (h : w.cell? ad = some v) : ∃ cs t fr, w.heap[ad.block]? = some (.cells cs t fr) := by
 unfold World.cell? at h
 cases hb : w.heap[ad.block]? with
 | none => rw [hb] at h; cases h
 | some o =>
  cases o with
  | cells cs t fr => exact ⟨cs, t, fr, rfl⟩
  | _ => rw [hb] at h; cases h
theorem texts_of_lone {B : Nat} {E : TypeId} {v v' : Value} {vs : List Value} (sm : SameN (ownT γ w) γ.hs ρ w1 w') (st : Stays γ w γ' w') (hs' : γ'.hs = w'.heap.size) (hnew : ∀ b, γ.hs <= b -> b < γ'.hs -> γ'.bk b = .priv 0)
  (ho : OwnsRows (fun _ => False) w1 B E v vs ls) (hf : Firm vs) (hv : VR ρ v v') : ∃ a c, v' = .slice a ls.length c /\ TextsH γ' w' a c ls := by
 obtain ⟨a, c, rfl, hnil, h1, h2⟩ := ho.form
 rcases ho.row.2 with ⟨e2, hl0⟩ | ⟨g, cap, cur, e2, _, hg, _⟩
 ·injection e2 with e2 e3 e4
  subst e2 e4
  have hl : ls = [] := List.eq_nil_of_length_eq_zero hl0
  subst hl
  obtain ⟨rfl, _⟩ := sm.slice (fun ad e => by cases e) hv
  exact ⟨none, 0, rfl, ⟨h1, h2, .inl rfl⟩, held_none, fun b off i x n c e => by cases e⟩
 ·injection e2 with e2 e3 e4
  subst e2 e4
  obtain ⟨rfl, hρ⟩ := sm.slice (fun ad e => by cases e; rfl) hv
  have hρg := hρ _ rfl
  have each : ∀ i, i < ls.length -> ∃ x c, w1.cell? ⟨g, i, none⟩ = some (.slice x (txt ls i).length c) /\ Reads w1 x c (txt ls i) /\ ∀ ad, x = some ad -> 0 < (txt ls i).length := fun i hi => by
   obtain ⟨g', cap', x, c, e5, h5, h6, _⟩ := ho.at_ hi
   injection e5 with e5
   injection e5 with e5
   injection e5 with e5
   subst e5
   refine ⟨x, c, h5, h6, fun ad e => ?_⟩
   subst e
   have hvs : vs.getD i undef = .slice (some ad) (txt ls i).length c := by
    have := ho.row.cells (g := g) rfl i (vs.getD i undef) (by rw [List.getElem?_eq_getElem (by rw [ho.len]; exact hi), List.getD_eq_getElem?_getD, List.getElem?_eq_getElem (by rw [ho.len]; exact hi)]; rfl)
    rw [Addr.add_lit, Nat.zero_add] at this
    rw [this] at h5
    injection h5
   exact hf i ad _ c (by rw [ho.len]; exact hi) hvs
  have hsp : ∀ i x c, i < ls.length -> Reads w1 x c (txt ls i) -> (∀ ad, x = some ad -> 0 < (txt ls i).length) -> ∀ ad, x = some ad -> ad.spot = none := fun i x c hi hr hp ad e => by
   obtain ⟨b, off, e2, _⟩ := hr.bytes.resolve_left fun q => by have := hp ad e; rw [q] at this; simp at this
   rw [e] at e2; injection e2 with e2; rw [e2]
  refine ⟨_, _, rfl, ⟨h1, h2, .inr ⟨g, 0, rfl, fun i hi => ?_⟩⟩, fun ad e => ?_, fun b off i x n c e hi hc => ?_⟩
  ·obtain ⟨x, c, h5, h6, h7⟩ := each i hi
   obtain ⟨q1, q2⟩ := sm.slice_cell (hsp i x c hi h6 h7) hρg h5
   refine ⟨x, c, by rw [Nat.zero_add]; exact q1, h6.fits, h6.room, h6.null, h6.bytes.imp id fun ⟨b, off, e, hb⟩ => ⟨b, off, e, fun j hj => sm.int (q2 _ e) (hb j hj)⟩⟩
  ·injection e with e
   subst e
   exact ⟨rfl, own_of_same sm st hs' hnew hρg hg⟩
  ·injection e with e
   injection e with e e' _
   subst e e'
   rw [Nat.zero_add] at hc
   obtain ⟨x', c', h5, h6, h7⟩ := each i hi
   obtain ⟨q1, q2⟩ := sm.slice_cell (hsp i x' c' hi h6 h7) hρg h5
   rw [q1] at hc
   injection hc with hc
   injection hc with e1 e2 e3
   subst e1 e2 e3
   refine ⟨fun ad e => ⟨hsp i _ _ hi h6 h7 ad e, ?_⟩, h7⟩
   obtain ⟨b, off, e2, hb⟩ := h6.bytes.resolve_left fun q => by have := h7 ad e; rw [q] at this; simp at this
   have hρb := q2 _ e
   have h8 := hb 0 (h7 ad e)
   obtain ⟨cs, t, fr, h9⟩ := cells_of_cell h8
   rw [e] at e2
   injection e2 with e2
   subst e2
   exact own_of_same sm st hs' hnew hρb h9
end
end Go.Proofs.YtbicafgmfgdckaaGreatDoor
namespace Go.Proofs.YtbicafgmfgdckaaGreatDoor
open Go Go.Conc
def refFs : List Nat := [5, 7, 16, 28, 17, 18, 19, 27, 47, 48, 49, 50, 83, 84, 85, 20, 8, 10, 11, 26, 45, 46, 82, 103]
def gNone : Nat -> Bool := fun _ => false
theorem okRef : ∀ f, refFs.contains f = true -> okBody Tryz.prog gNone refFs f = true := by
 have h : refFs.all (fun f => okBody Tryz.prog gNone refFs f) = true := by kernel_rfl
 intro f hf
 exact List.all_eq_true.1 h f (by simpa using hf)
end Go.Proofs.YtbicafgmfgdckaaGreatDoor
namespace Go.Proofs.YtbicafgmfgdckaaGreatDoor
open Go Go.RowKit Go.Conc Go.Conc.Lib Go.ConcR.Gen
open Go.ConcR (KK wgBlock WgAt stA smA rd wr mk DC0)
open Go.ConcN (sumTo upd upd_same upd_ne RelBy PermW WgLive)
section
variable {top : Nat} {γ γ' γ2 : Gho} {p : Ph} {w w' w2 : World} {i j k n W0 : Nat} {Post : Value -> World -> Prop} {es : Array Event} {g g' : Goroutine}
theorem Solo.over (hI : GInv wgLink.tWg top γ w) (hp : γ.ph = some p) (hf : p.f = 0) (hd : γ.deaf 0 = 0) : Solo γ.over w := by
 have nocol : γ.col = none := by
  cases hc : γ.col with
  | none => rfl
  | some c => have := (hI.mate p c hp hc).1; have := (hI.coll c hc).f.1; omega
 refine ⟨rfl, nocol, by show upd γ.tag 0 Tag.solo 0 = _; exact upd_same _ _ _, hd, hI.hs, fun b hb => ?_⟩
 cases q : γ.bk b with
 | shd s => exact .inr ⟨s, over_shd.2 q⟩
 | _ => exact .inl (over_not (by rw [q]; simp))
theorem past_main (hf : p.f = 0) : γ.past p = γ.over := by unfold Gho.past; rw [if_pos hf]
theorem enter_bk {kind : Kind} {out : Nat} {γE : Gho} (hk : p.kind = kind) (ho : p.out = out) (hf : p.f = 0) {b : Nat} (hb : b < γE.hs) (h : γE.bk b = .priv 0 \/ ∃ s, γE.bk b = .shd s) (hout : kind = .fill -> γE.bk out = .priv 0) :
  (∃ s, γE.bk b = .shd s /\ (γE.enter p (EachFx 0 kind out γE)).bk b = .shd s) \/ (γE.bk b = .priv 0 /\ (((γE.enter p (EachFx 0 kind out γE)).bk b = .fix 0 /\ ¬ (kind = .fill /\ b = out)) \/ ((γE.enter p (EachFx 0 kind out γE)).bk b = .mix /\ kind = .fill /\ b = out))) := by
 subst hk ho
 rcases h with e | ⟨s, e⟩
 ·right
  refine ⟨e, ?_⟩
  by_cases q : p.kind = .fill /\ b = p.out
  ·right
   refine ⟨?_, q⟩
   simp only [Gho.enter]
   rw [if_neg (fun r => r.2.2 q), if_pos q]
  ·left
   refine ⟨?_, q⟩
   simp only [Gho.enter]
   rw [if_pos ⟨hb, e, q⟩, hf]
 ·left
  refine ⟨s, e, ?_⟩
  simp only [Gho.enter]
  rw [if_neg (fun r => by have r2 := r.2.1; rw [e] at r2; cases r2), if_neg (fun r => by have r2 := hout r.1; rw [<- r.2, e] at r2; cases r2)]
  exact e
theorem lives_each {f : FuncId} {fn : Func} {cd : Code} {caps : Array Value} {c : Frame} {cs : List Frame} {out : Nat} {oty : TypeId} {val : Nat -> Nat -> Value} (s0 : Solo γ w) (hff : Tryz.prog.funcs[f]? = some fn) (hfb : fn.body = some cd) (hfn : (fn.name == "runtime.NumGoroutine") = false)
  (hn : n <= 1000) (hW : 1 <= W0) (hW2 : W0 <= 1000) (hcnt : γ.cnt + W0 <= top) (ho : out < γ.hs /\ γ.bk out = .priv 0) (hoc : ∃ cells, w.heap[out]? = some (.cells cells oty (0, 0)) /\ cells.size = 32 * n)
  (hjob : ∀ p γ' w' i, p.b <= i -> i ≠ 0 -> p.n = n -> p.out = out -> p.oty = oty -> p.val = val -> p.kind = .fill -> (∀ b, b < γ.hs -> γ.bk b = .priv 0 -> b ≠ out -> γ'.F i b /\ p.H b = w.heap[b]?) -> γ.hs <= γ'.hs -> Job p top Post i γ' w' f caps)
  (hK : ∀ γ' w', Solo γ' w' -> γ.hs <= γ'.hs -> γ'.cnt = γ.cnt + W0 -> (∀ b, b < γ.hs -> γ'.bk b = γ.bk b) -> (∀ b, b < γ.hs -> γ.bk b = .priv 0 -> b ≠ out -> w'.heap[b]? = w.heap[b]?) -> w'.tape = w.tape ->
   (∃ cells, w'.heap[out]? = some (.cells cells oty (0, 0)) /\ cells.size = 32 * n /\ ∀ x, x < n -> ∀ o, o < 32 -> cells[32 * x + o]? = some (val x o)) -> LV Tryz.prog wgLink.tWg top Post 0 γ' w' (G (c.finish (.tuple #[])) cs)) :
  LV Tryz.prog wgLink.tWg top Post 0 γ w (G ((base 22).at ⟨#[.int .i64 n, .int .i64 W0, .func (.func f) #[] caps] ++ Array.replicate 20 undef, []⟩ [.code (Tryz.f22.body.getD .skip)]) (c :: cs)) := by
 refine lives_each_any (kind := .fill) s0.lon hff hfb hfn hn hW hW2 hcnt (.inl ⟨s0.col, by simp⟩) (by simp) (fun _ => ⟨ho, hoc⟩) (fun p γ' w' j h1 h2 h3 h4 h5 h6 h7 h8 h9 h10 _ => hjob p γ' w' j h2 h3 h4 h5 h6 h7 h8 (fun b hb q hne => h9 b hb (.inl ⟨q, fun r => hne r.2⟩)) h10) fun p γE wE γ6 w6 γ7 w7 sE L hf hb hW' hn' ho' hoty hval hkd hH hk6 hp6 ht6 hd6 hI6 hrl7 => ?_
 rw [past_main hf] at hrl7
 have so := Solo.over hI6 hp6 hf hd6
 obtain ⟨s7, g1, g2, g3, g5, g4⟩ := so.rel hrl7
 obtain ⟨hDone, _⟩ := thru_done hI6 hp6 (by rw [hf]; exact ht6)
 have h6hs : γE.hs <= γ6.hs := hk6.hs
 have hLs := L.hs
 have bkE : ∀ b, b < γ.hs -> γE.bk b = γ.bk b := fun b hb => L.bk b hb fun j hj q => by
  rcases s0.bk b hb with e | ⟨s, e⟩ <;> (rw [e] at q; cases q)
  exact hj rfl
 have shape : ∀ b, b < γ.hs -> γE.bk b = .priv 0 \/ ∃ s, γE.bk b = .shd s := fun b hb => by rw [bkE b hb]; exact s0.bk b hb
 have kinds := fun b (hb : b < γ.hs) => enter_bk (p := p) hkd ho' hf (Nat.lt_of_lt_of_le hb hLs) (shape b hb) fun _ => (bkE _ ho.1).trans ho.2
 have keepbk : ∀ b, b < γ.hs -> γ6.bk b = (γE.enter p (EachFx 0 .fill out γE)).bk b := fun b hb => hk6.bk b (Nat.lt_of_lt_of_le hb hLs) fun j hj q => by
  rcases kinds b hb with ⟨s, _, e⟩ | ⟨_, ⟨e, _⟩ | ⟨e, _⟩⟩ <;> (rw [e] at q; cases q)
 refine hK γ7 w7 s7 (by have q : γ7.hs = γ6.hs := g3; omega) ?_ (fun b hb => ?_) (fun b hb hpv hne => ?_) (by rw [g2, hk6.tape, L.tape]) ?_
 ·have h1 := (hI6.core _ hp6).cnt
  unfold Gho.started at h1
  rw [show γ6.tag p.f = .thru by rw [hf]; exact ht6] at h1
  rw [g5]
  show γ6.cnt = _
  rw [h1, hb, L.cnt, hW']
 ·rw [g4 b (by show b < γ6.hs; omega)]
  rcases kinds b hb with ⟨s, e1, e⟩ | ⟨e1, e⟩
  ·rw [over_shd.2 ((keepbk b hb).trans e), <- bkE b hb, e1]
  ·rw [over_not fun s q => by
    rw [keepbk b hb] at q
    rcases e with ⟨e, _⟩ | ⟨e, _⟩ <;> (rw [e] at q; cases q), <- bkE b hb, e1]
 ·have e0 : γE.bk b = .priv 0 := (bkE b hb).trans hpv
  have e2 : (γE.enter p (EachFx 0 .fill out γE)).bk b = .fix 0 := by
   rcases kinds b hb with ⟨s, e1, _⟩ | ⟨_, ⟨e, _⟩ | ⟨_, _, q⟩⟩
   ·rw [e0] at e1; cases e1
   ·exact e
   ·exact absurd q hne
  rw [g1, hDone.fix b 0 (by omega) ((keepbk b hb).trans e2), hH b]
  exact L.heap b hb (Nat.not_le.2 hb) (.inl hpv)
 ·rw [g1]
  have := hDone.out hkd
  rw [ho', hoty, hn', hval] at this
  exact this
end
end Go.Proofs.YtbicafgmfgdckaaGreatDoor
