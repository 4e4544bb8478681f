/- A goroutine by itself, nobody else turning the heap: LONE RUNS HOLD THERE, under the same numbers of blocks. From any code on. For any program. A stretch of code, in company: a lone run of it holds there, up to what stands behind. For any program. Stretches of code behind one another, in company. For any program. -/
import Derived.Test.YtbicafgmfgdckaaGreatDoorMgAr
import Derived.Conc.Own
namespace Go.Proofs.YtbicafgmfgdckaaGreatDoor
open Go Go.Conc

structure RelyA (w w2 : World) : Prop where
 heap : w2.heap = w.heap
 tape : w2.tape = w.tape
inductive WayA (P : Program) (F : Nat -> Prop) (K : (Nat -> Prop) -> Goroutine -> World -> Prop) : (Nat -> Prop) -> Goroutine -> World -> Prop
 | stop {S : Nat -> Prop} {g : Goroutine} {w : World} (h : K S g w) : WayA P F K S g w
 | step {S : Nat -> Prop} {g : Goroutine} {w : World} (hg : g.status = .running) (h : ∀ w2, RelyA w w2 -> ∃ g1 w3 es, stepG P true g w2 = .go g1 w3 es /\ Own S F w2 w3 es)
   (k : ∀ w2 g1 w3 es, RelyA w w2 -> stepG P true g w2 = .go g1 w3 es -> WayA P F K (grow S w2 w3) g1 w3) : WayA P F K S g w
abbrev StopR := Frame -> World -> Prop
def LSt.outR (R : StopR) (x : LSt) : Prop := x.l = [] /\ ∃ T d, R x.r.fr (re x.w T d)
def NxtR (P : Program) (R : StopR) (y x : LSt) : Prop := ¬ x.outR R /\ ∃ T d, Moves P x.r x.l (re x.w T d) y.r y.l y.w
def ReachR (P : Program) (base : List Frame) (R : StopR) (x : LSt) : Prop := ∀ (T : Tape) (d : Nat), ∃ (T2 : Tape) (d2 : Nat), (∀ i, T2 (d2 + i) = T (d + i)) /\ ∃ n fr w1, runN P n (lone x.r.fr (x.l.map Rec.fr ++ base) (re x.w T2 d2)) = .next (lone fr base w1) /\ R fr w1
section
variable {P : Program} {R : StopR} {x y : LSt} {base : List Frame}
theorem zero_run {r : Rec} {l : List Rec} {w w1 : World} {fr : Frame} (e : runN P 0 (lone r.fr (l.map Rec.fr ++ base) w) = .next (lone fr base w1)) : l = [] /\ r.fr = fr /\ w = w1 := by
 simp only [runN, Stepped.next.injEq, lone, Machine.mk.injEq] at e
 have := e.2.1
 simp only [Array.mk.injEq, List.cons.injEq, Goroutine.mk.injEq] at this
 refine ⟨?_, this.1.1, e.1⟩
 have h2 := congrArg List.length this.1.2.1
 simp at h2
 exact h2
theorem zero_out {T : Tape} {d : Nat} {w1 : World} {fr : Frame} (e : runN P 0 (lone x.r.fr (x.l.map Rec.fr ++ base) (re x.w T d)) = .next (lone fr base w1)) (h : R fr w1) : x.outR R := by
 obtain ⟨h1, h2, h3⟩ := zero_run e
 exact ⟨h1, T, d, by rw [h2, h3]; exact h⟩
theorem bad_runR : ∀ (l : List Rec) (r : Rec) (chain : List PanicEntry) (w : World), okHead P r.fn = true -> (∀ q ∈ l, okHead P q.fn = true) -> ∀ n fr w1, runN P n (lone (r.bad chain) (l.map Rec.fr ++ [catcher]) w) = .next (lone fr [catcher] w1) -> ∃ c, fr.mode = .panicking c := by
 intro l
 induction l with
 | nil =>
  intro r chain w hr hl n fr w1 e
  have hs : step P (lone (r.bad chain) ([].map Rec.fr ++ [catcher]) w) = .next (lone (catcher.raise chain) [] w) := by
   obtain ⟨fn, hf, _⟩ := rec_body (r := r) hr
   refine lone_go (es := #[]) ?_
   simp [stepG, Conc.G, Rec.bad, Rec.fr, unwind, Frame.catches, hf]
  have hs2 : ∃ o w2, step P (lone (catcher.raise chain) [] w) = .ended o w2 := by
   exact ⟨_, _, step_lone_ended rfl⟩
  obtain ⟨o, w2, hs2⟩ := hs2
  cases n with
  | zero =>
   simp only [runN, Stepped.next.injEq, lone, Machine.mk.injEq] at e
   have := e.2.1
   simp only [Array.mk.injEq, List.cons.injEq, Goroutine.mk.injEq] at this
   exact ⟨chain, by rw [<- this.1.1]; rfl⟩
  | succ n =>
   rw [runN_succ hs] at e
   have := runN_ended hs2 e
   simp [lone] at this
 | cons q l ih =>
  intro r chain w hr hl n fr w1 e
  have hs : step P (lone (r.bad chain) ((q :: l).map Rec.fr ++ [catcher]) w) = .next (lone (q.bad chain) (l.map Rec.fr ++ [catcher]) w) := by
   obtain ⟨fn, hf, _⟩ := rec_body (r := r) hr
   refine lone_go (es := #[]) ?_
   rw [<- raise_bad q chain]
   simp [stepG, Conc.G, Rec.bad, Rec.fr, unwind, Frame.catches, hf]
  cases n with
  | zero =>
   simp only [runN, Stepped.next.injEq, lone, Machine.mk.injEq] at e
   have := e.2.1
   simp only [Array.mk.injEq, List.cons.injEq, Goroutine.mk.injEq] at this
   exact ⟨chain, by rw [<- this.1.1]; rfl⟩
  | succ n =>
   rw [runN_succ hs] at e
   exact ih q chain w (hl q (by simp)) (fun y hy => hl y (by simp [hy])) n fr w1 e
theorem not_doomedR (hm : ∀ fr w c, R fr w -> fr.mode ≠ .panicking c) (hr : okHead P x.r.fn = true) (hl : ∀ q ∈ x.l, okHead P q.fn = true) (ho : ¬ x.outR R) {n : Nat} {T : Tape} {d : Nat} {fr : Frame} {w1 : World}
  (e : runN P n (lone x.r.fr (x.l.map Rec.fr ++ [catcher]) (re x.w T d)) = .next (lone fr [catcher] w1)) (hR : R fr w1) : ¬ Doomed P x.r x.l (re x.w T d) := by
 intro hd
 cases n with
 | zero => exact ho (zero_out e hR)
 | succ n =>
  rcases hd [catcher] with ⟨v, w2, es, h⟩ | ⟨o, w2, es, h⟩
  ·rw [runN_succ (lone_go h), raise_bad] at e
   obtain ⟨c, hc⟩ := bad_runR x.l x.r _ w2 hr hl n fr w1 e
   exact hm _ _ c hR hc
  ·have hs : step P (lone x.r.fr (x.l.map Rec.fr ++ [catcher]) (re x.w T d)) = .ended o w2 := step_lone_ended (by
    show (stepG P true (Conc.G x.r.fr (x.l.map Rec.fr ++ [catcher])) _).bare = _
    rw [h]; rfl)
   simp [runN, hs] at e
theorem reach_moveR (hx : ReachR P base R x) (hout : ¬ x.outR R) {T0 : Tape} {d0 : Nat} (h : Moves P x.r x.l (re x.w T0 d0) y.r y.l y.w) : ReachR P base R y := by
 intro T d
 obtain ⟨T2, d2, hT, n, fr, w1, e, hR⟩ := hx (fun p q => if p < y.w.drawn - d0 then T0 (d0 + p) q else T (d + (p - (y.w.drawn - d0))) q) 0
 have hle : d0 <= y.w.drawn := h.1
 have hs : Same2 (re x.w T0 d0) y.w T2 d2 := fun i hi => by
  have hi' : d0 + i < y.w.drawn := hi
  rw [hT i]
  funext q
  show (if 0 + i < y.w.drawn - d0 then T0 (d0 + (0 + i)) q else _) = T0 (d0 + i) q
  rw [if_pos (by omega), Nat.zero_add]
 have hst := moves_step h hs base
 cases n with
 | zero => exact absurd (zero_out e hR) hout
 | succ n =>
  rw [runN_succ (show step P (lone x.r.fr (x.l.map Rec.fr ++ base) (re x.w T2 d2)) = _ from hst)] at e
  refine ⟨T2, d2 + (y.w.drawn - d0), fun i => ?_, n, fr, w1, e, hR⟩
  rw [Nat.add_assoc, hT]
  funext q
  show (if 0 + (y.w.drawn - d0 + i) < y.w.drawn - d0 then _ else T (d + (0 + (y.w.drawn - d0 + i) - (y.w.drawn - d0))) q) = T (d + i) q
  rw [if_neg (by omega)]
  congr 2
  omega
theorem acc_ofR (hx : ∀ (T : Tape) (d : Nat), ∃ n fr w1, runN P n (lone x.r.fr (x.l.map Rec.fr ++ base) (re x.w T d)) = .next (lone fr base w1) /\ R fr w1) : Acc (NxtR P R) x := by
 refine Classical.byContradiction fun hn => ?_
 obtain ⟨f, h0, hf⟩ := chain_of hn
 have hT : ∀ k, ∃ p : Tape × Nat, ¬ (f k).outR R /\ Moves P (f k).r (f k).l (re (f k).w p.1 p.2) (f (k + 1)).r (f (k + 1)).l (f (k + 1)).w := fun k => by
  obtain ⟨h1, T, d, h2⟩ := hf k
  exact ⟨(T, d), h1, h2⟩
 let T : Nat -> Tape := fun k => (hT k).choose.1
 let d : Nat -> Nat := fun k => (hT k).choose.2
 have hm : ∀ k, ¬ (f k).outR R /\ Moves P (f k).r (f k).l (re (f k).w (T k) (d k)) (f (k + 1)).r (f (k + 1)).l (f (k + 1)).w := fun k => (hT k).choose_spec
 let c : Nat -> Nat := fun k => Nat.rec 0 (fun k p => p + ((f (k + 1)).w.drawn - d k)) k
 have hc1 : ∀ k, c (k + 1) = c k + ((f (k + 1)).w.drawn - d k) := fun k => rfl
 have hc : ∀ k, c k <= c (k + 1) := fun k => by rw [hc1]; omega
 have hst : ∀ k, step P (lone (f k).r.fr ((f k).l.map Rec.fr ++ base) (re (f k).w (glue T d c) (c k))) = .next (lone (f (k + 1)).r.fr ((f (k + 1)).l.map Rec.fr ++ base) (re (f (k + 1)).w (glue T d c) (c (k + 1)))) := fun k => by
  refine moves_step (hm k).2 (fun i hi => ?_) base
  have hi' : d k + i < (f (k + 1)).w.drawn := hi
  exact glue_at hc (by rw [hc1]; omega)
 have hrun : ∀ k n, runN P (k + n) (lone (f 0).r.fr ((f 0).l.map Rec.fr ++ base) (re (f 0).w (glue T d c) (c 0))) = runN P n (lone (f k).r.fr ((f k).l.map Rec.fr ++ base) (re (f k).w (glue T d c) (c k))) := fun k => by
  induction k with
  | zero => intro n; rw [Nat.zero_add]
  | succ k ih =>
   intro n
   rw [Nat.add_assoc, Nat.add_comm 1 n, ih (n + 1), runN_succ (hst k)]
 obtain ⟨n, fr, w1, e, hR⟩ := hx (glue T d c) (c 0)
 rw [<- h0] at e
 have := hrun n 0
 rw [Nat.add_zero, e] at this
 exact (hm n).1 (zero_out this.symm hR)
end
section
variable {P : Program} {G : Nat -> Bool} {fs : List Nat} {ρ ρ0 : Ren} {F S : Nat -> Prop} {base : List Frame} {R : StopR}
def EndsA (P : Program) (G : Nat -> Bool) (fs : List Nat) (F : Nat -> Prop) (base : List Frame) (R : StopR) (ρ0 : Ren) (S : Nat -> Prop) (g : Goroutine) (W : World) : Prop :=
 ∃ (x : LSt) (ρ : Ren) (r' : Rec), x.outR R /\ RR P G fs [] ρ x.r r' /\ g = Conc.G r'.fr base /\ WR P.globals.size F ρ (re x.w W.tape W.drawn) W /\ (∀ a b, ρ a b -> S b \/ F b) /\ ρ0.le ρ /\ (∀ a b, ρ a b -> a = b) /\ x.w.heap.size = W.heap.size
theorem wr_relyA {gs : Nat} {w W W2 : World} (h : WR gs F ρ (re w W.tape W.drawn) W) (hr : RelyA W W2) : WR gs F ρ (re w W2.tape W2.drawn) W2 := by
 refine ⟨rfl, rfl, h.fn, h.inj, fun b hb => by rw [hr.heap]; exact h.low b hb, h.glob, h.gsize, h.plain, fun a b q => ?_⟩
 rw [hr.heap]
 exact h.block a b q
theorem wayA_sim (hfs : ∀ f, fs.contains f = true -> okBody P G fs f = true) (hm : ∀ fr w c, R fr w -> fr.mode ≠ .panicking c) {x : LSt} (hacc : Acc (NxtR P R) x) :
  ∀ {ρ : Ren} {r' : Rec} {l' : List Rec} {W : World} {S : Nat -> Prop}, RR P G fs [] ρ x.r r' -> LR P G fs [] ρ x.l l' -> WR P.globals.size F ρ (re x.w W.tape W.drawn) W -> (∀ g, G g = true -> ρ g g) -> (∀ a b, ρ a b -> S b \/ F b) -> ρ0.le ρ -> (∀ a b, ρ a b -> a = b) -> x.w.heap.size = W.heap.size ->
   ReachR P [catcher] R x -> ReachR P [] R x ->
   WayA P F (EndsA P G fs F base R ρ0) S (Conc.G r'.fr (l'.map Rec.fr ++ base)) W := by
 induction hacc with
 | intro x _ ih => ?_
 intro ρ r' l' W S h hl hw hG hS hle hid hsz hR1 hR2
 by_cases hout : x.outR R
 ·refine .stop ?_
  have e : l' = [] := by
   have := hout.1
   rw [this] at hl
   cases hl
   rfl
  subst e
  exact ⟨x, ρ, r', hout, h, rfl, hw, hS, hle, hid, hsz⟩
 have hne : x.r.ret = true -> x.l ≠ [] := fun e1 e2 => by
  obtain ⟨T2, d2, _, n, fr, w1, e, hR⟩ := hR2 (fun _ _ => 0) 0
  cases n with
  | zero => exact hout (zero_out e hR)
  | succ n =>
   rw [e2] at e
   obtain ⟨o, w2, hs⟩ := out_stops h.body e1 (re x.w T2 d2)
   have : runN P (n + 1) (lone x.r.fr (List.map Rec.fr [] ++ []) (re x.w T2 d2)) = .ended o w2 := by
    simp only [List.map_nil, List.append_nil, runN, hs]
   rw [this] at e
   cases e
 have h' : RR P G fs (botK [] x.l) ρ x.r r' := by rw [botK_nil]; exact h
 have both : ∀ W2, RelyA W W2 -> Both P G fs [] F ρ x.r r' x.l l' (re x.w W2.tape W2.drawn) W2 := by
  intro W2 hr
  have hw2 := wr_relyA hw hr
  rcases sim_step hfs h' hl hw2 hG hne (.inr (botK_nil _)) with hb | hd
  ·exact hb
  ·exfalso
   obtain ⟨T2, d2, hT, n, fr, w1, e, hR⟩ := hR1 W2.tape W2.drawn
   have hnd := not_doomedR hm h.body (lr_body hl) hout e hR
   have hw3 : WR P.globals.size F ρ (re x.w T2 d2) (re W2 T2 d2) := hw2.re T2 d2
   rcases sim_step hfs h' hl hw3 hG hne (.inr (botK_nil _)) with hb | hd3
   ·obtain ⟨r1, l1, w1, _, _, _, _, _, ⟨_, _, e0, hmv⟩, _⟩ := hb
    have hst := hmv W2.tape W2.drawn (fun i _ => (hT i).symm) true [catcher]
    rcases hd [catcher] with ⟨v, w4, es, hx⟩ | ⟨o, w4, es, hx⟩
    ·have e1 := hst.symm.trans hx
     simp only [GStep.go.injEq, Conc.G, Goroutine.mk.injEq] at e1
     have e2 := congrArg Frame.mode e1.1.1
     rw [raise_bad] at e2
     simp only [Rec.bad, Rec.fr] at e2
     split at e2 <;> cases e2
    ·have e1 := hst.symm.trans hx
     cases e1
   ·exact hnd hd3
 refine .step rfl (fun W2 hr => ?_) fun W2 g1 W3 es hr hst => ?_
 ·obtain ⟨r1, l1, w1, r1', l1', w1', ρ1, es, b1, b2, b3, b4, b5, b6, b7⟩ := both W2 hr
  exact ⟨_, w1', es, b2 true base, own_of_left hS b6 (fun a b q => (b5.lt a b q).2) b7⟩
 ·obtain ⟨r1, l1, w1, r1', l1', w1', ρ1, es', b1, b2, b3, b4, b5, b6, b7⟩ := both W2 hr
  have e1 := (b2 true base).symm.trans hst
  simp only [GStep.go.injEq] at e1
  obtain ⟨rfl, rfl, rfl⟩ := e1
  have e2 : re w1 w1'.tape w1'.drawn = w1 := by rw [<- b5.tape, <- b5.drawn]; rfl
  obtain ⟨hsz1, hid1⟩ := b6.same (by show x.w.heap.size = W2.heap.size; rw [hr.heap]; exact hsz) hid
  refine ih ⟨r1, l1, w1⟩ ⟨hout, _, _, b1⟩ (by rw [botK_nil] at b3; exact b3) b4 (by rw [e2]; exact b5) (fun g hg => b6.le _ _ (hG g hg)) (left_grow hS b6 fun a b q => (b5.lt a b q).2) (Ren.le_trans hle b6.le) hid1 hsz1 (reach_moveR hR1 hout b1) (reach_moveR hR2 hout b1)
def Leaves (P : Program) (R : Value -> World -> Prop) (fr : Frame) (w1 : World) : Prop := fr.mode = .returning /\ ∃ v, R v w1 /\ ∃ fn, P.funcs[fr.fn]? = some fn /\ (results fn fr.tmps).run P w1 = .ok v w1
def BackA (P : Program) (F : Nat -> Prop) (c : Frame) (rest : List Frame) (R : Value -> World -> Prop) (ρ : Ren) (S : Nat -> Prop) (g : Goroutine) (W : World) : Prop :=
 ∃ v v' ρ1 w1, g = Conc.G (c.finish v') rest /\ VR ρ1 v v' /\ (∃ T d, R v (re w1 T d)) /\ WR P.globals.size F ρ1 (re w1 W.tape W.drawn) W /\ (∀ a b, ρ1 a b -> S b \/ F b) /\ ρ.le ρ1 /\ ∀ a b, ρ1 a b -> a = b
theorem wayA_run (hfs : ∀ f, fs.contains f = true -> okBody P G fs f = true) {r r' : Rec} {w0 W : World} {c : Frame} {rest : List Frame} {R : Value -> World -> Prop}
  (hr : RR P G fs [] ρ r r') (hw : WR P.globals.size F ρ (re w0 W.tape W.drawn) W) (hG : ∀ g, G g = true -> ρ g g) (hS : ∀ a b, ρ a b -> S b \/ F b) (hid : ∀ a b, ρ a b -> a = b) (hsz : w0.heap.size = W.heap.size)
  (hreach : ∀ (base : List Frame) (T : Tape) (d : Nat), ∃ n fr w1, runN P n (lone r.fr base (re w0 T d)) = .next (lone fr base w1) /\ Leaves P R fr w1) :
  WayA P F (BackA P F c rest R ρ) S (Conc.G r'.fr (c :: rest)) W := by
 let x : LSt := ⟨r, [], w0⟩
 have hacc : Acc (NxtR P (Leaves P R)) x := acc_ofR (base := []) fun T d => hreach [] T d
 have h1 := wayA_sim (base := c :: rest) (S := S) (W := W) (ρ0 := ρ) hfs (fun fr w1 ch h e => by rw [h.1] at e; cases e) hacc hr .nil hw hG hS (Ren.le_refl _) hid hsz
  (fun T d => ⟨T, d, fun _ => rfl, hreach [catcher] T d⟩) (fun T d => ⟨T, d, fun _ => rfl, hreach [] T d⟩)
 have bind : ∀ {K K2 : (Nat -> Prop) -> Goroutine -> World -> Prop} {S : Nat -> Prop} {g : Goroutine} {w : World}, WayA P F K S g w -> (∀ S g w, K S g w -> WayA P F K2 S g w) -> WayA P F K2 S g w := by
  intro K K2 S g w h hk
  induction h with
  | stop h => exact hk _ _ _ h
  | step hg h _ ih => exact .step hg h ih
 refine bind h1 fun S2 g W2 hE => ?_
 obtain ⟨y, ρ1, r', ⟨_, T, d, hret, v, hR, fn, hfn, hres⟩, hr, rfl, hw1, hS1, hle, hid1, hsz1⟩ := hE
 have hret2 : y.r.ret = true := by
  cases hq : y.r.ret with
  | true => rfl
  | false => rw [show y.r.fr.mode = .run by simp [Rec.fr, hq]] at hret; cases hret
 have hcomp : ∀ W3, RelyA W2 W3 -> ∃ ρ2 v' W4 es, stepG P true (Conc.G r'.fr (c :: rest)) W3 = .go (Conc.G (c.finish v') rest) W4 es /\ VR ρ2 v v' /\ WR P.globals.size F ρ2 (re y.w W3.tape W3.drawn) W4 /\ Left F ρ1 ρ2 (re y.w W3.tape W3.drawn) W3 (re y.w W3.tape W3.drawn) W4 /\ ∀ e ∈ es, EvR F ρ2 e := fun W3 hr3 => by
  have hw3 := wr_relyA hw1 hr3
  have hsr := sr_results (P := P) (fn := fn) hr.tmps
  have hrt : (results fn y.r.tmps).runT P (re y.w T d) #[] = (.ok v (re y.w T d), ((results fn y.r.tmps).runT P (re y.w T d) #[]).2) := by
   refine Prod.ext ?_ rfl
   rw [Sem.runT_fst]
   exact hres
  have h2 := (run_SR_tape P hsr (re y.w T d) (re W3 T d) #[] (hw3.re T d) v _ _ hrt).2.2 W3.tape W3.drawn fun i hi => by
   simp only [re_drawn] at hi
   omega
  simp only [re_re, re_drawn, Nat.sub_self, Nat.add_zero] at h2
  obtain ⟨ρ2, v', W4, new, r1, r2, r3, r4, r5⟩ := run_SR P hsr (re y.w W3.tape W3.drawn) W3 #[] #[] hw3 v _ _ h2
  rw [Array.empty_append] at r1
  refine ⟨ρ2, v', W4, seen P r'.fn new, ?_, r2, r3, r4, fun e he => r5 e (seen_mem he)⟩
  rw [ret_step (hr.ret ▸ hret2) (show P.funcs[r'.fn]? = some fn from hr.fn ▸ (show P.funcs[y.r.fn]? = some fn from hfn)), r1]
  simp [doReturn, Rec.fr, GStep.after, Conc.G]
 refine .step rfl (fun W3 hr3 => ?_) fun W3 g1 W4 es hr3 hst => ?_
 ·obtain ⟨ρ2, v', W4, es, h1, h2, h3, h4, h5⟩ := hcomp W3 hr3
  exact ⟨_, W4, es, h1, own_of_left hS1 h4 (fun a b q => (h3.lt a b q).2) h5⟩
 ·obtain ⟨ρ2, v', W5, es', h1, h2, h3, h4, h5⟩ := hcomp W3 hr3
  rw [h1] at hst
  simp only [GStep.go.injEq] at hst
  obtain ⟨rfl, rfl, rfl⟩ := hst
  have e2 : re y.w W5.tape W5.drawn = re y.w W3.tape W3.drawn := by rw [<- h3.tape, <- h3.drawn]; rfl
  refine .stop ⟨v, v', ρ2, y.w, rfl, h2, ⟨T, d, hR⟩, by rw [e2]; exact h3, left_grow hS1 h4 (fun a b q => (h3.lt a b q).2), Ren.le_trans hle h4.le, (h4.same ?_ hid1).2⟩
  show y.w.heap.size = W3.heap.size
  rw [hr3.heap]; exact hsz1
theorem wayA_call (hfs : ∀ f, fs.contains f = true -> okBody P G fs f = true) {f : Nat} (hf : fs.contains f = true) {args args' : Array Value} {w0 W : World} {c : Frame} {rest : List Frame} {R : Value -> World -> Prop}
  (hw : WR P.globals.size F ρ (re w0 W.tape W.drawn) W) (ha : VsR ρ args args') (hG : ∀ g, G g = true -> ρ g g) (hS : ∀ a b, ρ a b -> S b \/ F b) (hid : ∀ a b, ρ a b -> a = b) (hsz : w0.heap.size = W.heap.size)
  (hc : ∀ (T : Tape) (d : Nat), Calls P f args (re w0 T d) (fun e w' => ∃ v, e = .returned v /\ R v w')) :
  WayA P F (BackA P F c rest R ρ) S (Conc.G (Frame.enter P f args' .normal) (c :: rest)) W :=
 wayA_run (r := ⟨f, (Frame.enter P f args .normal).tmps, (Frame.enter P f args .normal).todo, false⟩) (r' := ⟨f, (Frame.enter P f args' .normal).tmps, (Frame.enter P f args' .normal).todo, false⟩) hfs (rr_enter (hfs f hf) ha) hw hG hS hid hsz fun base T d => by
  obtain ⟨e, w', fr, ⟨v, rfl, hR⟩, hst, hfn, hm, hd, hk, fn, hfn2, hres⟩ := hc T d base
  obtain ⟨n, hn⟩ := hst
  exact ⟨n, fr, w', hn, hm, v, hR, fn, hfn2, hres⟩
theorem wayA_code (hfs : ∀ f, fs.contains f = true -> okBody P G fs f = true) {f : Nat} {fn : Func} (hf : P.funcs[f]? = some fn) (hfi : (P.inits.idxOf? f).isNone = true) {code : Code} (hok : okCode P G fs code = true) {ts ts' : Array Value} {w0 W : World} {c b : Frame} {rest : List Frame} {R : Value -> World -> Prop}
  (hbf : b.fn = f) (hbk : b.kind = .normal)
  (hw : WR P.globals.size F ρ (re w0 W.tape W.drawn) W) (ha : VsR ρ ts ts') (hG : ∀ g, G g = true -> ρ g g) (hS : ∀ a b, ρ a b -> S b \/ F b) (hid : ∀ a b, ρ a b -> a = b) (hsz : w0.heap.size = W.heap.size)
  (hc : ∀ (T : Tape) (d : Nat), code.wp P (bodyPost P fn (fun e w' => ∃ v, e = .returned v /\ R v w')) ⟨ts, []⟩ (re w0 T d)) :
  WayA P F (BackA P F c rest R ρ) S (Conc.G (b.at ⟨ts', []⟩ [.code code]) (c :: rest)) W := by
 have e0 : ∀ t : Array Value, b.at ⟨t, []⟩ [.code code] = Rec.fr ⟨f, t, [.code code], false⟩ := fun t => by
  obtain ⟨b1, b2, b3, b4, b5, b6⟩ := b
  dsimp only at hbf hbk
  subst hbf hbk
  rfl
 rw [e0]
 refine wayA_run (r := ⟨f, ts, [.code code], false⟩) (r' := ⟨f, ts', [.code code], false⟩) hfs ⟨rfl, by simp, rfl, ha, fun it hit => ?_, ?_⟩ hw hG hS hid hsz fun base T d => ?_
 ·simp only [List.mem_singleton] at hit
  subst hit
  exact hok
 ·unfold okHead
  rw [hf]
  exact hfi
 ·have hb : ∀ a todo, (b.at a todo).fn = f := fun _ _ => hbf
  obtain ⟨e, a', w', hq, harr⟩ := hc T d b [] base
  rw [e0] at harr
  cases e with
  | normal =>
   obtain ⟨hd, v, hr, v2, e2, hR⟩ := hq
   injection e2 with e2
   subst e2
   obtain ⟨n, hn⟩ := Steps.trans harr (.one step_end)
   exact ⟨n, _, w', hn, rfl, v, hR, fn, by show P.funcs[b.fn]? = _; rw [hbf]; exact hf, hr⟩
  | ret =>
   obtain ⟨hd, v, hr, v2, e2, hR⟩ := hq
   injection e2 with e2
   subst e2
   obtain ⟨todo, n, hn⟩ := harr
   exact ⟨n, _, w', hn, rfl, v, hR, fn, by show P.funcs[b.fn]? = _; rw [hbf]; exact hf, hr⟩
  | panic chain =>
   obtain ⟨hd, v2, e2, hR⟩ := hq
   cases e2
  | exit id => exact hq.elim
  | goto l => exact hq.elim
  | outgrown =>
   obtain ⟨v2, e2, hR⟩ := hq
   cases e2
end
end Go.Proofs.YtbicafgmfgdckaaGreatDoor
namespace Go.Proofs.YtbicafgmfgdckaaGreatDoor
open Go Go.Conc
section
variable {P : Program} {G : Nat -> Bool} {fs : List Nat} {K : List Item} {ρ ρ0 : Ren} {F S : Nat -> Prop} {base : List Frame} {R : StopR} {main : Bool}
def EndsK (P : Program) (G : Nat -> Bool) (fs : List Nat) (K : List Item) (F : Nat -> Prop) (base : List Frame) (R : StopR) (ρ0 : Ren) (S : Nat -> Prop) (g : Goroutine) (W : World) : Prop :=
 ∃ (x : LSt) (ρ : Ren) (r' : Rec), x.outR R /\ RR P G fs K ρ x.r r' /\ g = Conc.G r'.fr base /\ WR P.globals.size F ρ (re x.w W.tape W.drawn) W /\ (∀ a b, ρ a b -> S b \/ F b) /\ ρ0.le ρ
theorem end_out {x : LSt} (hend : ∀ fr w, R fr w -> fr.mode = .run) (hb : okHead P x.r.fn = true) (hR : ReachR P [] R x) (hl : x.l = []) (ht : x.r.todo = []) (hr : x.r.ret = false) : x.outR R := by
 obtain ⟨T2, d2, _, n, fr, w1, e, hq⟩ := hR (fun _ _ => 0) 0
 cases n with
 | zero => exact zero_out e hq
 | succ n =>
  exfalso
  have hc : ctl x.r = some { x.r with ret := true } := (show ∀ r : Rec, r.todo = [] -> ctl r = some { r with ret := true } by
   rintro ⟨_, _, _, _⟩ h
   dsimp only at h
   subst h
   rfl) _ ht
  have hs := ctl_step (P := P) (G := fun _ => false) (fs := []) hr (fun it h => by rw [ht] at h; cases h) hc true [] (re x.w T2 d2)
  have hs2 : step P (lone x.r.fr [] (re x.w T2 d2)) = .next (lone (Rec.fr { x.r with ret := true }) [] (re x.w T2 d2)) := lone_go hs
  rw [hl, List.map_nil, List.append_nil, runN_succ hs2] at e
  cases n with
  | zero =>
   simp only [runN, Stepped.next.injEq, lone, Machine.mk.injEq] at e
   have := e.2.1
   simp only [Array.mk.injEq, List.cons.injEq, Goroutine.mk.injEq] at this
   have h2 := hend fr w1 hq
   rw [<- this.1.1] at h2
   simp [Rec.fr] at h2
  | succ n =>
   obtain ⟨o, w2, hs3⟩ := out_stops (r := { x.r with ret := true }) hb rfl (re x.w T2 d2)
   have : runN P (n + 1) (lone (Rec.fr { x.r with ret := true }) [] (re x.w T2 d2)) = .ended o w2 := by
    simp only [runN, hs3]
   rw [this] at e
   cases e
theorem wayK_sim (hfs : ∀ f, fs.contains f = true -> okBody P G fs f = true) (hm : ∀ fr w c, R fr w -> fr.mode ≠ .panicking c) (hend : ∀ fr w, R fr w -> fr.mode = .run) {x : LSt} (hacc : Acc (NxtR P R) x) :
  ∀ {ρ : Ren} {r' : Rec} {l' : List Rec} {W : World} {S : Nat -> Prop}, RR P G fs (botK K x.l) ρ x.r r' -> LR P G fs K ρ x.l l' -> WR P.globals.size F ρ (re x.w W.tape W.drawn) W -> (∀ g, G g = true -> ρ g g) -> (∀ a b, ρ a b -> S b \/ F b) -> ρ0.le ρ ->
   ReachR P [catcher] R x -> ReachR P [] R x ->
   Way P main F (EndsK P G fs K F base R ρ0) S (Conc.G r'.fr (l'.map Rec.fr ++ base)) W := by
 induction hacc with
 | intro x _ ih => ?_
 intro ρ r' l' W S h hl hw hG hS hle hR1 hR2
 by_cases hout : x.outR R
 ·refine .stop ?_
  have e0 := hout.1
  have e : l' = [] := by
   rw [e0] at hl
   cases hl
   rfl
  subst e
  rw [e0] at h
  exact ⟨x, ρ, r', hout, h, rfl, hw, hS, hle⟩
 have hne : x.r.ret = true -> x.l ≠ [] := fun e1 e2 => by
  obtain ⟨T2, d2, _, n, fr, w1, e, hR⟩ := hR2 (fun _ _ => 0) 0
  cases n with
  | zero => exact hout (zero_out e hR)
  | succ n =>
   rw [e2] at e
   obtain ⟨o, w2, hs⟩ := out_stops h.body e1 (re x.w T2 d2)
   have : runN P (n + 1) (lone x.r.fr (List.map Rec.fr [] ++ []) (re x.w T2 d2)) = .ended o w2 := by
    simp only [List.map_nil, List.append_nil, runN, hs]
   rw [this] at e
   cases e
 have hst : x.r.todo ≠ [] \/ botK K x.l = [] := by
  by_cases e : x.l = []
  ·left
   intro q
   cases hr : x.r.ret with
   | true => exact hne hr e
   | false => exact hout (end_out hend h.body hR2 e q hr)
  ·right
   cases hl2 : x.l with
   | nil => exact absurd hl2 e
   | cons a l => rfl
 have both : ∀ W2, Rely S F W W2 -> Both P G fs K F ρ x.r r' x.l l' (re x.w W2.tape W2.drawn) W2 := by
  intro W2 hr
  have hw2 := wr_rely hw hS hr
  rcases sim_step hfs h hl hw2 hG hne hst with hb | hd
  ·exact hb
  ·exfalso
   obtain ⟨T2, d2, hT, n, fr, w1, e, hR⟩ := hR1 W2.tape W2.drawn
   have hnd := not_doomedR hm h.body (lr_body hl) hout e hR
   have hw3 : WR P.globals.size F ρ (re x.w T2 d2) (re W2 T2 d2) := hw2.re T2 d2
   rcases sim_step hfs h hl hw3 hG hne hst with hb | hd3
   ·obtain ⟨r1, l1, w1, _, _, _, _, _, ⟨_, _, e0, hmv⟩, _⟩ := hb
    have hst := hmv W2.tape W2.drawn (fun i _ => (hT i).symm) true [catcher]
    rcases hd [catcher] with ⟨v, w4, es, hx⟩ | ⟨o, w4, es, hx⟩
    ·have e1 := hst.symm.trans hx
     simp only [GStep.go.injEq, Conc.G, Goroutine.mk.injEq] at e1
     have e2 := congrArg Frame.mode e1.1.1
     rw [raise_bad] at e2
     simp only [Rec.bad, Rec.fr] at e2
     split at e2 <;> cases e2
    ·have e1 := hst.symm.trans hx
     cases e1
   ·exact hnd hd3
 refine .step rfl (fun W2 hr => ?_) fun W2 g1 W3 es hr hst => ?_
 ·obtain ⟨r1, l1, w1, r1', l1', w1', ρ1, es, b1, b2, b3, b4, b5, b6, b7⟩ := both W2 hr
  exact ⟨_, w1', es, b2 main base, own_of_left hS b6 (fun a b q => (b5.lt a b q).2) b7⟩
 ·obtain ⟨r1, l1, w1, r1', l1', w1', ρ1, es', b1, b2, b3, b4, b5, b6, b7⟩ := both W2 hr
  have e1 := (b2 main base).symm.trans hst
  simp only [GStep.go.injEq] at e1
  obtain ⟨rfl, rfl, rfl⟩ := e1
  have e2 : re w1 w1'.tape w1'.drawn = w1 := by rw [<- b5.tape, <- b5.drawn]; rfl
  exact ih ⟨r1, l1, w1⟩ ⟨hout, _, _, b1⟩ b3 b4 (by rw [e2]; exact b5) (fun g hg => b6.le _ _ (hG g hg)) (left_grow hS b6 fun a b q => (b5.lt a b q).2) (Ren.le_trans hle b6.le) (reach_moveR hR1 hout b1) (reach_moveR hR2 hout b1)
def SegAt (P : Program) (F : Nat -> Prop) (b : Frame) (k : List Item) (cs : List Frame) (Q : Array Value -> World -> Prop) (ρ : Ren) (S : Nat -> Prop) (g : Goroutine) (W : World) : Prop :=
 ∃ ts ts' ρ1 w1, g = Conc.G (b.at ⟨ts', []⟩ k) cs /\ VsR ρ1 ts ts' /\ (∃ T d, Q ts (re w1 T d)) /\ WR P.globals.size F ρ1 (re w1 W.tape W.drawn) W /\ (∀ a b, ρ1 a b -> S b \/ F b) /\ ρ.le ρ1
theorem way_seg (hfs : ∀ f, fs.contains f = true -> okBody P G fs f = true) {f : Nat} {fn : Func} (hf : P.funcs[f]? = some fn) (hfi : (P.inits.idxOf? f).isNone = true) {code : Code} (hok : okCode P G fs code = true) {ts ts' : Array Value} {w0 W : World} {b : Frame} {k : List Item} {cs : List Frame} {Q : Array Value -> World -> Prop}
  (hbf : b.fn = f) (hbk : b.kind = .normal)
  (hw : WR P.globals.size F ρ (re w0 W.tape W.drawn) W) (ha : VsR ρ ts ts') (hG : ∀ g, G g = true -> ρ g g) (hS : ∀ a b, ρ a b -> S b \/ F b)
  (hc : ∀ (T : Tape) (d : Nat), code.wp P (fun e a' w' => e = .normal /\ a'.defers = [] /\ Q a'.tmps w') ⟨ts, []⟩ (re w0 T d)) :
  Way P main F (SegAt P F b k cs Q ρ) S (Conc.G (b.at ⟨ts', []⟩ (.code code :: k)) cs) W := by
 have e0 : ∀ (t : Array Value) (kk : List Item), b.at ⟨t, []⟩ kk = Rec.fr ⟨f, t, kk, false⟩ := fun t kk => by
  obtain ⟨b1, b2, b3, b4, b5, b6⟩ := b
  dsimp only at hbf hbk
  subst hbf hbk
  rfl
 rw [e0]
 let R : StopR := fun fr w => fr.todo = [] /\ fr.mode = .run /\ fr.fn = f /\ Q fr.tmps w
 let x : LSt := ⟨⟨f, ts, [.code code], false⟩, [], w0⟩
 have hreach : ∀ base : List Frame, ∀ (T : Tape) (d : Nat), ∃ n fr w1, runN P n (lone x.r.fr (x.l.map Rec.fr ++ base) (re x.w T d)) = .next (lone fr base w1) /\ R fr w1 := by
  intro base T d
  obtain ⟨e, a', w', ⟨rfl, hd, hq⟩, harr⟩ := hc T d b [] base
  rw [e0] at harr
  obtain ⟨n, hn⟩ := harr
  obtain ⟨at1, at2⟩ := a'
  dsimp only at hd hq
  subst hd
  exact ⟨n, _, w', hn, rfl, by rw [e0]; rfl, hbf, hq⟩
 have hacc : Acc (NxtR P R) x := acc_ofR (base := []) fun T d => hreach [] T d
 have hrr : RR P G fs (botK k x.l) ρ x.r ⟨f, ts', .code code :: k, false⟩ := by
  refine ⟨rfl, rfl, rfl, ha, fun it hit => ?_, ?_⟩
  ·simp only [x, List.mem_singleton] at hit
   subst hit
   exact hok
  ·unfold okHead
   rw [hf]
   exact hfi
 have h1 := wayK_sim (main := main) (base := cs) (S := S) (W := W) (ρ0 := ρ) (K := k) hfs (fun fr w c h e => by rw [h.2.1] at e; cases e) (fun fr w h => h.2.1) hacc hrr .nil hw hG hS (Ren.le_refl _)
  (fun T d => ⟨T, d, fun _ => rfl, hreach [catcher] T d⟩) (fun T d => ⟨T, d, fun _ => rfl, hreach [] T d⟩)
 refine Way.bind h1 fun S2 g W2 hE => .stop ?_
 obtain ⟨y, ρ1, r', ⟨_, T, d, q1, q2, q3, q4⟩, hr, rfl, hw1, hS1, hle⟩ := hE
 refine ⟨y.r.tmps, r'.tmps, ρ1, y.w, ?_, hr.tmps, ⟨T, d, q4⟩, hw1, hS1, hle⟩
 have t1 : r'.todo = k := by
  have : y.r.todo = [] := q1
  rw [hr.todo, this, List.nil_append]
 have t2 : r'.fn = f := by rw [<- hr.fn]; exact q3
 have t3 : r'.ret = false := by
  rw [<- hr.ret]
  cases hq : y.r.ret with
  | false => rfl
  | true => rw [show y.r.fr.mode = .returning by simp [Rec.fr, hq]] at q2; cases q2
 rw [e0]
 obtain ⟨r1, r2, r3, r4⟩ := r'
 dsimp only at t1 t2 t3
 subst t1 t2 t3
 rfl
end
end Go.Proofs.YtbicafgmfgdckaaGreatDoor
namespace Go.Proofs.YtbicafgmfgdckaaGreatDoor
open Go Go.Conc
section
variable {P : Program} {G : Nat -> Bool} {fs : List Nat} {main : Bool} {F : Nat -> Prop}
def runsOf (P : Program) : List Code -> (Array Value -> World -> Prop) -> Array Value -> World -> Prop
 | [], Q, ts, w => Q ts w
 | c :: l, Q, ts, w => ∀ (T : Tape) (d : Nat), c.wp P (fun e a' w' => e = .normal /\ a'.defers = [] /\ runsOf P l Q a'.tmps w') ⟨ts, []⟩ (re w T d)
theorem way_still {K : (Nat -> Prop) -> Goroutine -> World -> Prop} {S : Nat -> Prop} {g g' : Goroutine} {w : World} (hg : g.status = .running) (hs : ∀ w2, stepG P main g w2 = .go g' w2 #[]) (h : ∀ w2, Rely S F w w2 -> Way P main F K S g' w2) : Way P main F K S g w := by
 refine .step hg (fun w2 _ => ⟨_, _, _, hs w2, own_still S F w2⟩) fun w2 g1 w3 es hr e => ?_
 rw [hs w2] at e
 simp only [GStep.go.injEq] at e
 obtain ⟨rfl, rfl, rfl⟩ := e
 rw [grow_self]
 exact h _ hr
theorem way_segs (hfs : ∀ f, fs.contains f = true -> okBody P G fs f = true) {f : Nat} {fn : Func} (hf : P.funcs[f]? = some fn) (hfi : (P.inits.idxOf? f).isNone = true) {b : Frame} {k : List Item} {cs : List Frame} {Q : Array Value -> World -> Prop} {rest : Code}
  (hbf : b.fn = f) (hbk : b.kind = .normal) : ∀ (codes : List Code) {ρ : Ren} {ts ts' : Array Value} {w0 W : World} {S : Nat -> Prop}, (∀ c ∈ codes, okCode P G fs c = true) -> WR P.globals.size F ρ (re w0 W.tape W.drawn) W -> VsR ρ ts ts' -> (∀ g, G g = true -> ρ g g) -> (∀ a b, ρ a b -> S b \/ F b) ->
   (∃ T d, runsOf P codes Q ts (re w0 T d)) -> Way P main F (SegAt P F b (.code rest :: k) cs Q ρ) S (Conc.G (b.at ⟨ts', []⟩ (.code (codes.foldr .seq rest) :: k)) cs) W
 | [], ρ, ts, ts', w0, W, S, _, hw, ha, _, hS, hq => .stop ⟨ts, ts', ρ, w0, rfl, ha, hq, hw, hS, Ren.le_refl _⟩
 | c :: l, ρ, ts, ts', w0, W, S, hok, hw, ha, hG, hS, ⟨T0, d0, hq⟩ => by
  refine way_still rfl (fun w2 => stepG_seq) fun W2 hr => ?_
  refine Way.bind (way_seg (main := main) (S := S) hfs hf hfi (hok c (by simp)) hbf hbk (wr_rely hw hS hr) ha hG hS (Q := runsOf P l Q) (k := .code (l.foldr .seq rest) :: k) (cs := cs) fun T d => hq T d) fun S2 g W3 hE => ?_
  obtain ⟨ts1, ts1', ρ1, w1, rfl, h1, ⟨T, d, h2⟩, h3, h4, h5⟩ := hE
  refine Way.bind (way_segs hfs hf hfi hbf hbk l (fun c h => hok c (by simp [h])) h3 h1 (fun g hg => h5 _ _ (hG g hg)) h4 ⟨T, d, h2⟩) fun S3 g W4 hE => .stop ?_
  obtain ⟨ts2, ts2', ρ2, w2, e, q1, q2, q3, q4, q5⟩ := hE
  exact ⟨ts2, ts2', ρ2, w2, e, q1, q2, q3, q4, Ren.le_trans h5 q5⟩
end
end Go.Proofs.YtbicafgmfgdckaaGreatDoor
