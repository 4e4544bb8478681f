/- A LONE CONTRACT, IN COMPANY. For any program. A lone world out of the company's: what may be touched is kept where it is alike to itself, all else says nothing. For any program. -/
import Derived.Test.YtbicafgmfgdckaaGreatDoorMgAq
namespace Go.Proofs.YtbicafgmfgdckaaGreatDoor
open Go Go.Conc

section
variable {P : Program} {G : Nat -> Bool} {fs : List Nat} {ρ : Ren} {main : Bool} {F S : Nat -> Prop}
def Back (P : Program) (F : Nat -> Prop) (c : Frame) (rest : List Frame) (R : Value -> World -> Prop) (ρ : Ren) (S : Nat -> Prop) (g : Goroutine) (W : World) : Prop :=
 ∃ v v' ρ1 w1, g = Conc.G (c.finish v') rest /\ VR ρ1 v v' /\ (∃ T d, R v (re w1 T d)) /\ WR P.globals.size F ρ1 (re w1 W.tape W.drawn) W /\ (∀ a b, ρ1 a b -> S b \/ F b) /\ ρ.le ρ1
theorem own_still (S F : Nat -> Prop) (w : World) : Own S F w w #[] := ⟨Nat.le_refl _, rfl, rfl, rfl, fun _ _ _ => rfl, fun e he => by simp at he⟩
theorem grow_self (S : Nat -> Prop) (w : World) : grow S w w = S := by
 funext b
 unfold grow
 apply propext
 constructor
 ·rintro (h | ⟨h1, h2⟩)
  ·exact h
  ·omega
 ·exact .inl
theorem way_call (hfs : ∀ f, fs.contains f = true -> okBody P G fs f = true) {f : Nat} (hf : fs.contains f = true) {args args' : Array Value} {w0 W : World} {c : Frame} {rest : List Frame} {R : Value -> World -> Prop}
  (hw : WR P.globals.size F ρ (re w0 W.tape W.drawn) W) (ha : VsR ρ args args') (hG : ∀ g, G g = true -> ρ g g) (hS : ∀ a b, ρ a b -> S b \/ F b)
  (hc : ∀ (T : Tape) (d : Nat), Calls P f args (re w0 T d) (fun e w' => ∃ v, e = .returned v /\ R v w')) :
  Way P main F (Back P F c rest R ρ) S (Conc.G (Frame.enter P f args' .normal) (c :: rest)) W := by
 let x : LSt := ⟨⟨f, (Frame.enter P f args .normal).tmps, (Frame.enter P f args .normal).todo, false⟩, [], w0⟩
 have hreach : ∀ base : List Frame, ∀ (T : Tape) (d : Nat), ∃ n fr w1, runN P n (lone x.r.fr (x.l.map Rec.fr ++ base) (re x.w T d)) = .next (lone fr base w1) /\ fr.mode = .returning /\ (∃ v, R v w1 /\ ∃ fn, P.funcs[fr.fn]? = some fn /\ (results fn fr.tmps).run P w1 = .ok v w1) := by
  intro base T d
  obtain ⟨e, w', fr, ⟨v, rfl, hR⟩, hst, hfn, hm, hd, hk, fn, hfn2, hres⟩ := hc T d base
  obtain ⟨n, hn⟩ := hst
  exact ⟨n, fr, w', hn, hm, v, hR, fn, hfn2, hres⟩
 have hacc : Acc (Nxt P) x := acc_of (base := []) fun T d => by
  obtain ⟨n, fr, w1, e, hm, _⟩ := hreach [] T d
  exact ⟨n, fr, w1, e, hm⟩
 have hrr : RR P G fs [] ρ x.r ⟨f, (Frame.enter P f args' .normal).tmps, (Frame.enter P f args' .normal).todo, false⟩ := rr_enter (hfs f hf) ha
 have h1 := way_sim (main := main) (base := c :: rest) (S := S) (W := W) (ρ0 := ρ) (R := fun fr w1 => ∃ v, R v w1 /\ ∃ fn, P.funcs[fr.fn]? = some fn /\ (results fn fr.tmps).run P w1 = .ok v w1) hfs hacc hrr .nil hw hG hS (Ren.le_refl _)
  (fun T d => ⟨T, d, fun _ => rfl, by obtain ⟨n, fr, w1, e, hm, _⟩ := hreach [catcher] T d; exact ⟨n, fr, w1, e, hm, trivial⟩⟩)
  (fun T d => ⟨T, d, fun _ => rfl, hreach [] T d⟩)
 refine Way.bind h1 fun S2 g W2 hE => ?_
 obtain ⟨y, ρ1, r', ⟨hret, _⟩, hr, rfl, hw1, hS1, hle, T, d, v, hR, fn, hfn, hres⟩ := hE
 have hcomp : ∀ W3, Rely S2 F W2 W3 -> ∃ ρ2 v' W4 es, stepG P main (Conc.G r'.fr (c :: rest)) W3 = .go (Conc.G (c.finish v') rest) W4 es /\ VR ρ2 v v' /\ WR P.globals.size F ρ2 (re y.w W3.tape W3.drawn) W4 /\ Left F ρ1 ρ2 (re y.w W3.tape W3.drawn) W3 (re y.w W3.tape W3.drawn) W4 /\ ∀ e ∈ es, EvR F ρ2 e := fun W3 hr3 => by
  have hw3 := wr_rely hw1 hS1 hr3
  have hsr := sr_results (P := P) (fn := fn) hr.tmps
  have hrt : (results fn y.r.tmps).runT P (re y.w T d) #[] = (.ok v (re y.w T d), ((results fn y.r.tmps).runT P (re y.w T d) #[]).2) := by
   refine Prod.ext ?_ rfl
   rw [Sem.runT_fst]
   exact hres
  have h2 := (run_SR_tape P hsr (re y.w T d) (re W3 T d) #[] (hw3.re T d) v _ _ hrt).2.2 W3.tape W3.drawn fun i hi => by
   simp only [re_drawn] at hi
   omega
  simp only [re_re, re_drawn, Nat.sub_self, Nat.add_zero] at h2
  obtain ⟨ρ2, v', W4, new, r1, r2, r3, r4, r5⟩ := run_SR P hsr (re y.w W3.tape W3.drawn) W3 #[] #[] hw3 v _ _ h2
  rw [Array.empty_append] at r1
  refine ⟨ρ2, v', W4, seen P r'.fn new, ?_, r2, r3, r4, fun e he => r5 e (seen_mem he)⟩
  rw [ret_step (hr.ret ▸ hret) (show P.funcs[r'.fn]? = some fn from hr.fn ▸ (show P.funcs[y.r.fn]? = some fn from hfn)), r1]
  simp [doReturn, Rec.fr, GStep.after, Conc.G]
 refine .step rfl (fun W3 hr3 => ?_) fun W3 g1 W4 es hr3 hst => ?_
 ·obtain ⟨ρ2, v', W4, es, h1, h2, h3, h4, h5⟩ := hcomp W3 hr3
  exact ⟨_, W4, es, h1, own_of_left hS1 h4 (fun a b q => (h3.lt a b q).2) h5⟩
 ·obtain ⟨ρ2, v', W5, es', h1, h2, h3, h4, h5⟩ := hcomp W3 hr3
  rw [h1] at hst
  simp only [GStep.go.injEq] at hst
  obtain ⟨rfl, rfl, rfl⟩ := hst
  have e2 : re y.w W5.tape W5.drawn = re y.w W3.tape W3.drawn := by rw [<- h3.tape, <- h3.drawn]; rfl
  exact .stop ⟨v, v', ρ2, y.w, rfl, h2, ⟨T, d, hR⟩, by rw [e2]; exact h3, left_grow hS1 h4 (fun a b q => (h3.lt a b q).2), Ren.le_trans hle h4.le⟩
end
end Go.Proofs.YtbicafgmfgdckaaGreatDoor
namespace Go.Proofs.YtbicafgmfgdckaaGreatDoor
open Go Go.Conc
theorem exists_vr (ρ : Ren) : ∀ v : Value, ∃ u, VR ρ u v
 | .agg cs => by
  have h : ∀ i (hi : i < cs.size), ∃ u, VR ρ u cs[i] := fun i hi => exists_vr ρ cs[i]
  refine ⟨.agg (Array.ofFn fun i : Fin cs.size => (h i.1 i.2).choose), .agg (by simp) fun i h1 h2 => ?_⟩
  rw [Array.getElem_ofFn]
  exact (h i h2).choose_spec
 | .tuple cs => by
  have h : ∀ i (hi : i < cs.size), ∃ u, VR ρ u cs[i] := fun i hi => exists_vr ρ cs[i]
  refine ⟨.tuple (Array.ofFn fun i : Fin cs.size => (h i.1 i.2).choose), .tuple (by simp) fun i h1 h2 => ?_⟩
  rw [Array.getElem_ofFn]
  exact (h i h2).choose_spec
 | .bool b => ⟨.bool b, .bool b⟩
 | .int .. | .float .. | .complex .. | .string .. | .pointer .. | .slice .. | .func .. | .nilFunc | .iface .. | .nilIface | .map .. | .chan .. => ⟨.nilIface, .nilIface _ rfl⟩
def voidA : Addr := ⟨0, 0, some 0⟩
open Classical in
noncomputable def tameV (ρ : Ren) (v : Value) : Value := if VR ρ v v then v else match v with
 | .slice (some _) 0 0 => .slice (some voidA) 0 0
 | v => (exists_vr ρ v).choose
theorem vr_tame (ρ : Ren) (v : Value) : VR ρ (tameV ρ v) v := by
 unfold tameV
 split
 ·assumption
 ·split
  ·exact .slz rfl
  ·exact (exists_vr ρ _).choose_spec
theorem tame_self {ρ : Ren} {v : Value} (h : VR ρ v v) : tameV ρ v = v := by unfold tameV; rw [if_pos h]
open Classical in
noncomputable def loneObj (ρ : Ren) (F : Nat -> Prop) (b : Nat) : Obj -> Obj
 | .cells cs t _ => .cells (cs.map (tameV ρ)) t (if F b then (0, cs.size) else (0, 0))
 | _ => .cells #[] 0 (0, 0)
noncomputable def loneW (ρ : Ren) (F : Nat -> Prop) (W : World) : World := { W with heap := W.heap.mapIdx (loneObj ρ F) }
section
variable {ρ : Ren} {F T : Nat -> Prop} {W : World} {gs : Nat}
theorem lone_size : (loneW ρ F W).heap.size = W.heap.size := by simp [loneW]
theorem lone_get (b : Nat) : (loneW ρ F W).heap[b]? = (W.heap[b]?).map (loneObj ρ F b) := by simp [loneW]
theorem lone_cell {a : Addr} {v : Value} (h : W.cell? a = some v) (hv : VR ρ v v) : (loneW ρ F W).cell? a = some v := by
 unfold World.cell? at h ⊢
 rw [lone_get]
 cases hb : W.heap[a.block]? with
 | none => rw [hb] at h; cases h
 | some o =>
  rw [hb] at h
  cases o with
  | cells cs t fr =>
   show (if a.spot.isSome then none else (cs.map (tameV ρ))[a.off]?) = _
   dsimp only at h
   split at h
   ·cases h
   ·rename_i hs
    rw [if_neg hs, Array.getElem?_map, h, Option.map_some, tame_self hv]
  | _ => cases h
theorem tame_void {ρ : Ren} (x : Addr) : ∃ ad, tameV ρ (.slice (some x) 0 0) = .slice (some ad) 0 0 := by
 unfold tameV
 split
 ·exact ⟨x, rfl⟩
 ·exact ⟨voidA, rfl⟩
theorem lone_cell_tame {a : Addr} {v : Value} (h : W.cell? a = some v) : (loneW ρ F W).cell? a = some (tameV ρ v) := by
 unfold World.cell? at h ⊢
 rw [lone_get]
 cases hb : W.heap[a.block]? with
 | none => rw [hb] at h; cases h
 | some o =>
  rw [hb] at h
  cases o with
  | cells cs t fr =>
   show (if a.spot.isSome then none else (cs.map (tameV ρ))[a.off]?) = _
   dsimp only at h
   split at h
   ·cases h
   ·rename_i hs
    rw [if_neg hs, Array.getElem?_map, h, Option.map_some]
  | _ => cases h
def diag (T : Nat -> Prop) : Ren := fun a b => a = b /\ T b
open Classical in
theorem wr_lone (hF : ∀ b, F b -> b < W.heap.size) (hg : gs <= W.heap.size) (hT : ∀ b, T b -> ∃ cs t fr, W.heap[b]? = some (.cells cs t fr) /\ (¬ F b -> fr = (0, 0))) : WR gs F (diag T) (re (loneW (diag T) F W) W.tape W.drawn) W := by
 refine ⟨rfl, rfl, fun a b c h h' => h.1.symm.trans h'.1, fun a b c h h' => h.1.trans h'.1.symm, hF, fun a b h _ => h.1, ?_, fun b o e => ?_, fun a b h => ?_⟩
 ·show gs <= (loneW (diag T) F W).heap.size
  rw [lone_size]; exact hg
 ·have e2 : (loneW (diag T) F W).heap[b]? = some o := e
  rw [lone_get] at e2
  cases hb : W.heap[b]? with
  | none => rw [hb] at e2; cases e2
  | some o2 =>
   rw [hb] at e2
   simp only [Option.map_some, Option.some.injEq] at e2
   subst e2
   cases o2 <;> exact .inl ⟨_, _, _, rfl⟩
 ·obtain ⟨rfl, hb⟩ := h
  obtain ⟨cs, t, fr, e, hfr⟩ := hT a hb
  have e2 : (re (loneW (diag T) F W) W.tape W.drawn).heap[a]? = some (loneObj (diag T) F a (.cells cs t fr)) := by
   show (loneW (diag T) F W).heap[a]? = _
   rw [lone_get, e]; rfl
  refine ⟨_, _, e2, e, ?_⟩
  show t = t /\ VsR (diag T) (cs.map (tameV (diag T))) cs /\ (F a -> ∀ o, o < (cs.map (tameV (diag T))).size -> (if F a then (0, cs.size) else (0, 0)).1 <= o /\ o < (if F a then (0, cs.size) else (0, 0)).2) /\ (¬ F a -> (if F a then (0, cs.size) else (0, 0)) = (0, 0) /\ fr = (0, 0))
  refine ⟨rfl, ⟨by simp, fun i h1 h2 => ?_⟩, fun hFa o ho => ?_, fun hFa => ?_⟩
  ·rw [Array.getElem_map]
   exact vr_tame _ _
  ·rw [if_pos hFa]
   rw [Array.size_map] at ho
   exact ⟨Nat.zero_le _, ho⟩
  ·rw [if_neg hFa]
   exact ⟨rfl, hfr hFa⟩
end
end Go.Proofs.YtbicafgmfgdckaaGreatDoor
