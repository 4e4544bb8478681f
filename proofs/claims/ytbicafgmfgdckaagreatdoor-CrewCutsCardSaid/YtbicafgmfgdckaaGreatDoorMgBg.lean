/- The crew's pact: main by itself, between phases. For any program. The crew's pact: who is by itself makes blocks, and a phase begins: main without a phase, or who has the phase, ahead of it. For any program. Feed, in the crew. -/
import Derived.Test.YtbicafgmfgdckaaGreatDoorMgBe
import Derived.Conc.Own2
import Derived.Test.YtbicafgmfgdckaaGreatDoorProg
import Derived.Conc.WgGenW
import Derived.Walk
import Derived.KernelRfl
namespace Go.Proofs.YtbicafgmfgdckaaGreatDoor
open Go Go.Conc
open Go.ConcR (KK wgBlock WgAt stA smA rd wr mk DC0)
open Go.ConcN (sumTo upd upd_same upd_ne RelBy PermW WgLive)
section
variable {ty : TypeId} {top : Nat} {γ γ' γ2 : Gho} {p : Ph} {c : Col} {w w' w2 : World} {i j n : Nat} {P : Program} {Post : Value -> World -> Prop} {es : Array Event} {g g' : Goroutine} {b : Frame} {a : Act} {k : List Item} {cs : List Frame}
structure Solo (γ : Gho) (w : World) : Prop where
 ph : γ.ph = none
 col : γ.col = none
 tag : γ.tag 0 = .solo
 deaf : γ.deaf 0 = 0
 hs : γ.hs = w.heap.size
 bk : ∀ b, b < γ.hs -> γ.bk b = .priv 0 \/ ∃ s, γ.bk b = .shd s
theorem Solo.ng (s : Solo γ w) : γ.tag 0 ≠ .gone := by rw [s.tag]; simp
theorem Solo.ns (s : Solo γ w) : ¬ (γ.tag 0).tied := by rw [s.tag]; exact fun h => h
theorem Solo.rel (s : Solo γ w) (h : Rel 0 γ w γ2 w2) : Solo γ2 w2 /\ w2.heap = w.heap /\ w2.tape = w.tape /\ γ2.hs = γ.hs /\ γ2.cnt = γ.cnt /\ ∀ b, b < γ.hs -> γ2.bk b = γ.bk b := by
 have l := h.live s.ng
 obtain ⟨e1, e2, e5⟩ := l.still rfl s.col s.ph
 have e3 : ∀ b, b < γ.hs -> γ2.bk b = γ.bk b := fun b hb => l.bk b hb fun j hj q => by
  rcases s.bk b hb with e | ⟨x, e⟩ <;> (rw [e] at q; cases q)
  exact hj rfl
 exact ⟨⟨l.pn s.ph (.inr s.col), l.col.trans s.col, h.tag.trans s.tag, h.deaf.trans s.deaf, by rw [e2, e1]; exact s.hs, fun b hb => by rw [e2] at hb; rw [e3 b hb]; exact s.bk b hb⟩, e1, l.tape, e2, e5, e3⟩
structure Later2 (γ γ' : Gho) : Prop where
 hs : γ.hs <= γ'.hs
 cnt : γ'.cnt = γ.cnt
 bk : ∀ b, b < γ.hs -> γ'.bk b = γ.bk b
theorem Later2.refl (γ : Gho) : Later2 γ γ := ⟨Nat.le_refl _, rfl, fun _ _ => rfl⟩
theorem Later2.trans {γ3 : Gho} (h : Later2 γ γ2) (h' : Later2 γ2 γ3) : Later2 γ γ3 := ⟨Nat.le_trans h.hs h'.hs, h'.cnt.trans h.cnt, fun b hb => (h'.bk b (Nat.lt_of_lt_of_le hb h.hs)).trans (h.bk b hb)⟩
theorem solo_own (s : Solo γ w) (hr : g.status = .running) (h : ∀ w2, w2.heap = w.heap -> w2.tape = w.tape -> ∃ g' w' es, stepG P true g w2 = .go g' w' es /\ Own (γ.S 0) (fun _ => False) w2 w' es /\
  ∀ γ', Solo γ' w' -> Later2 γ γ' -> (∀ b, γ.hs <= b -> b < w'.heap.size -> γ'.bk b = .priv 0) -> LV P ty top Post 0 γ' w' g') : LV P ty top Post 0 γ w g := by
 refine lives_own hr s.ns fun γ2 w2 hrl hI => ?_
 obtain ⟨s2, e1, e2, e3, e5, e4⟩ := s.rel hrl
 obtain ⟨g', w', es, h1, h2, h3⟩ := h w2 e1 e2
 have hS := hrl.S s.ng
 refine ⟨g', w', es, h1, ?_, h3 _ ⟨s2.ph, s2.col, s2.tag, s2.deaf, rfl, fun b hb => ?_⟩ ⟨?_, e5, fun b hb => ?_⟩ fun b h4 h5 => ?_⟩
 ·rw [hS]; exact h2.mono fun _ q => q.elim
 ·by_cases q : γ2.hs <= b
  ·left; simp [Gho.grown, q]
  ·rw [grown_bk (by omega)]; exact s2.bk b (by omega)
 ·show γ.hs <= w'.heap.size
  have := h2.size
  rw [s.hs, <- e1]; exact this
 ·rw [grown_bk (by omega)]; exact e4 b hb
 ·simp [Gho.grown, e3, h4]
theorem solo_goes (s : Solo γ w) (hr : g.status = .running) (h : ∀ w2, w2.heap = w.heap -> w2.tape = w.tape -> (stepG P true g w2).goes fun g' w' es => Own (γ.S 0) (fun _ => False) w2 w' es /\
  ∀ γ' w1, w1.heap = w'.heap -> w1.tape = w'.tape -> Solo γ' w1 -> Later2 γ γ' -> (∀ b, γ.hs <= b -> b < w'.heap.size -> γ'.bk b = .priv 0) -> LV P ty top Post 0 γ' w1 g') : LV P ty top Post 0 γ w g :=
 solo_own s hr fun w2 e1 e2 => by
  obtain ⟨g', w', es, h1, h2, h3⟩ := goes_inv (h w2 e1 e2)
  exact ⟨g', w', es, h1, h2, fun γ' => h3 γ' w' rfl rfl⟩
theorem own_push {S F : Nat -> Prop} {w w' : World} {o : Obj} {es : Array Event} (e : w'.heap = w.heap.push o) (et : w'.tape = w.tape) (eo : w'.os = w.os) (eu : w'.output = w.output) (he : ∀ e ∈ es, False) : Own S F w w' es :=
 ⟨by rw [e]; simp, et, eo, eu, (fun b hb _ => by rw [e, Array.getElem?_push, if_neg (Nat.ne_of_lt hb)]), fun e h => (he e h).elim⟩
theorem own_set {S F : Nat -> Prop} (w : World) (a : Addr) (v : Value) (hS : S a.block) {es : Array Event} (he : ∀ e ∈ es, e = ⟨.cell a, true, false⟩) : Own S F w (w.setCell a v) es :=
 ⟨by rw [size_cell]; exact Nat.le_refl _, rfl, rfl, rfl, fun b _ hb => heap_cell_ne _ _ _ fun q => hb (by rw [q]; exact hS), fun e h => .inl ⟨a, by rw [he e h], by rw [he e h], .inl (.inl hS)⟩⟩
theorem heap_set_last {w : World} {A : Array Obj} {v u : Value} {t : TypeId} (h : w.heap = A.push (.cells #[u] t)) : (w.setCell ⟨A.size, 0, none⟩ v).heap = A.push (.cells #[v] t) := by
 refine Array.ext_getElem? fun b => ?_
 by_cases hb : b = A.size
 ·subst hb; rw [heap_setCell, if_pos rfl, h]; simp
 ·rw [heap_cell_ne _ _ _ hb, h, Array.getElem?_push, Array.getElem?_push, if_neg hb, if_neg hb]
theorem stepG_gov {main : Bool} {ops : Array Oper} {l : Nat} {rest : List Nat} {o : Oper} {f : FuncId} {x : Operand} {ats : Array TypeId} {caps : Array Value}
  (ho : ops[l]? = some o) (hw : Region.wanted o (yielded ops a.tmps) = true) (hk : b.kind ≠ .early) (hop : o.op = .go { callee := .value x, args := #[], argTypes := ats }) (hx : a.eval x = .func (.func f) #[] caps) :
  stepG P main (G (b.at a (.inRegion ops (l :: rest) :: k)) cs) w = .spawn (G (b.at (a.put o.dst undef) (.inRegion ops rest :: k)) cs) (born P { target := .fn (.func f) caps, args := #[] }) w #[] := by
 have hr : (execOp a.eval o).run P w = .ok (.spawn { target := .fn (.func f) caps, args := #[] }) w := by
  unfold execOp
  simp [hop, resolve, Deferred.ofValue, hx]
 have he : (execOp a.eval o).events P w #[] = #[] := by
  unfold execOp
  simp [hop, resolve, Deferred.ofValue, hx]
 rw [stepG_spawn ho hw hk hr rfl, array_nil (no_listed he)]
end
end Go.Proofs.YtbicafgmfgdckaaGreatDoor
namespace Go.Proofs.YtbicafgmfgdckaaGreatDoor
open Go Go.Conc
open Go.ConcR (KK wgBlock WgAt stA smA rd wr mk DC0)
open Go.ConcN (sumTo upd upd_same upd_ne RelBy PermW WgLive)
section
variable {ty : TypeId} {top : Nat} {γ γ' γ1 γ2 : Gho} {p : Ph} {c : Col} {w w' w1 w2 : World} {i j n : Nat} {P : Program} {Post : Value -> World -> Prop} {es : Array Event} {g g' : Goroutine} {b : Frame} {a : Act} {k : List Item} {cs : List Frame}
structure Lon (i : Nat) (γ : Gho) (w : World) : Prop where
 lone : Lonely i γ
 tag : γ.tag i = .solo \/ γ.tag i = .pre
 deaf : γ.deaf i = 0
 hs : γ.hs = w.heap.size
theorem Lon.ng (s : Lon i γ w) : γ.tag i ≠ .gone := by rcases s.tag with e | e <;> (rw [e]; simp)
theorem Lon.ns (s : Lon i γ w) : ¬ (γ.tag i).tied := by rcases s.tag with e | e <;> (rw [e]; exact fun h => h)
theorem Solo.lon (s : Solo γ w) : Lon 0 γ w := ⟨⟨s.ph, .inl ⟨rfl, s.col⟩⟩, .inl s.tag, s.deaf, s.hs⟩
structure LonLater (X : Nat -> Prop) (i : Nat) (γ : Gho) (w : World) (γ' : Gho) (w' : World) : Prop where
 hs : γ.hs <= γ'.hs
 cnt : γ'.cnt = γ.cnt
 bk : ∀ b, b < γ.hs -> (∀ j, j ≠ i -> γ.bk b ≠ .priv j) -> γ'.bk b = γ.bk b
 heap : ∀ b, b < γ.hs -> ¬ X b -> (γ.bk b = .priv i \/ γ.bk b = .shd i \/ ∃ m, m <= i /\ γ.bk b = .fix m) -> w'.heap[b]? = w.heap[b]?
 tape : w'.tape = w.tape
 col : γ'.col = γ.col
 tag : γ'.tag i = γ.tag i
theorem LonLater.refl (X : Nat -> Prop) (i : Nat) (γ : Gho) (w : World) : LonLater X i γ w γ w := ⟨Nat.le_refl _, rfl, fun _ _ _ => rfl, fun _ _ _ _ => rfl, rfl, rfl, rfl⟩
theorem own_same {X : Nat -> Prop} (l : LonLater X i γ w γ' w') {b : Nat} (hb : b < γ.hs) (h : γ.bk b = .priv i \/ γ.bk b = .shd i \/ ∃ m, m <= i /\ γ.bk b = .fix m) : γ'.bk b = γ.bk b := l.bk b hb fun j hj e => by
 rcases h with q | q | ⟨m, _, q⟩ <;> (rw [q] at e; cases e)
 exact hj rfl
theorem LonLater.trans {X Y Z : Nat -> Prop} (h : LonLater X i γ w γ1 w1) (h' : LonLater Y i γ1 w1 γ2 w2) (hX : ∀ b, X b -> Z b) (hY : ∀ b, b < γ.hs -> Y b -> Z b) : LonLater Z i γ w γ2 w2 := by
 refine ⟨Nat.le_trans h.hs h'.hs, h'.cnt.trans h.cnt, fun b hb hj => ?_, fun b hb hx q => ?_, h'.tape.trans h.tape, h'.col.trans h.col, h'.tag.trans h.tag⟩
 ·have e1 := h.bk b hb hj
  exact (h'.bk b (Nat.lt_of_lt_of_le hb h.hs) fun j hj' => by rw [e1]; exact hj j hj').trans e1
 ·exact (h'.heap b (Nat.lt_of_lt_of_le hb h.hs) (fun r => hx (hY b hb r)) (by rw [own_same h hb q]; exact q)).trans (h.heap b hb (fun r => hx (hX b r)) q)
theorem Lon.rel (s : Lon i γ w) (hI : GInv ty top γ2 w2) (h : Rel i γ w γ2 w2) : Lon i γ2 w2 /\ LonLater (fun _ => False) i γ w γ2 w2 := by
 have l := h.live s.ng
 obtain ⟨lp, lc⟩ := s.lone
 have hnc : γ.nc i := by
  rcases lc with ⟨_, q⟩ | ⟨q, _⟩
  ·exact .inr q
  ·exact .inl q
 have hp2 := l.pn lp hnc
 have e : γ2.cnt = γ.cnt /\ ∀ b, b < γ.hs -> γ.bk b = .shd i -> w2.heap[b]? = w.heap[b]? := by
  rcases lc with ⟨q1, q2⟩ | ⟨q1, c, q2, q3, _⟩
  ·obtain ⟨r1, _, r3⟩ := l.still q1 q2 lp
   exact ⟨r3, fun b _ _ => by rw [r1]⟩
  ·obtain ⟨r1, r2⟩ := l.pre q1 c q2 q3 lp
   exact ⟨r2, r1⟩
 refine ⟨⟨⟨hp2, ?_⟩, by rw [h.tag]; exact s.tag, h.deaf.trans s.deaf, hI.hs⟩, l.hs, e.1, l.bk, fun b hb _ q => ?_, l.tape, l.col, h.tag⟩
 ·rcases lc with ⟨q1, q2⟩ | ⟨q1, c, q2, q3, q4⟩
  ·exact .inl ⟨q1, l.col.trans q2⟩
  ·exact .inr ⟨q1, c, l.col.trans q2, q3, h.tag.trans q4⟩
 ·rcases q with q | q | q
  ·exact l.keep b hb (.inl q)
  ·exact e.2 b hb q
  ·exact l.keep b hb (.inr q)
structure Fact (i : Nat) (γ : Gho) (w : World) (b : Nat) (k : BK) (o : Obj) : Prop where
 lt : b < γ.hs
 bk : γ.bk b = k
 heap : w.heap[b]? = some o
theorem Fact.next {X : Nat -> Prop} {b : Nat} {k : BK} {o : Obj} (h : Fact i γ w b k o) (hk : k = .priv i \/ k = .shd i) (l : LonLater X i γ w γ' w') (hx : ¬ X b) : Fact i γ' w' b k o := by
 have q : γ.bk b = .priv i \/ γ.bk b = .shd i \/ ∃ m, m <= i /\ γ.bk b = .fix m := by
  rw [h.bk]
  rcases hk with e | e
  ·exact .inl e
  ·exact .inr (.inl e)
 exact ⟨Nat.lt_of_lt_of_le h.lt l.hs, (own_same l h.lt q).trans h.bk, (l.heap b h.lt hx q).trans h.heap⟩
theorem lon_push (sh : Bool) (s : Lon i γ w) (hr : g.status = .running) (h : ∀ w2, (stepG P (i == 0) g w2).goes fun g' w' es => ∃ o, w'.heap = w2.heap.push o /\ w'.tape = w2.tape /\ w'.os = w2.os /\ w'.output = w2.output /\ (∀ e ∈ es, False) /\
  ∀ γ' w1, Lon i γ' w1 -> LonLater (fun _ => False) i γ w γ' w1 -> γ.hs <= w2.heap.size -> Fact i γ' w1 w2.heap.size (if sh then .shd i else .priv i) o -> LV P ty top Post i γ' w1 g') : LV P ty top Post i γ w g := by
 refine lives_step hr s.ng fun γ2 w2 hrl hI hi => ?_
 obtain ⟨s2, l2⟩ := s.rel hI hrl
 obtain ⟨g', w', es, hst, o, e1, e2, e3, e4, e5, hK⟩ := goes_inv (h w2)
 obtain rfl := array_nil e5
 have hsz : w'.heap.size = w2.heap.size + 1 := by rw [e1]; simp
 have hold : ∀ b, b < w2.heap.size -> w'.heap[b]? = w2.heap[b]? := fun b hb => by rw [e1, Array.getElem?_push, if_neg (Nat.ne_of_lt hb)]
 have hnew : w'.heap[w2.heap.size]? = some o := by rw [e1, Array.getElem?_push, if_pos rfl]
 have hle : γ.hs <= w2.heap.size := by rw [<- s2.hs]; exact l2.hs
 cases sh with
 | true =>
  have bk' : ∀ b, b < γ2.hs -> (γ2.share i).bk b = γ2.bk b := fun b hb => upd_ne _ _ (by omega)
  have hl3 : LonLater (fun _ => False) i γ2 w2 (γ2.share i) w' := ⟨Nat.le_succ _, rfl, fun b hb _ => bk' b hb, fun b hb _ _ => hold b (by rw [<- s2.hs]; exact hb), e2, rfl, rfl⟩
  refine .go g' w' #[] _ hst (do_share hI s2.lone hsz e2 hold (.of e3 e4) _) (hK _ _ ⟨s2.lone, s2.tag, s2.deaf, ?_⟩ (l2.trans hl3 (fun _ q => q) fun _ _ q => q) hle ⟨?_, ?_, hnew⟩)
  ·show γ2.hs + 1 = _
   rw [hsz, s2.hs]
  ·show _ < γ2.hs + 1
   rw [s2.hs]; exact Nat.lt_succ_self _
  ·rw [<- s2.hs]; exact upd_same _ _ _
 | false =>
  have ho : Own (γ2.S i) (γ2.F i) w2 w' #[] := own_push e1 e2 e3 e4 (by simp)
  have hl3 : LonLater (fun _ => False) i γ2 w2 (γ2.grown i w') w' := ⟨by show γ2.hs <= w'.heap.size; rw [hsz, s2.hs]; exact Nat.le_succ _, rfl, fun b hb _ => grown_bk hb, fun b hb _ _ => hold b (by rw [<- s2.hs]; exact hb), e2, rfl, rfl⟩
  exact .go g' w' #[] _ hst (do_own hI hi (by exact s2.ns) ho _) (hK _ _ ⟨s2.lone, s2.tag, s2.deaf, rfl⟩ (l2.trans hl3 (fun _ q => q) fun _ _ q => q) hle ⟨by show _ < w'.heap.size; rw [hsz]; exact Nat.lt_succ_self _, grown_new (Nat.le_of_eq s2.hs), hnew⟩)
theorem lon_store {B : Nat} {v old : Value} {t : TypeId} (s : Lon i γ w) (hr : g.status = .running) (f : Fact i γ w B (.priv i) (.cells #[old] t (0, 0))) (h : ∀ w2, w2.heap[B]? = some (.cells #[old] t (0, 0)) -> (stepG P (i == 0) g w2).goes fun g' w' es => w' = w2.setCell ⟨B, 0, none⟩ v /\ (∀ e ∈ es, e = ⟨.cell ⟨B, 0, none⟩, true, false⟩) /\
  ∀ γ' w1, Lon i γ' w1 -> LonLater (fun b => b = B) i γ w γ' w1 -> Fact i γ' w1 B (.priv i) (.cells #[v] t (0, 0)) -> LV P ty top Post i γ' w1 g') : LV P ty top Post i γ w g := by
 refine lives_step hr s.ng fun γ2 w2 hrl hI hi => ?_
 obtain ⟨s2, l2⟩ := s.rel hI hrl
 have f2 := f.next (.inl rfl) l2 id
 obtain ⟨g', w', es, hst, e1, e2, hK⟩ := goes_inv (h w2 f2.heap)
 subst e1
 have ho : Own (γ2.S i) (γ2.F i) w2 (w2.setCell ⟨B, 0, none⟩ v) es := own_set w2 _ _ ⟨f2.lt, f2.bk⟩ e2
 have hsz : (w2.setCell ⟨B, 0, none⟩ v).heap.size = w2.heap.size := size_cell _ _ _
 have hl3 : LonLater (fun b => b = B) i γ2 w2 (γ2.grown i (w2.setCell ⟨B, 0, none⟩ v)) (w2.setCell ⟨B, 0, none⟩ v) := ⟨by show γ2.hs <= (w2.setCell ⟨B, 0, none⟩ v).heap.size; rw [hsz, s2.hs]; exact Nat.le_refl _, rfl, fun b hb _ => grown_bk hb, fun b hb hx _ => heap_cell_ne _ _ _ hx, rfl, rfl, rfl⟩
 refine .go g' _ es _ hst (do_own hI hi (by exact s2.ns) ho _) (hK _ _ ⟨s2.lone, s2.tag, s2.deaf, rfl⟩ (l2.trans hl3 (fun _ q => q.elim) fun _ _ q => q) ⟨by show B < (w2.setCell ⟨B, 0, none⟩ v).heap.size; rw [hsz, <- s2.hs]; exact f2.lt, (grown_bk f2.lt).trans f2.bk, ?_⟩)
 rw [heap_setCell, if_pos rfl, f2.heap]
 simp
theorem lon_enter (s : Lon i γ w) (hr : g.status = .running) (hs : ∀ w, stepG P (i == 0) g w = .go g' w #[]) (B : ∀ γ2 w2, Lon i γ2 w2 -> LonLater (fun _ => False) i γ w γ2 w2 -> GInv ty top γ2 w2 -> ∃ p Fx, p.f = i /\ Begins ty top γ2 w2 p Fx /\
  (GInv ty top (γ2.enter p Fx) w2 -> LV P ty top Post i (γ2.enter p Fx) w2 g')) : LV P ty top Post i γ w g := by
 refine lives_step hr s.ng fun γ2 w2 hrl hI hi => ?_
 obtain ⟨s2, l2⟩ := s.rel hI hrl
 obtain ⟨p, Fx, rfl, hB, hK⟩ := B γ2 w2 s2 l2 hI
 have hDo := do_enter (P := P) (Post := Post) hI hB (mayWake P g = true)
 exact .go g' w2 #[] (γ2.enter p Fx) (hs w2) hDo (hK hDo.inv)
end
end Go.Proofs.YtbicafgmfgdckaaGreatDoor
namespace Go.Proofs.YtbicafgmfgdckaaGreatDoor
open Go Go.Conc Go.Conc.Lib Go.ConcR.Gen
open Go.ConcR (KK wgBlock WgAt stA smA rd wr mk DC0)
open Go.ConcN (sumTo upd upd_same upd_ne RelBy PermW WgLive)
section
variable {ty : TypeId} {top : Nat} {γ γ' γ2 : Gho} {p : Ph} {w w' w2 : World} {i j k n : Nat} {Post : Value -> World -> Prop} {es : Array Event} {g g' : Goroutine}
def FeedAt (p : Ph) (i : Nat) (γ0 : Gho) (w0 : World) (m : Nat) (tm : Array Value) (γ : Gho) (w : World) : Prop :=
 ∃ x : Nat, ∃ v6 v10 v11 v12 v13 v14 v15 v16 v17 v18 v19 v20 v21 v22 v23 : Value, m = p.n - x /\ x <= p.n /\ tm = #[.int .i64 p.n, .chan (some p.jobs), .chan (some p.stop), undef, undef, undef, v6, .chan (some p.jobs), .int .i64 p.n, .int .i64 x, v10, v11, v12, v13, v14, v15, v16, v17, v18, v19, v20, v21, v22, v23] /\ γ.ph = some p /\ γ.tag i = .feed /\ γ.deaf i = 0 /\ γ.next = x /\ Kept i γ0 w0 γ w
set_option maxRecDepth 100000 in
set_option maxHeartbeats 4000000 in
theorem lives_feed {c : Frame} {cs : List Frame} (hp : γ.ph = some p) (hf : p.f = i) (ht : γ.tag i = .feed) (hd : γ.deaf i = 0) (h0 : γ.next = 0) (hb : p.n <= 1000000) (hk : p.kind ≠ .seek)
  (hK : ∀ γ' w', Kept i γ w γ' w' -> γ'.ph = some p -> γ'.tag i = .shut -> γ'.deaf i = 0 -> GInv ty top γ' w' -> LV Tryz.prog ty top Post i γ' w' (G (c.finish (.tuple #[])) cs)) :
  LV Tryz.prog ty top Post i γ w (G ((base 37).at ⟨#[.int .i64 p.n, .chan (some p.jobs), .chan (some p.stop)] ++ Array.replicate 21 undef, []⟩ [.code (Tryz.f37.body.getD .skip)]) (c :: cs)) := by
 have hg : γ.tag i ≠ .gone := by rw [ht]; simp
 have hon : i ≠ 0 \/ p.f = 0 := by rw [<- hf]; exact (on_f hp).2
 simp only [Tryz.f37, Option.getD_some]
 walk_nrm
 refine lives_ctl rfl hg (fun _ => stepG_seq) ?_
 refine lives_ctl rfl hg (fun _ => stepG_region) ?_
 simp only [List.size_toArray, List.length_cons, List.length_nil, Nat.reduceAdd, Nat.zero_add, List.range, List.range.loop]
 refine lives_pure rfl hg (fun wV => ?_)
 refine goes_oper_k rfl rfl (by k_ne) (fun W hW => ?_)
 go_simp
 refine hW _ _ ⟨⟨rfl, no_listed (by simp [go_sem])⟩, ?_⟩
 clear hW
 clear W wV
 try walk_nrm
 refine lives_ctl rfl hg (fun _ => stepG_defer_close rfl rfl (by k_ne) rfl) ?_
 try walk_nrm
 refine lives_ctl rfl hg (fun _ => stepG_region_end) ?_
 refine lives_ctl rfl hg (fun _ => stepG_seq) ?_
 refine lives_ctl rfl hg (fun _ => stepG_region) ?_
 simp only [List.size_toArray, List.length_cons, List.length_nil, Nat.reduceAdd, Nat.zero_add, List.range, List.range.loop]
 refine lives_pure rfl hg (fun wV => ?_)
 refine goes_oper_k rfl rfl (by k_ne) (fun W hW => ?_)
 go_simp
 refine hW _ _ ⟨⟨rfl, no_listed (by simp [go_sem])⟩, ?_⟩
 clear hW
 clear W wV
 try walk_nrm
 refine lives_pure rfl hg (fun wV => ?_)
 refine goes_oper_k rfl rfl (by k_ne) (fun W hW => ?_)
 go_simp
 refine hW _ _ ⟨⟨rfl, no_listed (by simp [go_sem])⟩, ?_⟩
 clear hW
 clear W wV
 try walk_nrm
 refine lives_ctl rfl hg (fun _ => stepG_region_end) ?_
 refine lives_ctl rfl hg (fun _ => stepG_block) ?_
 refine lives_ctl rfl hg (fun _ => stepG_loop) ?_
 refine lives_loop (FeedAt p i γ w) (m := p.n) ⟨0, _, _, _, _, _, _, _, _, _, _, _, _, _, _, _, by omega, by omega, rfl, hp, ht, hd, h0, .refl _ _ _⟩ fun m ih tm γ1 w1 h => ?_
 clear ht hg hp hd h0
 obtain ⟨x, v6, v10, v11, v12, v13, v14, v15, v16, v17, v18, v19, v20, v21, v22, v23, rfl, hx, rfl, hp, ht, hd, hnx, hkp⟩ := h
 have hg : γ1.tag i ≠ .gone := by rw [ht]; simp
 refine lives_ctl rfl hg (fun _ => stepG_seq) ?_
 refine lives_ctl rfl hg (fun _ => stepG_region) ?_
 simp only [List.size_toArray, List.length_cons, List.length_nil, Nat.reduceAdd, Nat.zero_add, List.range, List.range.loop]
 refine lives_pure rfl hg (fun wV => ?_)
 refine goes_oper_k rfl rfl (by k_ne) (fun W hW => ?_)
 go_simp
 refine hW _ _ ⟨⟨rfl, no_listed (by simp [go_sem])⟩, ?_⟩
 clear hW
 clear W wV
 try walk_nrm
 refine lives_ctl rfl hg (fun _ => stepG_region_end) ?_
 by_cases hxn : x < p.n
 ·simp only [hxn, decide_true]
  refine lives_ctl rfl hg (fun _ => stepG_seq) ?_
  refine lives_ctl rfl hg (fun _ => stepG_cond (t := true) rfl) ?_
  simp only [if_true, if_false, Bool.false_eq_true, ↓reduceIte]
  refine lives_ctl rfl hg (fun _ => stepG_skip) ?_
  refine lives_ctl rfl hg (fun _ => stepG_seq) ?_
  refine lives_ctl rfl hg (fun _ => stepG_block) ?_
  refine lives_ctl rfl hg (fun _ => stepG_seq) ?_
  refine lives_ctl rfl hg (fun _ => stepG_region) ?_
  simp only [List.size_toArray, List.length_cons, List.length_nil, Nat.reduceAdd, Nat.zero_add, List.range, List.range.loop]
  refine lives_pure rfl hg (fun wV => ?_)
  refine goes_oper_k rfl rfl (by k_ne) (fun W hW => ?_)
  go_simp
  refine hW _ _ ⟨⟨rfl, no_listed (by simp [go_sem])⟩, ?_⟩
  clear hW
  clear W wV
  try walk_nrm
  refine lives_pure rfl hg (fun wV => ?_)
  refine goes_oper_k rfl rfl (by k_ne) (fun W hW => ?_)
  go_simp
  refine hW _ _ ⟨⟨rfl, no_listed (by simp [go_sem])⟩, ?_⟩
  clear hW
  clear W wV
  try walk_nrm
  refine lives_ctl rfl hg (fun _ => stepG_region_end) ?_
  refine lives_ctl rfl hg (fun _ => stepG_seq) ?_
  refine lives_ctl rfl hg (fun _ => stepG_seq) ?_
  refine lives_ctl rfl hg (fun _ => stepG_region) ?_
  simp only [List.size_toArray, List.length_cons, List.length_nil, Nat.reduceAdd, Nat.zero_add, List.range, List.range.loop]
  refine lives_pure rfl hg (fun wV => ?_)
  refine goes_oper_k rfl rfl (by k_ne) (fun W hW => ?_)
  go_simp
  refine hW _ _ ⟨⟨rfl, no_listed (by simp [go_sem])⟩, ?_⟩
  clear hW
  clear W wV
  try walk_nrm
  refine lives_ctl rfl hg (fun _ => stepG_region_end) ?_
  refine lives_ctl rfl hg (fun _ => stepG_seq) ?_
  refine lives_ctl rfl hg (fun _ => stepG_region) ?_
  simp only [List.size_toArray, List.length_cons, List.length_nil, Nat.reduceAdd, Nat.zero_add, List.range, List.range.loop]
  refine lives_comm (cases := #[rcase p.stop (.agg #[])]) (blocking := false) (shape := .select) rfl rfl (by k_ne) hg (fun _ => by kernel_rfl) (fun _ => by kernel_rfl) (fun γ2 w2 hrl hI => .peek p _ ((hrl.live hg).ph _ ⟨hp, hon⟩) hf.symm (hrl.tag.trans ht) rfl rfl) fun γ2 w2 hrl hI kk v ok γ3 w3 hR hI3 => ?_
  have l := hrl.live hg
  have hp2 := l.ph _ ⟨hp, hon⟩
  have ht2 := hrl.tag.trans ht
  have hd2 := hrl.deaf.trans hd
  have hnx2 : γ2.next = x := (l.feed _ ⟨hp, hon⟩ hf).1.trans hnx
  have hkp2 := hkp.trans l.kept
  have hst2 := (hI.core _ hp2).stpk hk
  obtain ⟨rfl, rfl, rfl, hpk⟩ := peek_result hR hI ht2
  obtain ⟨rfl, rfl⟩ := hpk.resolve_right fun q => by rw [hst2] at q; cases q.2
  clear hpk hst2
  clear hR hrl l hp ht hd hnx hkp hg hI
  have hg : γ3.tag i ≠ .gone := by rw [ht2]; simp
  rw [show commResult #[rcase p.stop (.agg #[])] .select (-1) undef false = .tuple #[.int .i64 (-1), .bool false, .agg #[]] from by kernel_rfl]
  walk_nrm
  refine lives_pure rfl hg (fun wV => ?_)
  refine goes_oper_k rfl rfl (by k_ne) (fun W hW => ?_)
  go_simp
  refine hW _ _ ⟨⟨rfl, no_listed (by simp [go_sem])⟩, ?_⟩
  clear hW
  clear W wV
  try walk_nrm
  refine lives_pure rfl hg (fun wV => ?_)
  refine goes_oper_k rfl rfl (by k_ne) (fun W hW => ?_)
  go_simp
  refine hW _ _ ⟨⟨rfl, no_listed (by simp [go_sem])⟩, ?_⟩
  clear hW
  clear W wV
  try walk_nrm
  refine lives_ctl rfl hg (fun _ => stepG_region_end) ?_
  refine lives_ctl rfl hg (fun _ => stepG_block) ?_
  refine lives_ctl rfl hg (fun _ => stepG_cond (t := false) rfl) ?_
  simp only [if_true, if_false, Bool.false_eq_true, ↓reduceIte]
  refine lives_ctl rfl hg (fun _ => stepG_skip) ?_
  refine lives_ctl rfl hg (fun _ => stepG_inBlock) ?_
  refine lives_ctl rfl hg (fun _ => stepG_seq) ?_
  refine lives_ctl rfl hg (fun _ => stepG_seq) ?_
  refine lives_ctl rfl hg (fun _ => stepG_seq) ?_
  refine lives_ctl rfl hg (fun _ => stepG_region) ?_
  simp only [List.size_toArray, List.length_cons, List.length_nil, Nat.reduceAdd, Nat.zero_add, List.range, List.range.loop]
  refine lives_pure rfl hg (fun wV => ?_)
  refine goes_oper_k rfl rfl (by k_ne) (fun W hW => ?_)
  go_simp
  refine hW _ _ ⟨⟨rfl, no_listed (by simp [go_sem])⟩, ?_⟩
  clear hW
  clear W wV
  try walk_nrm
  refine lives_ctl rfl hg (fun _ => stepG_region_end) ?_
  refine lives_ctl rfl hg (fun _ => stepG_region) ?_
  simp only [List.size_toArray, List.length_cons, List.length_nil, Nat.reduceAdd, Nat.zero_add, List.range, List.range.loop]
  refine lives_pure rfl hg (fun wV => ?_)
  refine goes_oper_k rfl rfl (by k_ne) (fun W hW => ?_)
  go_simp
  refine hW _ _ ⟨⟨rfl, no_listed (by simp [go_sem])⟩, ?_⟩
  clear hW
  clear W wV
  try walk_nrm
  refine lives_ctl rfl hg (fun _ => stepG_region_end) ?_
  refine lives_ctl rfl hg (fun _ => stepG_region) ?_
  simp only [List.size_toArray, List.length_cons, List.length_nil, Nat.reduceAdd, Nat.zero_add, List.range, List.range.loop]
  refine lives_pure rfl hg (fun wV => ?_)
  refine goes_oper_k rfl rfl (by k_ne) (fun W hW => ?_)
  go_simp
  refine hW _ _ ⟨⟨rfl, no_listed (by simp [go_sem])⟩, ?_⟩
  clear hW
  clear W wV
  try walk_nrm
  refine lives_ctl rfl hg (fun _ => stepG_region_end) ?_
  refine lives_ctl rfl hg (fun _ => stepG_seq) ?_
  refine lives_ctl rfl hg (fun _ => stepG_region) ?_
  simp only [List.size_toArray, List.length_cons, List.length_nil, Nat.reduceAdd, Nat.zero_add, List.range, List.range.loop]
  refine lives_comm (cases := #[scase p.jobs (.int .i64 x) (.int .i64 0), rcase p.stop (.agg #[])]) (blocking := true) (shape := .select) rfl rfl (by k_ne) hg (fun _ => by kernel_rfl) (fun _ => by kernel_rfl) (fun γ4 w4 hrl hI => ?_) fun γ4 w4 hrl hI kk v ok γ5 w5 hR hI5 => ?_
  ·have l := hrl.live hg
   have e : γ4.next = x := (l.feed _ ⟨hp2, hon⟩ hf).1.trans hnx2
   exact .feed p _ _ (l.ph _ ⟨hp2, hon⟩) hf.symm (hrl.tag.trans ht2) rfl (by rw [e]; exact hxn) (by rw [e])
  have l := hrl.live hg
  have hp4 := l.ph _ ⟨hp2, hon⟩
  have ht4 := hrl.tag.trans ht2
  have hd4 := hrl.deaf.trans hd2
  have hnx4 : γ4.next = x := (l.feed _ ⟨hp2, hon⟩ hf).1.trans hnx2
  have hkp4 := hkp2.trans l.kept
  have hst4 := (hI.core _ hp4).stpk hk
  obtain ⟨rfl, hfd⟩ := feed_result hR hI hp4 ht4
  obtain ⟨rfl, rfl, h, s, hbh, hidle, rfl, rfl⟩ := hfd.resolve_right fun q => by rw [hst4] at q; cases q.2.1
  clear hfd hst4
  replace hkp4 := hkp4.trans (kept_pass hI hp4 h s)
  have hne : i ≠ h := fun e => by subst e; rw [ht4] at hidle; cases hidle
  have ht5 : (γ4.pass p h).tag i = .feed := (upd_ne _ _ hne).trans ht4
  have hd5 : (γ4.pass p h).deaf i = 0 := hd4
  have hnx5 : (γ4.pass p h).next = x + 1 := by show γ4.next + 1 = _; rw [hnx4]
  have hp6 : (γ4.pass p h).ph = some p := hp4
  generalize γ4.pass p h = γ6, w4.setChan p.jobs 0 #[] false s s false = w6 at hkp4 ht5 hd5 hnx5 hp6 hI5 ⊢
  clear hR hrl l hp2 ht2 hd2 hnx2 hkp2 hg hI hp4 ht4 hd4 hnx4
  have hg : γ6.tag i ≠ .gone := by rw [ht5]; simp
  rw [show commResult #[scase p.jobs (.int .i64 x) (.int .i64 0), rcase p.stop (.agg #[])] .select 0 undef false = .tuple #[.int .i64 0, .bool false, .agg #[]] from by kernel_rfl]
  walk_nrm
  refine lives_pure rfl hg (fun wV => ?_)
  refine goes_oper_k rfl rfl (by k_ne) (fun W hW => ?_)
  go_simp
  refine hW _ _ ⟨⟨rfl, no_listed (by simp [go_sem])⟩, ?_⟩
  clear hW
  clear W wV
  try walk_nrm
  refine lives_pure rfl hg (fun wV => ?_)
  refine goes_oper_k rfl rfl (by k_ne) (fun W hW => ?_)
  go_simp
  refine hW _ _ ⟨⟨rfl, no_listed (by simp [go_sem])⟩, ?_⟩
  clear hW
  clear W wV
  try walk_nrm
  refine lives_pure rfl hg (fun wV => ?_)
  refine goes_oper_k rfl rfl (by k_ne) (fun W hW => ?_)
  go_simp
  refine hW _ _ ⟨⟨rfl, no_listed (by simp [go_sem])⟩, ?_⟩
  clear hW
  clear W wV
  try walk_nrm
  refine lives_ctl rfl hg (fun _ => stepG_region_end) ?_
  refine lives_ctl rfl hg (fun _ => stepG_block) ?_
  refine lives_ctl rfl hg (fun _ => stepG_cond (t := true) rfl) ?_
  simp only [if_true, if_false, Bool.false_eq_true, ↓reduceIte]
  refine lives_ctl rfl hg (fun _ => stepG_skip) ?_
  refine lives_ctl rfl hg (fun _ => stepG_inBlock) ?_
  refine lives_ctl rfl hg (fun _ => stepG_inBlock) ?_
  refine lives_ctl rfl hg (fun _ => stepG_region) ?_
  simp only [List.size_toArray, List.length_cons, List.length_nil, Nat.reduceAdd, Nat.zero_add, List.range, List.range.loop]
  refine lives_pure rfl hg (fun wV => ?_)
  refine goes_oper_k rfl rfl (by k_ne) (fun W hW => ?_)
  go_simp
  refine hW _ _ ⟨⟨rfl, no_listed (by simp [go_sem])⟩, ?_⟩
  clear hW
  clear W wV
  try walk_nrm
  refine lives_pure rfl hg (fun wV => ?_)
  refine goes_oper_k rfl rfl (by k_ne) (fun W hW => ?_)
  go_simp
  refine hW _ _ ⟨⟨rfl, no_listed (by simp [go_sem])⟩, ?_⟩
  clear hW
  clear W wV
  try walk_nrm
  refine lives_ctl rfl hg (fun _ => stepG_region_end) ?_
  refine lives_ctl rfl hg (fun _ => stepG_inLoop) ?_
  rw [show IntKind.i64.wrap ((x : Int) + 1) = ((x + 1 : Nat) : Int) from by rw [IntKind.wrap_i64]; omega]
  refine ih (p.n - (x + 1)) (by omega) _ _ _ ⟨x + 1, _, _, _, _, _, _, _, _, _, _, _, _, _, _, _, rfl, by omega, rfl, hp6, ht5, hd5, hnx5, hkp4⟩
 ·simp only [hxn, decide_false]
  refine lives_ctl rfl hg (fun _ => stepG_seq) ?_
  refine lives_ctl rfl hg (fun _ => stepG_cond (t := false) rfl) ?_
  simp only [if_true, if_false, Bool.false_eq_true, ↓reduceIte]
  refine lives_ctl rfl hg (fun _ => stepG_exit rfl) ?_
  refine lives_ctl rfl hg (fun _ => stepG_end) ?_
  refine lives_close rfl hp hf ht (.inl (by omega)) fun γ' w' hr1 hp1 ht1 hd1 hI1 => ?_
  refine lives_ctl rfl (by rw [ht1]; simp) (fun w2 => stepG_leave rfl rfl Tryz.func37 (results_none rfl _ _ _) (by kernel_rfl)) ?_
  exact hK γ' w' (hkp.trans hr1.kept) hp1 ht1 (hd1.trans hd) hI1
end
end Go.Proofs.YtbicafgmfgdckaaGreatDoor
