/- A region that draws its order, walked by a plan: operations that yield one value in every world of a class are taken first; the others come up one at a time, each in a forced place, and leave a world of the class. For any program. Parts of blocks of several cells: loads whose guard says yes, stores, what stays. For any program. Single operations of regions that draw their order, taken in any later world: loads of several cells at once, nil checks. For any program. The law's texts: rows of texts as they are read; 'few'. The sum's plain mathematics: words, rounds, blocks, padding. No program in sight. Turns of 32 bits: the program's and the reference's. Numbers as bytes and back: GetBig, Put, Reverse, Big; the reference's Put, Back, Get. Arrays of words in memory, whole: their cells, stores, loads. For any program. -/
import Derived.Test.YtbicafgmfgdckaaGreatDoorMgAb
import Derived.Test.YtbicafgmfgdckaaGreatDoorMgAa
import Derived.OrdersHeld
import Derived.BigFrame
import Derived.Deep.MidRow
import Derived.Laws.Rows
import Derived.Laws.Tables
namespace Go.Proofs.YtbicafgmfgdckaaGreatDoor
open Go

section
variable {P : Program} {ops : Array Oper} {Q : Exit -> Act -> World -> Prop}

def valueOp : Op -> Bool
 | .move _ | .assign _ | .load .. | .binOp .. | .unOp .. | .fieldAddr .. | .field .. | .indexAddr .. | .index .. | .slice .. | .extract .. | .pick .. | .nilCheck _ | .convert .. | .build .. => true
 | .call { callee := .builtin b, .. } => match b with | .len | .cap | .min | .max => true | _ => false
 | _ => false
theorem run_value {s : Sem Value} {w w' : World} {n : Next} (h : (do pure (.value (<- s)) : Sem Next).run P w = .ok n w') : ∃ v, n = .value v := by
 rw [Sem.run_bind] at h
 cases hs : s.run P w with
 | ok v w1 => rw [hs] at h; simp only [Result.andThen_ok, Sem.run_pure] at h; injection h with h1 _; exact ⟨v, h1.symm⟩
 | halt x w1 => rw [hs] at h; cases h
def Yields' (m : Sem Next) : Prop := ∀ (P : Program) (w w' : World) (n : Next), m.run P w = .ok n w' -> ∃ v, n = .value v
theorem yields_v (s : Sem Value) : Yields' (do pure (.value (<- s)) : Sem Next) := fun _ _ _ _ h => run_value h
theorem yields_pure (v : Value) : Yields' (pure (.value v) : Sem Next) := fun P w w' n h => by
 rw [Sem.run_pure] at h; injection h with h1 _; exact ⟨v, h1.symm⟩
theorem yields_bind {α : Type} (s : Sem α) (f : α -> Sem Next) (h : ∀ x, Yields' (f x)) : Yields' (s >>= f) := fun P w w' n hr => by
 rw [Sem.run_bind] at hr
 cases hs : s.run P w with
 | ok x w1 => rw [hs] at hr; simp only [Result.andThen_ok] at hr; exact h x P w1 w' n hr
 | halt x w1 => rw [hs] at hr; cases hr
theorem yields_halt (h : Halt) : Yields' (Sem.halt h : Sem Next) := fun P w w' n hr => by simp [Sem.run] at hr
theorem yields_rt : Yields' (runtimePanic .nilDeref : Sem Next) := by
 unfold runtimePanic
 refine yields_bind _ _ fun p => ?_
 exact yields_halt _
theorem yields_nilCheck (ρ : Operand -> Value) (o : Oper) (x : Operand) (h : o.op = .nilCheck x) : Yields' (execOp ρ o) := by
 unfold execOp
 simp only [h]
 split
 ·exact yields_rt
 ·exact yields_rt
 ·exact yields_rt
 ·split
  ·exact yields_rt
  ·refine yields_bind _ _ fun p => yields_bind _ _ fun q => ?_
   split
   ·exact yields_bind _ _ fun _ => yields_pure _
   ·exact yields_pure _
  ·exact yields_pure _
 ·exact yields_pure _
theorem yields_op (ρ : Operand -> Value) (o : Oper) (hv : valueOp o.op = true) : Yields' (execOp ρ o) := by
 by_cases hc : ∃ x, o.op = .nilCheck x
 ·obtain ⟨x, hx⟩ := hc; exact yields_nilCheck ρ o x hx
 have hn : ∀ x, o.op ≠ .nilCheck x := fun x e => hc ⟨x, e⟩
 clear hc
 obtain ⟨dst, op, ty, pos, after, guard⟩ := o
 cases op <;> simp only [valueOp, Bool.false_eq_true] at hv
 case nilCheck x => exact (hn x rfl).elim
 case call c =>
  obtain ⟨callee, args, ats⟩ := c
  cases callee with
  | builtin b => cases b <;> first | exact yields_v _ | (simp at hv)
  | value f => simp at hv
  | invoke r m => simp at hv
 case move x => exact yields_pure _
 case assign x => exact yields_pure _
 case pick c a b => exact yields_bind _ _ fun _ => yields_pure _
 all_goals exact yields_v _

def flatB (ops : Array Oper) : List (Bool × Nat) -> Array Bool -> Bool
 | [], listed => (Region.ready .any ops listed).isEmpty
 |(true, i) :: l, listed => ((ops[i]?).map fun o => valueOp o.op).getD false && Region.free .any ops listed i && (Region.ready .any ops listed).contains i && flatB ops l (listed.setIfInBounds i true)
 |(false, i) :: l, listed => (Region.ready .any ops listed == [i]) && flatB ops l (listed.setIfInBounds i true)
def wpFlat (P : Program) (ops : Array Oper) (Q : Exit -> Act -> World -> Prop) : List (Bool × Nat) -> (World -> Prop) -> Act -> World -> Prop
 | [], _, a, w => Q .normal a w
 |(true, i) :: l, S, a, w => ∃ o v, ops[i]? = some o /\ YieldsIf P ops S o v a /\ wpFlat P ops Q l S (a.put o.dst v) w
 |(false, i) :: l, S, a, w => wpOp P ops Q i (fun a' w' => ∃ S' : World -> Prop, (∀ x, S' x -> S x) /\ S' w' /\ wpFlat P ops Q l S' a' w') a w
theorem wpAnyH_sub {md : Region.Mode} {S S' : World -> Prop} (h : ∀ x, S' x -> S x) : ∀ (fuel : Nat) (listed : Array Bool) (a : Act) (w : World), wpAnyH P md ops Q S' fuel listed a w -> wpAnyH P md ops Q S fuel listed a w
 | 0, _, _, _, k => k
 | f + 1, _, _, _, k => ⟨k.1, fun i hi => wpOp_mono (fun a' w' k' => ⟨h _ k'.1, wpAnyH_sub h f _ a' w' k'.2⟩) (k.2 i hi)⟩
theorem flat_sound (hs : Region.noSelect ops = true) (hQ : ∀ (c : List PanicEntry) (a : Act) (d : Option Tmp) (v : Value) (w : World), Q (.panic c) (a.put d v) w -> Q (.panic c) a w) :
  ∀ (l : List (Bool × Nat)) (fuel : Nat) (listed : Array Bool) (S : World -> Prop) (a : Act) (w : World), l.length <= fuel -> flatB ops l listed = true -> S w -> wpFlat P ops Q l S a w -> wpAnyH P .any ops Q S fuel listed a w
 | [], fuel, listed, S, a, w, _, hB, _, h => wpAnyH_done (by simpa [flatB] using hB) h fuel
 |(true, i) :: l, 0, _, _, _, _, hf, _, _, _ => by simp at hf
 |(false, i) :: l, 0, _, _, _, _, hf, _, _, _ => by simp at hf
 |(true, i) :: l, fuel + 1, listed, S, a, w, hf, hB, hS, h => by
  simp only [flatB, Bool.and_eq_true] at hB
  obtain ⟨o, v, ho, hy, hk⟩ := h
  exact wpAnyH_take ho hs hB.1.1.2 hB.1.2 (fun c a w => hQ c a o.dst v w) hy hS (flat_sound hs hQ l fuel _ S _ w (by simpa using hf) hB.2 hS hk)
 |(false, i) :: l, fuel + 1, listed, S, a, w, hf, hB, hS, h => by
  simp only [flatB, Bool.and_eq_true, beq_iff_eq] at hB
  refine wpAnyH_all hB.1 (by simp) fun j hj => ?_
  simp only [List.mem_singleton] at hj
  subst hj
  refine wpOp_mono (fun a' w' k => ?_) h
  obtain ⟨S', h1, h2, h3⟩ := k
  exact ⟨h1 _ h2, wpAnyH_sub h1 fuel _ a' w' (flat_sound hs hQ l fuel _ S' a' w' (by simpa using hf) hB.2 h2 h3)⟩

def opsOf (L : List Oper) (is : List Nat) : List Oper := is.filterMap fun i => L[i]?
def LatePost (Q : Exit -> Act -> World -> Prop) (S : World -> Prop) (K : (World -> Prop) -> Act -> World -> Prop) : Exit -> Act -> World -> Prop
 | .normal, a, w => ∃ S' : World -> Prop, (∀ x, S' x -> S x) /\ S' w /\ K S' a w
 | e, a, w => Q e a w
def wpPlan (P : Program) (L : List Oper) (Q : Exit -> Act -> World -> Prop) : List (List Nat × Option Nat) -> (World -> Prop) -> Act -> World -> Prop
 | [], _, a, w => Q .normal a w
 |(is, none) :: l, S, a, w => wpQuiet P L.toArray S (fun a' => wpPlan P L Q l S a' w) (opsOf L is) a
 |(is, some j) :: l, S, a, w => wpQuiet P L.toArray S (fun a' => wpList P L.toArray (LatePost Q S fun S' a' w' => wpPlan P L Q l S' a' w') (opsOf L [j]) a' w) (opsOf L is) a
def flatOf : List (List Nat × Option Nat) -> List (Bool × Nat)
 | [] => []
 |(is, none) :: l => is.map (fun i => (true, i)) ++ flatOf l
 |(is, some j) :: l => is.map (fun i => (true, i)) ++ (false, j) :: flatOf l
def placesB (n : Nat) (p : List (List Nat × Option Nat)) : Bool := (flatOf p).all fun x => decide (x.2 < n)
def planB (L : List Oper) (p : List (List Nat × Option Nat)) : Bool :=
 Region.noSelect L.toArray && decide ((flatOf p).length <= L.length) && placesB L.length p && flatB L.toArray (flatOf p) (Array.replicate L.toArray.size false)
theorem yieldsIf_of_quiet {S : World -> Prop} {o : Oper} {a : Act} {K : Act -> Prop} (hv : valueOp o.op = true)
  (h : if Region.wanted o (yielded ops a.tmps) then o.quiet P a S K else K (a.put o.dst undef)) : ∃ v, YieldsIf P ops S o v a /\ K (a.put o.dst v) := by
 by_cases hw : Region.wanted o (yielded ops a.tmps) = true
 ·rw [if_pos hw] at h
  obtain ⟨v, h1, h2⟩ := h
  refine ⟨v, .inl ⟨hw, fun w hS => ?_⟩, h2⟩
  have h3 := h1 w hS
  unfold Oper.quietAt at h3
  have h4 := yields_op a.eval o hv P w
  generalize (execOp a.eval o).run P w = r at h3 h4
  cases r with
  | ok n w' =>
   obtain ⟨u, rfl⟩ := h4 w' n rfl
   simp only [Oper.quietUpon] at h3
   obtain ⟨e1, e2⟩ := h3
   rw [e1, e2]
  | halt x w' => simp only [Oper.quietUpon] at h3
 ·rw [if_neg hw] at h
  exact ⟨undef, .inr ⟨by simpa using hw, rfl⟩, h⟩
theorem flat_of_quiet {L : List Oper} {S : World -> Prop} {l : List (Bool × Nat)} {w : World} : ∀ (is : List Nat) (a : Act), (∀ i ∈ is, i < L.length) -> (∀ i ∈ is, ∀ o, L[i]? = some o -> valueOp o.op = true) ->
  wpQuiet P L.toArray S (fun a' => wpFlat P L.toArray Q l S a' w) (opsOf L is) a -> wpFlat P L.toArray Q (is.map (fun i => (true, i)) ++ l) S a w
 | [], a, _, _, h => h
 | i :: is, a, hl, hv, h => by
  have hi : i < L.length := hl i (by simp)
  have ho : L[i]? = some L[i] := List.getElem?_eq_getElem hi
  have e : opsOf L (i :: is) = L[i] :: opsOf L is := by simp [opsOf, ho]
  rw [e] at h
  obtain ⟨v, h1, h2⟩ := yieldsIf_of_quiet (hv i (by simp) _ ho) (by unfold wpQuiet at h; exact h)
  exact ⟨L[i], v, by simp, h1, flat_of_quiet is _ (fun j hj => hl j (by simp [hj])) (fun j hj => hv j (by simp [hj])) h2⟩
theorem flat_vals {L : List Oper} : ∀ (l : List (Bool × Nat)) (listed : Array Bool), flatB L.toArray l listed = true -> ∀ i, (true, i) ∈ l -> ∀ o, L[i]? = some o -> valueOp o.op = true
 | [], _, _, i, hi, _, _ => by simp at hi
 |(true, j) :: l, listed, hB, i, hi, o, ho => by
  simp only [flatB, Bool.and_eq_true] at hB
  rcases List.mem_cons.1 hi with e | hi
  ·injection e with _ e; subst e
   have := hB.1.1.1
   simpa [ho] using this
  ·exact flat_vals l _ hB.2 i hi o ho
 |(false, j) :: l, listed, hB, i, hi, o, ho => by
  simp only [flatB, Bool.and_eq_true] at hB
  rcases List.mem_cons.1 hi with e | hi
  ·injection e with e _; cases e
  ·exact flat_vals l _ hB.2 i hi o ho
theorem flat_of_plan {L : List Oper} : ∀ (p : List (List Nat × Option Nat)) (S : World -> Prop) (a : Act) (w : World), (∀ x ∈ flatOf p, x.2 < L.length) -> (∀ i, (true, i) ∈ flatOf p -> ∀ o, L[i]? = some o -> valueOp o.op = true) ->
  wpPlan P L Q p S a w -> wpFlat P L.toArray Q (flatOf p) S a w
 | [], _, _, _, _, _, h => h
 |(is, none) :: l, S, a, w, hl, hv, h => by
  refine flat_of_quiet is a (fun i hi => hl (true, i) (by simp [flatOf, hi])) (fun i hi => hv i (by simp [flatOf, hi])) (wpQuiet_mono (fun a' h' => ?_) _ _ h)
  exact flat_of_plan l S a' w (fun x hx => hl x (by simp [flatOf, hx])) (fun i hi => hv i (by simp [flatOf, hi])) h'
 |(is, some j) :: l, S, a, w, hl, hv, h => by
  refine flat_of_quiet is a (fun i hi => hl (true, i) (by simp [flatOf, hi])) (fun i hi => hv i (by simp [flatOf, hi])) (wpQuiet_mono (fun a' h' => ?_) _ _ h)
  have hj : j < L.length := hl (false, j) (by simp [flatOf])
  have ho : L[j]? = some L[j] := List.getElem?_eq_getElem hj
  have e : opsOf L [j] = [L[j]] := by simp [opsOf, ho]
  rw [e] at h'
  have hop := wpOp_of_list (Q' := Q) (n := j) (by simp) (fun e a w he hx => by cases e <;> first | exact (he rfl).elim | exact hx) h'
  refine wpOp_mono (fun a2 w2 k => ?_) hop
  obtain ⟨S', h1, h2, h3⟩ := k
  exact ⟨S', h1, h2, flat_of_plan l S' a2 w2 (fun x hx => hl x (by simp [flatOf, hx])) (fun i hi => hv i (by simp [flatOf, hi])) h3⟩
theorem wp_region_plan {id : Nat} {L : List Oper} {a : Act} {w : World} (p : List (List Nat × Option Nat)) (S : World -> Prop) (hm : P.follows .mixedOrders = true) (hB : planB L p = true)
  (hQ : ∀ (c : List PanicEntry) (a : Act) (d : Option Tmp) (v : Value) (w : World), Q (.panic c) (a.put d v) w -> Q (.panic c) a w) (hS : S w.drew) (h : wpPlan P L Q p S a w.drew) : (Code.region id L.toArray true).wp P Q a w := by
 simp only [planB, Bool.and_eq_true, decide_eq_true_eq] at hB
 obtain ⟨⟨⟨b1, b2⟩, b3⟩, b4⟩ := hB
 refine wp_region_held (S := S) hm ?_
 have hpl : ∀ x ∈ flatOf p, x.2 < L.length := fun x hx => by
  have := List.all_eq_true.1 b3 x hx
  simpa using this
 exact flat_sound b1 hQ (flatOf p) _ _ S a _ (by simpa using b2) b4 hS (flat_of_plan p S a _ hpl (flat_vals _ _ b4) h)
theorem plan_some {L : List Oper} {is : List Nat} {j : Nat} {l : List (List Nat × Option Nat)} {S : World -> Prop} {a : Act} {w : World}
  (h : wpQuiet P L.toArray S (fun a' => wpList P L.toArray (LatePost Q S fun S' a' w' => wpPlan P L Q l S' a' w') (opsOf L [j]) a' w) (opsOf L is) a) : wpPlan P L Q ((is, some j) :: l) S a w := h
theorem plan_none {L : List Oper} {is : List Nat} {l : List (List Nat × Option Nat)} {S : World -> Prop} {a : Act} {w : World}
  (h : wpQuiet P L.toArray S (fun a' => wpPlan P L Q l S a' w) (opsOf L is) a) : wpPlan P L Q ((is, none) :: l) S a w := h
theorem plan_nil {L : List Oper} {S : World -> Prop} {a : Act} {w : World} (h : Q .normal a w) : wpPlan P L Q [] S a w := h
theorem late_normal {S S' : World -> Prop} {K : (World -> Prop) -> Act -> World -> Prop} {a : Act} {w : World} (h1 : ∀ x, S' x -> S x) (h2 : S' w) (h3 : K S' a w) : LatePost Q S K .normal a w := ⟨S', h1, h2, h3⟩
end
instance later_ne (w : World) : Nonempty (Later w) := ⟨⟨w, RowKit.Below.refl _ _⟩⟩
theorem later_drew (w : World) : ∃ x : Later w, w.drew = x.to := ⟨⟨w.drew, (RowKit.Below.refl _ _).drew⟩, rfl⟩
theorem later_of {w w' : World} (h : RowKit.Below w.heap.size w w') : ∃ x : Later w, w' = x.to := ⟨⟨w', h⟩, rfl⟩
structure Of (S : World -> Prop) where
 to : World
 ok : S to
theorem of_mk {S : World -> Prop} {w : World} (h : S w) : ∃ x : Of S, w = x.to := ⟨⟨w, h⟩, rfl⟩
theorem of_ne {S : World -> Prop} {w : World} (h : S w) : Nonempty (Of S) := ⟨⟨w, h⟩⟩
end Go.Proofs.YtbicafgmfgdckaaGreatDoor
namespace Go.Proofs.YtbicafgmfgdckaaGreatDoor
open Go Go.RowKit

section
variable {P : Program} {ops : Array Oper} {rest : List Oper} {o : Oper} {a : Act} {w : World} {Q : Exit -> Act -> World -> Prop}
end
theorem rangeAt_row {w : World} {g : Nat} {cs : Array Value} {t : TypeId} {fr : Nat × Nat} (h : w.heap[g]? = some (.cells cs t fr)) : w.rangeAt g 0 cs.toList := fun j v hv => by
 rw [cell_of_row w g (0 + j) cs t fr h, Nat.zero_add]
 simpa using hv
theorem Touch.setRow {F : Nat -> Prop} (w : World) (g : Nat) (c : Array Value) (hg : F g) : Touch F w (w.setRow g c) :=
 ⟨rfl, rfl, rfl, by simp [World.setRow], fun k _ hk => by
  unfold World.setRow
  simp only
  rw [Array.getElem?_modify, if_neg]
  intro e; subst e; exact hk hg⟩
end Go.Proofs.YtbicafgmfgdckaaGreatDoor
namespace Go.Proofs.YtbicafgmfgdckaaGreatDoor
open Go Go.RowKit

theorem quiet_mid_of {P : Program} {C : World -> Prop} {o : Oper} {a : Act} {K : Act -> Prop} {ty : TypeId} {x : Operand} {b f : Nat} {cs : List Value} {d : TypeDesc}
  (hc : ∀ w', C w' -> w'.rangeAt b f cs) (hu : P.underlying ty = some d) (hd : d.isRow = true) (hi : (P.info? ty).map (·.size) = some cs.length)
  (ho : o.op = .load ty x) (hx : a.eval x = .pointer (some ⟨b, f, none⟩)) (hk : K (a.put o.dst (.agg cs.toArray))) : o.quiet P a C K := by
 refine ⟨.agg cs.toArray, ?_, hk⟩
 intro w' hw'
 unfold Oper.quietAt execOp
 simp only [ho, hx, Instr.loadAt, Instr.sureAddr, Sem.run_bind, Sem.run_pure, Result.andThen_ok, run_loadVar_mid w' b f ty cs d (hc w' hw') hu hd hi]
 exact ⟨rfl, rfl⟩
theorem quiet_built {P : Program} {C : World -> Prop} {o : Oper} {a : Act} {K : Act -> Prop} (t : TypeId) (parts : Array (Nat × Operand)) (ho : o.op = .build t parts) (cells : Array Value)
  (hf : P.built t (parts.map fun (i, x) => (i, a.eval x)).toList = some cells) (hk : K (a.put o.dst (.agg cells))) : o.quiet P a C K := by
 refine ⟨.agg cells, ?_, hk⟩
 intro w' hw'
 unfold Oper.quietAt execOp
 simp only [ho, Sem.run_bind, run_build w' t _ cells hf, Result.andThen_ok, Sem.run_pure]
 exact ⟨rfl, rfl⟩
theorem at_build (t : TypeId) {P : Program} {ops : Array Oper} {Q : Exit -> Act -> World -> Prop} {rest : List Oper} {d : Option Tmp} {parts : Array (Nat × Operand)} {ty : TypeId} {pos : String} {after : Array Edge} {g : Option (Nat × Bool)} {a : Act} {w : World}
  (h : wpList P ops Q ({ dst := d, op := .build t parts, type := ty, pos, after, guard := g } :: rest) a w) : wpList P ops Q ({ dst := d, op := .build t parts, type := ty, pos, after, guard := g } :: rest) a w := h
theorem wpList_built' {P : Program} {ops : Array Oper} {rest : List Oper} {o : Oper} {a : Act} {w : World} {Q : Exit -> Act -> World -> Prop} (hg : o.guard = none) (t : TypeId) (parts : Array (Nat × Operand)) (ho : o.op = .build t parts)
  (cells : Array Value) (hf : P.built t (parts.map fun (i, x) => (i, a.eval x)).toList = some cells)
  (h : wpList P ops Q rest (a.put o.dst (.agg cells)) w) : wpList P ops Q (o :: rest) a w := by
 refine wpList_build hg t parts ho (by rw [hf]; rfl) ?_
 rw [hf]
 exact h
end Go.Proofs.YtbicafgmfgdckaaGreatDoor
namespace Go.Proofs.YtbicafgmfgdckaaGreatDoor
open Go Go.RowKit

abbrev Txts := List (List (BitVec 8))
def txt (ls : Txts) (i : Nat) : List (BitVec 8) := ls.getD i []
structure Texts (w : World) (a : Option Addr) (cap : Nat) (ls : Txts) : Prop where
 fits : ls.length <= cap
 room : cap <= 9223372036854775807
 rows : ls = [] \/ ∃ b off, a = some ⟨b, off, none⟩ /\ ∀ i, i < ls.length -> ∃ x c, w.cell? ⟨b, off + i, none⟩ = some (.slice x (txt ls i).length c) /\ Reads w x c (txt ls i)
theorem Texts.keeps {w w' : World} {a : Option Addr} {cap : Nat} {ls : Txts} (h : Texts w a cap ls) (k : Keeps w w') : Texts w' a cap ls := by
 refine ⟨h.fits, h.room, ?_⟩
 rcases h.rows with e | ⟨b, off, e, hb⟩
 ·exact .inl e
 ·refine .inr ⟨b, off, e, fun i hi => ?_⟩
  obtain ⟨x, c, h1, h2⟩ := hb i hi
  exact ⟨x, c, k _ _ h1, h2.keeps k⟩
theorem txt_lt {ls : Txts} {i : Nat} (h : i < ls.length) : txt ls i = ls[i] := by simp [txt, List.getD_eq_getElem?_getD, List.getElem?_eq_getElem h]
def fewOf (ls : Txts) : Txts := (ls.take 12).map (·.take 100)
theorem fewOf_short (ls : Txts) (r : List (BitVec 8)) (h : r ∈ fewOf ls) : r.length <= 100 := by
 obtain ⟨x, _, rfl⟩ := List.mem_map.1 h
 rw [List.length_take]; omega
theorem fewOf_length (ls : Txts) : (fewOf ls).length <= 12 := by
 unfold fewOf
 rw [List.length_map, List.length_take]; omega
theorem textElem : Elem Tryz.prog 25 37 (.slice none 0 0) 24 := ⟨by kernel_rfl, by kernel_rfl, rfl⟩
theorem copy_placed (a : Option Addr) (cap : Nat) (l : List (BitVec 8)) (w : World) (hr : Reads w a cap l) (hl : l.length <= 140737488355328) :
  Calls Tryz.prog 17 #[.slice a l.length cap] w fun e w' => ∃ x c, e = .returned (.slice x l.length c) /\ Reads w' x c l /\ Below w.heap.size w w' /\ ∀ ad, x = some ad -> w.heap.size <= ad.block /\ ad.block < w'.heap.size /\ 0 < l.length := by
 by_cases h0 : l = []
 ·subst h0
  have hr0 := hr.room
  clear hr hl
  show Calls Tryz.prog 17 #[.slice a 0 cap] w _
  cases a with
  | none =>
   go_enter Tryz.func17, Tryz.ntmps17
   go_wp2
   go_ret
   exact ⟨none, 0, rfl, reads_nil _, Below.refl _ _, fun ad e => by cases e⟩
  | some ad =>
   go_enter Tryz.func17, Tryz.ntmps17
   go_wp2
   go_ret
   exact ⟨none, 0, rfl, reads_nil _, Below.refl _ _, fun ad e => by cases e⟩
 ·refine (copy_any a cap l w hr hl).mono fun e w' h => ?_
  obtain ⟨v, rfl, ho, hb⟩ := h
  have hp : 0 < l.length := List.length_pos_iff.2 h0
  obtain ⟨g, c, rfl, hrow, hB, hg⟩ := ho.row (by omega)
  obtain ⟨x, c2, e, rd⟩ := ho.reads
  injection e with e1 _ e2
  subst e1 e2
  exact ⟨_, _, rfl, rd, hb, fun ad e => by injection e with e; subst e; exact ⟨hB, hg, hp⟩⟩
def Firm (vs : List Value) : Prop := ∀ i ad n c, i < vs.length -> vs.getD i undef = .slice (some ad) n c -> 0 < n
theorem Firm.snoc {vs : List Value} {a : Option Addr} {n c : Nat} (h : Firm vs) (k : ∀ ad, a = some ad -> 0 < n) : Firm (vs ++ [.slice a n c]) := by
 intro i ad n2 c2 hi e
 rw [List.length_append, List.length_singleton] at hi
 by_cases hlt : i < vs.length
 ·refine h i ad n2 c2 hlt ?_
  rw [List.getD_eq_getElem?_getD, List.getElem?_append_left hlt, <- List.getD_eq_getElem?_getD] at e
  exact e
 ·have e0 : i = vs.length := by omega
  subst e0
  have e3 : (vs ++ [Value.slice a n c]).getD vs.length undef = .slice a n c := by simp [List.getD_eq_getElem?_getD]
  rw [e3] at e
  injection e with e4 e5 e6
  subst e5
  exact k ad e4
def FewRel (w : World) (ls : Txts) (v i : Value) (wr : World) : Prop :=
 ∃ k vs, k <= ls.length /\ k <= 12 /\ i = .int .i64 (k : Nat) /\ OwnsRows (fun _ => False) wr w.heap.size 37 v vs ((ls.take k).map (·.take 100)) /\ Firm vs /\ Below w.heap.size w wr
set_option maxHeartbeats 2000000 in
theorem few_any (a : Option Addr) (cap : Nat) (ls : Txts) (w : World) (hr : Texts w a cap ls) :
  Calls Tryz.prog 5 #[.slice a ls.length cap] w fun e w' => ∃ v vs, e = .returned v /\ OwnsRows (fun _ => False) w' w.heap.size 37 v vs (fewOf ls) /\ Firm vs /\ Below w.heap.size w w' := by
 have hfit := hr.fits
 have hroom := hr.room
 have HR := Lib.hid hr
 clear hr
 go_enter Tryz.func5, Tryz.ntmps5
 go_wp2_with fail
 go_loopw [3, 4] (fun v i wr => FewRel w ls v i wr) (fun _ i _ => 12 - (intOf i).toNat)
 case atStart => exact ⟨0, [], Nat.zero_le _, by omega, rfl, ownsRows_nil _ _ _ _, (fun i _ _ _ hi => by simp at hi), Below.refl _ _⟩
 case round =>
  obtain ⟨k, vs, hk, hk12, rfl, HO, hfirm, hbr⟩ := hrel
  have HFI := Lib.hid hfirm
  clear hfirm
  by_cases hlt : k < ls.length /\ k < 12
  ·obtain ⟨h1, h2⟩ := hlt
   obtain ⟨b, off, rfl, hrows⟩ := (HR.out.keeps (Keeps.below hbr)).rows.resolve_left (fun e => by rw [e] at h1; simp at h1)
   obtain ⟨x, c, hcell, hreads⟩ := hrows k h1
   have hsn : (ls.take (k + 1)).map (·.take 100) = (ls.take k).map (·.take 100) ++ [(txt ls k).take 100] := by
    rw [List.take_succ_eq_append_getElem h1, List.map_append, txt_lt h1]; rfl
   have hln : ((ls.take k).map (·.take 100)).length = k := by rw [List.length_map, List.length_take]; omega
   have HSN := Lib.hid hsn
   have HLN := Lib.hid hln
   have HO1 := Lib.hid HO
   have HBR := Lib.hid hbr
   clear hsn hln HO hbr hrows
   generalize txt ls k = m at *
   go_wp2_with fail
   refine (cut_any x c m 100 _ wr rfl hreads (by decide)).mono ?_
   rintro e w' ⟨rfl, rfl⟩
   have hm := hreads.take 100
   have hmlen : (m.take 100).length <= 100 := by rw [List.length_take]; omega
   clear hreads
   generalize m.take 100 = q at *
   go_wp2_with fail
   refine (copy_placed x c q wr hm (by omega)).mono ?_
   rintro e w4 ⟨a4, c4, rfl, hr4, hb4, hbl4⟩
   have HF5 := Lib.hid (HFI.out.snoc (c := c4) fun ad e => (hbl4 ad e).2.2)
   have HO4 := HO1.out.touch (.of_below hb4)
   have nA := (Below.refl w4.heap.size w4).alloc (Nat.le_refl _) (.cells #[.slice a4 q.length c4] 37)
   have hcell5 : (w4.alloc (.cells #[.slice a4 q.length c4] 37)).cell? ⟨w4.heap.size, 0, none⟩ = some (.slice a4 q.length c4) := by unfold World.cell?; rw [heap_alloc_new]; simp
   have HO5 := Lib.hid (HO4.touch (.of_below nA))
   have rd5 := hr4.keeps (Keeps.below nA)
   have hb5 := HBR.out.trans ((hb4.mono HBR.out.size).trans (nA.mono (Nat.le_trans HBR.out.size hb4.size)))
   have hvl : ∀ g, Value.ownBlock u3 = some g -> g < wr.heap.size := fun g hg => (row_lt HO1.out.row hg).2
   have hs4 := hb4.size
   have hcx : Chunk (fun _ => False) (w4.alloc (.cells #[.slice a4 q.length c4] 37)) (.slice a4 q.length c4) q := ⟨a4, c4, rfl, rd5, fun ad e => ⟨id, Nat.lt_of_lt_of_le (hbl4 ad e).2.1 nA.size⟩⟩
   have HCX := Lib.hid hcx
   have HVL := Lib.hid hvl
   have HBL := Lib.hid hbl4
   have HB5 := Lib.hid hb5
   have hrow : (w4.alloc (.cells #[.slice a4 q.length c4] 37)).ownsRow w.heap.size 37 1 u3 k vs := by have := HO5.out.row; rw [HLN.out] at this; exact this
   have hsz := hb5.size
   clear HO4 hb4 hr4 nA hcx hvl hbl4 hb5 rd5 hm HO1 HBR hcell
   generalize q.length = nq at *
   go_wp2_with (at_builtin; refine wpList_append_elem textElem rfl _ _ rfl w.heap.size u3 k vs rfl hrow ⟨w4.heap.size, 0, none⟩ 1 (.slice a4 nq c4) rfl hcell5 rfl (by omega) (by omega) hsz ?_; intro v5 w5 r1 r2 r3)
   go_roundw
   case rel =>
    refine ⟨k + 1, vs ++ [.slice a4 nq c4], by omega, by omega, by go_num, ?_, HF5.out, ?_⟩
    ·rw [HSN.out]
     refine HO5.out.snoc HCX.out (fun _ f => f.elim) (by rw [HLN.out]; exact r1) r2 r3 ?_
     intro ad n c e hv
     injection e with e _ _
     have := (HBL.out ad e).1
     have := HVL.out _ hv
     omega
    ·exact HB5.out.trans ((Touch.of_grown (F := fun g => Value.ownBlock u3 = some g) r2 fun _ hk => hk).below (fun g hg => (row_lt HO5.out.row hg).1) HB5.out.size)
   case measure => simp [intOf]; omega
  ·have hkk : (ls.take k).map (·.take 100) = fewOf ls := by
    unfold fewOf
    congr 1
    rcases Nat.lt_or_ge k 12 with h | h
    ·rw [List.take_of_length_le (by omega), List.take_of_length_le (by omega)]
    ·obtain rfl : k = 12 := by omega
     rfl
   rw [hkk] at HO
   have HO1 := Lib.hid HO
   have HBR := Lib.hid hbr
   clear HO hbr hkk
   by_cases h1 : k < ls.length
   ·have h2 : ¬ k < 12 := fun q => hlt ⟨h1, q⟩
    go_wp2
    go_ret
    exact ⟨_, vs, rfl, HO1.out, HFI.out, HBR.out⟩
   ·go_wp2
    go_ret
    exact ⟨_, vs, rfl, HO1.out, HFI.out, HBR.out⟩
end Go.Proofs.YtbicafgmfgdckaaGreatDoor
namespace Go.Proofs.YtbicafgmfgdckaaGreatDoor.Sha

abbrev B8 := BitVec 8
abbrev B32 := BitVec 32
def rotr (x : B32) (n : Nat) : B32 := x >>> n ||| x <<< (32 - n)
def K : List B32 := [
 0x428a2f98#32, 0x71374491#32, 0xb5c0fbcf#32, 0xe9b5dba5#32, 0x3956c25b#32, 0x59f111f1#32, 0x923f82a4#32, 0xab1c5ed5#32,
 0xd807aa98#32, 0x12835b01#32, 0x243185be#32, 0x550c7dc3#32, 0x72be5d74#32, 0x80deb1fe#32, 0x9bdc06a7#32, 0xc19bf174#32,
 0xe49b69c1#32, 0xefbe4786#32, 0x0fc19dc6#32, 0x240ca1cc#32, 0x2de92c6f#32, 0x4a7484aa#32, 0x5cb0a9dc#32, 0x76f988da#32,
 0x983e5152#32, 0xa831c66d#32, 0xb00327c8#32, 0xbf597fc7#32, 0xc6e00bf3#32, 0xd5a79147#32, 0x06ca6351#32, 0x14292967#32,
 0x27b70a85#32, 0x2e1b2138#32, 0x4d2c6dfc#32, 0x53380d13#32, 0x650a7354#32, 0x766a0abb#32, 0x81c2c92e#32, 0x92722c85#32,
 0xa2bfe8a1#32, 0xa81a664b#32, 0xc24b8b70#32, 0xc76c51a3#32, 0xd192e819#32, 0xd6990624#32, 0xf40e3585#32, 0x106aa070#32,
 0x19a4c116#32, 0x1e376c08#32, 0x2748774c#32, 0x34b0bcb5#32, 0x391c0cb3#32, 0x4ed8aa4a#32, 0x5b9cca4f#32, 0x682e6ff3#32,
 0x748f82ee#32, 0x78a5636f#32, 0x84c87814#32, 0x8cc70208#32, 0x90befffa#32, 0xa4506ceb#32, 0xbef9a3f7#32, 0xc67178f2#32]
@[ext] structure St where
 a : B32
 b : B32
 c : B32
 d : B32
 e : B32
 f : B32
 g : B32
 h : B32
def begin : St := ⟨0x6a09e667#32, 0xbb67ae85#32, 0x3c6ef372#32, 0xa54ff53a#32, 0x510e527f#32, 0x9b05688c#32, 0x1f83d9ab#32, 0x5be0cd19#32⟩
def St.list (s : St) : List B32 := [s.a, s.b, s.c, s.d, s.e, s.f, s.g, s.h]
def St.at_ (s : St) (i : Nat) : B32 := s.list.getD i 0#32
def small0 (x : B32) : B32 := rotr x 7 ^^^ rotr x 18 ^^^ x >>> 3
def small1 (x : B32) : B32 := rotr x 17 ^^^ rotr x 19 ^^^ x >>> 10
def big0 (x : B32) : B32 := rotr x 2 ^^^ rotr x 13 ^^^ rotr x 22
def big1 (x : B32) : B32 := rotr x 6 ^^^ rotr x 11 ^^^ rotr x 25
def ch (e f g : B32) : B32 := (e &&& f) ^^^ (~~~e &&& g)
def maj (a b c : B32) : B32 := (a &&& b) ^^^ (a &&& c) ^^^ (b &&& c)
def next (l : List B32) (k : Nat) : B32 := l.getD k 0#32 + small0 (l.getD (k + 1) 0#32) + l.getD (k + 9) 0#32 + small1 (l.getD (k + 14) 0#32)
def grow (b : List B32) : Nat -> List B32
 | 0 => b
 | k + 1 => grow b k ++ [next (grow b k) k]
def be4 (a b c d : B8) : B32 := (((a.setWidth 32 <<< 8 ||| b.setWidth 32) <<< 8 ||| c.setWidth 32) <<< 8) ||| d.setWidth 32
def word (l : List B8) (i : Nat) : B32 := be4 (byteAt l (4 * i)) (byteAt l (4 * i + 1)) (byteAt l (4 * i + 2)) (byteAt l (4 * i + 3))
def first (l : List B8) : List B32 := (List.range 16).map (word l)
def sched (l : List B8) : List B32 := grow (first l) 48
def step (v : St) (k w : B32) : St :=
 let t := v.h + big1 v.e + ch v.e v.f v.g + k + w
 ⟨t + (big0 v.a + maj v.a v.b v.c), v.a, v.b, v.c, v.d + t, v.e, v.f, v.g⟩
def rounds (v : St) (w : List B32) : Nat -> St
 | 0 => v
 | n + 1 => step (rounds v w n) (K.getD n 0#32) (w.getD n 0#32)
def St.plus (s v : St) : St := ⟨s.a + v.a, s.b + v.b, s.c + v.c, s.d + v.d, s.e + v.e, s.f + v.f, s.g + v.g, s.h + v.h⟩
def take (s : St) (l : List B8) : St := s.plus (rounds s (sched l) 64)
def blocks : Nat -> St -> List B8 -> St
 | 0, s, _ => s
 | n + 1, s, l => blocks n (take s (l.take 64)) (l.drop 64)
def be8 (n : Nat) : List B8 := [BitVec.ofNat 8 (n / 2 ^ 56), BitVec.ofNat 8 (n / 2 ^ 48), BitVec.ofNat 8 (n / 2 ^ 40), BitVec.ofNat 8 (n / 2 ^ 32), BitVec.ofNat 8 (n / 2 ^ 24), BitVec.ofNat 8 (n / 2 ^ 16), BitVec.ofNat 8 (n / 2 ^ 8), BitVec.ofNat 8 n]
def noughts (n : Nat) : Nat := (119 - n % 64) % 64
def tail (rest : List B8) (n : Nat) : List B8 := rest ++ [0x80#8] ++ List.replicate (noughts rest.length) 0#8 ++ be8 (8 * n)
def pad (l : List B8) : List B8 := tail l l.length
def bytes4 (x : B32) : List B8 := [(x >>> 24).setWidth 8, (x >>> 16).setWidth 8, (x >>> 8).setWidth 8, x.setWidth 8]
def St.bytes (s : St) : List B8 := s.list.flatMap bytes4
def sum (l : List B8) : List B8 := (blocks ((pad l).length / 64) begin (pad l)).bytes

def held (l : List B8) : St := blocks (l.length / 64) begin l
def left (l : List B8) : List B8 := l.drop (64 * (l.length / 64))

theorem length_grow (b : List B32) : ∀ k, (grow b k).length = b.length + k
 | 0 => rfl
 | k + 1 => by rw [grow, List.length_append, length_grow b k, List.length_singleton]; omega
theorem length_first (l : List B8) : (first l).length = 16 := by simp [first]
theorem length_sched (l : List B8) : (sched l).length = 64 := by rw [sched, length_grow, length_first]
theorem grow_get (b : List B32) (i : Nat) : ∀ k, i < b.length -> (grow b k).getD i 0#32 = b.getD i 0#32
 | 0, _ => rfl
 | k + 1, h => by
  have := length_grow b k
  rw [grow, List.getD_eq_getElem?_getD, List.getElem?_append_left (by omega), <- List.getD_eq_getElem?_getD, grow_get b i k h]
theorem grow_stable (b : List B32) (i k : Nat) (h : i < b.length + k) : ∀ m, (grow b (k + m)).getD i 0#32 = (grow b k).getD i 0#32
 | 0 => rfl
 | m + 1 => by
  have := length_grow b (k + m)
  rw [<- Nat.add_assoc, grow, List.getD_eq_getElem?_getD, List.getElem?_append_left (by omega), <- List.getD_eq_getElem?_getD, grow_stable b i k h m]
theorem grow_next (b : List B32) (k : Nat) : (grow b (k + 1)).getD (b.length + k) 0#32 = next (grow b k) k := by
 have := length_grow b k
 rw [grow, List.getD_eq_getElem?_getD, List.getElem?_append_right (by omega), this, Nat.sub_self]; rfl
theorem sched_low (l : List B8) (i : Nat) (h : i < 16) : (sched l).getD i 0#32 = word l i := by
 rw [sched, grow_get _ _ _ (by rw [length_first]; exact h), List.getD_eq_getElem?_getD]
 simp [first, h]
theorem sched_get (l : List B8) (i k : Nat) (hk : k <= 48) (h : i < 16 + k) : (sched l).getD i 0#32 = (grow (first l) k).getD i 0#32 := by
 have := grow_stable (first l) i k (by rw [length_first]; exact h) (48 - k)
 rw [show k + (48 - k) = 48 by omega] at this
 exact this
theorem sched_high (l : List B8) (i : Nat) (h1 : 16 <= i) (h2 : i < 64) :
  (sched l).getD i 0#32 = (sched l).getD (i - 16) 0#32 + small0 ((sched l).getD (i - 15) 0#32) + (sched l).getD (i - 7) 0#32 + small1 ((sched l).getD (i - 2) 0#32) := by
 obtain ⟨k, rfl⟩ : ∃ k, i = 16 + k := ⟨i - 16, by omega⟩
 have e := grow_next (first l) k
 rw [length_first] at e
 rw [sched_get l (16 + k) (k + 1) (by omega) (by omega), e, next]
 rw [sched_get l (16 + k - 16) k (by omega) (by omega), sched_get l (16 + k - 15) k (by omega) (by omega), sched_get l (16 + k - 7) k (by omega) (by omega), sched_get l (16 + k - 2) k (by omega) (by omega)]
 rw [show 16 + k - 16 = k by omega, show 16 + k - 15 = k + 1 by omega, show 16 + k - 7 = k + 9 by omega, show 16 + k - 2 = k + 14 by omega]
theorem blocks_append : ∀ (m n : Nat) (s : St) (l r : List B8), l.length = 64 * m -> blocks (m + n) s (l ++ r) = blocks n (blocks m s l) r
 | 0, n, s, l, r, h => by
  obtain rfl : l = [] := List.eq_nil_of_length_eq_zero (by omega)
  rw [Nat.zero_add]; rfl
 | m + 1, n, s, l, r, h => by
  rw [show m + 1 + n = (m + n) + 1 by omega, blocks, blocks, List.take_append_of_le_length (by omega), List.drop_append_of_le_length (by omega)]
  exact blocks_append m n _ _ r (by rw [List.length_drop]; omega)
theorem blocks_take : ∀ (m : Nat) (s : St) (l : List B8), 64 * m <= l.length -> blocks m s l = blocks m s (l.take (64 * m))
 | 0, s, l, h => rfl
 | m + 1, s, l, h => by
  rw [blocks, blocks, List.take_take, Nat.min_eq_left (by omega), blocks_take m _ _ (by rw [List.length_drop]; omega), List.drop_take]
  congr 3 <;> omega
theorem held_left (l : List B8) : ∃ h : List B8, h.length = 64 * (l.length / 64) /\ l = h ++ left l /\ held l = blocks (l.length / 64) begin h := by
 refine ⟨l.take (64 * (l.length / 64)), ?_, ?_, ?_⟩
 ·rw [List.length_take]; omega
 ·rw [left, List.take_append_drop]
 ·rw [held]; exact blocks_take _ _ _ (by omega)
theorem left_length (l : List B8) : (left l).length = l.length % 64 := by rw [left, List.length_drop]; omega
theorem held_append (l r : List B8) : held (l ++ r) = blocks (((left l).length + r.length) / 64) (held l) (left l ++ r) := by
 obtain ⟨h, h1, h2, h3⟩ := held_left l
 have hl := left_length l
 rw [held, h3]
 have e : l ++ r = h ++ (left l ++ r) := by rw [<- List.append_assoc, <- h2]
 rw [e, show (h ++ (left l ++ r)).length / 64 = l.length / 64 + ((left l).length + r.length) / 64 by rw [List.length_append, List.length_append, h1]; omega]
 exact blocks_append _ _ _ _ _ h1
theorem left_append (l r : List B8) : left (l ++ r) = (left l ++ r).drop (64 * (((left l).length + r.length) / 64)) := by
 obtain ⟨h, h1, h2, _⟩ := held_left l
 have hl := left_length l
 have e : l ++ r = h ++ (left l ++ r) := by rw [<- List.append_assoc, <- h2]
 rw [left, e, show (h ++ (left l ++ r)).length / 64 = l.length / 64 + ((left l).length + r.length) / 64 by rw [List.length_append, List.length_append, h1]; omega]
 rw [show 64 * (l.length / 64 + ((left l).length + r.length) / 64) = h.length + 64 * (((left l).length + r.length) / 64) by omega, List.drop_append, List.drop_eq_nil_of_le (by omega), Nat.add_sub_cancel_left, List.nil_append]
theorem sum_held (l : List B8) : sum l = (blocks ((tail (left l) l.length).length / 64) (held l) (tail (left l) l.length)).bytes := by
 obtain ⟨h, h1, h2, h3⟩ := held_left l
 have hl := left_length l
 have hn : noughts l.length = noughts (left l).length := by rw [hl, noughts, noughts, Nat.mod_mod]
 have e : pad l = h ++ tail (left l) l.length := by
  rw [pad, tail, tail, hn]
  conv => lhs; rw [show l ++ [0x80#8] = h ++ (left l ++ [0x80#8]) by rw [<- List.append_assoc, <- h2]]
  simp only [List.append_assoc]
 rw [sum, e, h3, show (h ++ tail (left l) l.length).length / 64 = l.length / 64 + (tail (left l) l.length).length / 64 by rw [List.length_append, h1]; omega, blocks_append _ _ _ _ _ h1]
theorem ch_or (e f g : B32) : ((e &&& f) ||| ((e ^^^ 0xffffffff#32) &&& g)) = ch e f g := by
 have h1 : e ^^^ 0xffffffff#32 = ~~~e := by rw [show (0xffffffff#32) = BitVec.allOnes 32 from rfl, BitVec.xor_allOnes]
 rw [h1, ch]
 apply BitVec.eq_of_getLsbD_eq
 intro i hi
 simp only [BitVec.getLsbD_or, BitVec.getLsbD_and, BitVec.getLsbD_xor, BitVec.getLsbD_not, hi, decide_true, Bool.true_and]
 cases e.getLsbD i <;> cases f.getLsbD i <;> cases g.getLsbD i <;> rfl
theorem maj_or (a b c : B32) : ((a &&& b) ||| (a &&& c) ||| (b &&& c)) = maj a b c := by
 rw [maj]
 apply BitVec.eq_of_getLsbD_eq
 intro i hi
 simp only [BitVec.getLsbD_or, BitVec.getLsbD_and, BitVec.getLsbD_xor]
 cases a.getLsbD i <;> cases b.getLsbD i <;> cases c.getLsbD i <;> rfl
end Go.Proofs.YtbicafgmfgdckaaGreatDoor.Sha
namespace Go.Proofs.YtbicafgmfgdckaaGreatDoor
open Go Go.RowKit

theorem and31 (N : Int) : bits .and .i64 N 31 = N % 32 := by
 have e2 : bits .and .i64 N 31 = IntKind.i64.wrap ((BitVec.ofInt 64 N) &&& (BitVec.ofInt 64 31)).toNat := rfl
 have e1 : ((BitVec.ofInt 64 N) &&& (BitVec.ofInt 64 31)).toNat = (N % 18446744073709551616).toNat % 32 := by
  rw [BitVec.toNat_and, BitVec.toNat_ofInt, show (BitVec.ofInt 64 31).toNat = 31 from rfl]
  exact Nat.and_two_pow_sub_one_eq_mod _ 5
 rw [e2, e1, IntWalk.i64_in _ (by omega)]
 omega
def GivesS (w : World) (v : Value) (e : Ending) (w' : World) : Prop := ∃ n, e = .returned v /\ w' = w.drewN n

theorem turn32s_any (x : BitVec 32) (N : Int) (k : Nat) (hk : N % 32 = k) (w : World) : Calls Tryz.prog 111 #[U32 x, .int .i64 N] w (GivesS w (U32 (x <<< k ||| x >>> (32 - k)))) := by
 have hb := and31 N
 have hk32 : k < 32 := by omega
 rw [hk] at hb
 clear hk
 have h0 : (0 : Int) <= 32 - (k : Int) := by omega
 have h3 : (k : Int) <= 32 := by omega
 have h1 : ((32 : Int) - (k : Int)).toNat = 32 - k := by omega
 have h2 : IntKind.i64.wrap (32 - (k : Int)) = 32 - (k : Int) := IntWalk.i64_in _ (by omega)
 go_enter Tryz.func111, Tryz.ntmps111
 go_wp2
 go_quiet (fail)
 go_wp2
 go_ret
 exact ⟨_, rfl, rfl⟩
theorem right_any (x : BitVec 32) (n : Nat) (h1 : 1 <= n) (h2 : n <= 31) (w : World) : Calls Tryz.prog 100 #[U32 x, .int .i64 n] w (GivesS w (U32 (Sha.rotr x n))) := by
 have TU := turn32s_any x (-(n : Int)) (32 - n) (by omega) w
 rw [show 32 - (32 - n) = n by omega, BitVec.or_comm] at TU
 have h3 : IntKind.i64.wrap (-(n : Int)) = -(n : Int) := IntWalk.i64_in _ (by omega)
 clear h1 h2
 go_enter Tryz.func100, Tryz.ntmps100
 go_wp2_with fail
 refine TU.mono ?_
 rintro e w' ⟨m, rfl, rfl⟩
 go_wp2
 go_ret
 exact ⟨_, rfl, rfl⟩
theorem turned_any (x : BitVec 32) (n : Nat) (h1 : 1 <= n) (h2 : n <= 31) (w : World) : Calls Tryz.prog 84 #[U32 x, .int .u64 n] w fun e w' => e = .returned (U32 (Sha.rotr x n)) /\ w = w' := by
 have h0 : (0 : Int) <= 32 - (n : Int) := by omega
 have h3 : ((32 : Int) - (n : Int)).toNat = 32 - n := by omega
 have h5 : (n : Int) <= 32 := by omega
 have h4 : IntKind.u64.wrap (32 - (n : Int)) = 32 - (n : Int) := IntWalk.u64_in _ (by omega)
 go_enter Tryz.func84, Tryz.ntmps84
 go_wp2
 go_ret
 exact ⟨rfl, rfl⟩
end Go.Proofs.YtbicafgmfgdckaaGreatDoor
namespace Go.Proofs.YtbicafgmfgdckaaGreatDoor
open Go Go.RowKit

def bigOf (l : List (BitVec 8)) : BitVec 64 := l.foldl (fun x c => x <<< 8 ||| c.setWidth 64) 0#64
theorem bigOf_snoc (l : List (BitVec 8)) (k : Nat) (h : k < l.length) : bigOf (l.take (k + 1)) = bigOf (l.take k) <<< 8 ||| (byteAt l k).setWidth 64 := by
 unfold bigOf
 rw [take_snoc l k h, List.foldl_append]; rfl
def BigRel (l : List (BitVec 8)) (w : World) (x i : Value) (wr : World) : Prop := ∃ k : Nat, k <= l.length /\ i = .int .i64 k /\ x = U64 (bigOf (l.take k)) /\ wr = w
theorem getBig_any (b off cap : Nat) (l : List (BitVec 8)) (w : World) (h1 : 1 <= l.length) (h8 : l.length <= 8) (hb : BytesAt w b off l) :
  Calls Tryz.prog 112 #[.slice (some ⟨b, off, none⟩) l.length cap] w fun e w' => e = .returned (.tuple #[U64 (bigOf l), .bool true]) /\ w = w' := by
 have hl0 : (1 : Int) <= l.length := by omega
 have hl8 : (l.length : Int) <= 8 := by omega
 go_enter Tryz.func112, Tryz.ntmps112
 go_wp2
 go_loopw [4, 17] (fun x i wr => BigRel l w x i wr) (fun _ i _ => l.length - (intOf i).toNat)
 case atStart => exact ⟨0, Nat.zero_le _, rfl, rfl, rfl⟩
 case round =>
  obtain ⟨k, hk, rfl, rfl, hw⟩ := hrel
  by_cases hlt : k < l.length
  ·have hc : wr.cell? ⟨b, off + k, none⟩ = some (U8 (byteAt l k)) := hw ▸ hb k hlt
   have HW := Lib.hid hw
   have HS := Lib.hid (bigOf_snoc l k hlt)
   clear hw hb
   generalize byteAt l k = c at *
   go_wp2
   go_roundw
   case rel => exact ⟨k + 1, by omega, by go_num, by rw [HS.out], HW.out⟩
   case measure => simp [intOf]; omega
  ·obtain rfl : k = l.length := by omega
   have HW := Lib.hid hw
   clear hw hb
   go_wp2
   go_ret2
   exact ⟨by rw [List.take_length]; rfl, HW.out.symm⟩
end Go.Proofs.YtbicafgmfgdckaaGreatDoor
namespace Go.Proofs.YtbicafgmfgdckaaGreatDoor
open Go Go.RowKit

abbrev Words := List (BitVec 32)
def arr (f : Words) : Array Value := (f.map U32).toArray
def wordAt (f : Words) (i : Nat) : BitVec 32 := f.getD i 0#32
theorem arr_size (f : Words) : (arr f).size = f.length := by simp [arr]
theorem arr_get (f : Words) (i : Nat) (h : i < f.length) : (arr f)[i]? = some (U32 (wordAt f i)) := by
 simp [arr, wordAt, List.getD_eq_getElem?_getD, List.getElem?_eq_getElem h]
theorem arr_set (f : Words) (i : Nat) (x : BitVec 32) : (arr f).setIfInBounds i (U32 x) = arr (f.set i x) := by
 simp [arr, List.map_set]
theorem arr_one (f : Words) : (arr f).all (·.oneCell') = true := by
 rw [Array.all_eq_true_iff_forall_mem]
 intro v hv
 simp only [arr, List.mem_toArray, List.mem_map] at hv
 obtain ⟨x, _, rfl⟩ := hv
 rfl
theorem words_ext {f g : Words} (hl : f.length = g.length) (h : ∀ i, i < f.length -> wordAt f i = wordAt g i) : f = g := by
 apply List.ext_getElem hl
 intro i h1 h2
 have := h i h1
 simpa [wordAt, List.getD_eq_getElem?_getD, List.getElem?_eq_getElem h1, List.getElem?_eq_getElem h2] using this
theorem wordAt_set (f : Words) (i j : Nat) (x : BitVec 32) (h : i < f.length) : wordAt (f.set i x) j = if j = i then x else wordAt f j := by
 unfold wordAt
 rw [List.getD_eq_getElem?_getD, List.getElem?_set, List.getD_eq_getElem?_getD]
 by_cases e : i = j
 ·subst e; simp [h]
 ·rw [if_neg e, if_neg (fun e2 => e e2.symm)]
def ArrAt (w : World) (g : Nat) (t : TypeId) (f : Words) : Prop := w.heap[g]? = some (.cells (arr f) t (0, 0))
section
variable {w w' : World} {g : Nat} {t : TypeId} {f : Words}
theorem ArrAt.cell (h : ArrAt w g t f) {i : Nat} (hi : i < f.length) : w.cell? ⟨g, i, none⟩ = some (U32 (wordAt f i)) := by
 have e := arr_get f i hi
 unfold ArrAt at h
 unfold World.cell?
 rw [h]; exact e
theorem ArrAt.thawed (h : ArrAt w g t f) (o : Nat) : w.frozen? ⟨g, o, none⟩ = false := by
 unfold ArrAt at h
 simp [World.frozen?, h]
theorem ArrAt.lt (h : ArrAt w g t f) : g < w.heap.size := heap_lt h
theorem ArrAt.set (h : ArrAt w g t f) (i : Nat) (x : BitVec 32) : ArrAt (w.setCell ⟨g, i, none⟩ (U32 x)) g t (f.set i x) := by
 have e := setCell_eq_setRow w g i (arr f) t (0, 0) (U32 x) h
 unfold ArrAt
 rw [e, arr_set]
 exact setRow_heap w g (arr f) _ t _ h
theorem ArrAt.drewN (h : ArrAt w g t f) (n : Nat) : ArrAt (w.drewN n) g t f := h
theorem ArrAt.touch {F : Nat -> Prop} (h : ArrAt w g t f) (k : Touch F w w') (hn : ¬ F g) : ArrAt w' g t f := by
 have hl := h.lt
 unfold ArrAt at h ⊢
 rw [k.block g hl hn]; exact h
theorem ArrAt.below (h : ArrAt w g t f) (hb : Below w.heap.size w w') : ArrAt w' g t f := (h.touch (F := fun _ => False) (.of_below hb) fun e => e)
theorem ArrAt.row (h : ArrAt w g t f) (f' : Words) : ArrAt (w.setRow g (arr f')) g t f' := setRow_heap w g (arr f) _ t _ h
theorem ArrAt.new (w : World) (t : TypeId) (f : Words) : ArrAt (w.alloc (.cells (arr f) t)) w.heap.size t f := heap_alloc_new w _
end
end Go.Proofs.YtbicafgmfgdckaaGreatDoor
