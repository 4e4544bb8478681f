/- The crew's pact: a feeder, workers, a WaitGroup, a channel of jobs, a block that is filled place by place: the ghost, what holds of it, what each may count on. For any program. The crew's pact: its laws, the first. For any program. The crew's pact: steps of a goroutine's own. For any program. The crew's pact: own steps are within it; idle ones; those of who leaves. For any program. The crew's pact: communications; nobody is left waiting. For any program. The crew's pact is a pact. For any program. -/
import Derived.Test.YtbicafgmfgdckaaDoorMgTmA
import Derived.Test.YtbicafgmfgdckaaDoorMgTmB
import Derived.Test.YtbicafgmfgdckaaDoorMgCoD
import Derived.Conc.CrowdBase
import Derived.Conc.CrowdCom2
namespace Go.Proofs.YtbicafgmfgdckaaDoor
open Go Go.Conc
open Go.ConcR (KK wgBlock WgAt stA smA)
open Go.ConcN (sumTo upd RelBy PermW WgLive)

/-- Where a goroutine stands. -/
inductive Tag where
  | solo | gone | add (j p : Nat) | feed | shut | reg | thru
  | idle | busy (x : Nat) | out | rel | last (k : Nat)
  deriving DecidableEq
inductive BK where
  | priv (i : Nat) | shd (say : Nat) | fix | mix
  deriving DecidableEq
/-- A phase: the feeder, the first worker, how many workers, how many jobs; the blocks; what stands; what is to come. -/
structure Ph where
  f : Nat
  b : Nat
  W : Nat
  n : Nat
  wg : Nat
  jobs : Nat
  stop : Nat
  out : Nat
  oty : TypeId
  H : Nat → Option Obj
  val : Nat → Nat → Value
structure Gho where
  cnt : Nat
  hs : Nat
  tag : Nat → Tag
  deaf : Nat → Nat
  bk : Nat → BK
  /-- whose a place of a mixed block is; none: shared -/
  ow : Nat → Nat → Option Nat
  next : Nat
  done : Nat → Prop
  ph : Option Ph
def blk : Loc → Nat
  | .cell a => a.block
  | .obj r => r
  | _ => 0
def Gho.fd (γ : Gho) : Nat := match γ.ph with
  | none => 0
  | some p => p.f
def Gho.S (γ : Gho) (i : Nat) (b : Nat) : Prop := b < γ.hs ∧ γ.bk b = .priv i
def Gho.F (γ : Gho) (b : Nat) : Prop := b < γ.hs ∧ γ.bk b = .fix
def Gho.mixAt (γ : Gho) : Loc → Option Nat
  | .cell a => γ.ow a.block a.off
  | _ => some 0
def Gho.wh (γ : Gho) : Wh where
  sh := fun l => (∃ s, γ.bk (blk l) = .shd s) ∨ (γ.bk (blk l) = .mix ∧ γ.mixAt l = none)
  say := fun l => match γ.bk (blk l) with
    | .shd s => s
    | _ => 0
  ro := fun l => γ.bk (blk l) = .fix
  own := fun l => match γ.bk (blk l) with
    | .priv i => i
    | .mix => (γ.mixAt l).getD 0
    | _ => 0
  live := fun k => k < γ.cnt ∧ γ.tag k ≠ .gone
def Tag.closed : Tag → Bool
  | .shut | .reg | .thru => true
  | _ => false
def Tag.feeds : Tag → Prop
  | .add _ _ | .feed | .shut | .reg | .thru => True
  | _ => False
def Tag.works : Tag → Prop
  | .gone | .idle | .busy _ | .out | .rel | .last _ => True
  | _ => False
def Tag.early : Tag → Prop
  | .idle | .busy _ => True
  | _ => False
/-- Has said its release. -/
def Tag.said : Tag → Prop
  | .rel | .last _ | .gone => True
  | _ => False
/-- Counted by the group. -/
def Tag.cw : Tag → Nat
  | .idle | .busy _ | .out | .rel => 1
  | _ => 0
def Tag.pend : Tag → Nat
  | .add _ p => p
  | _ => 0
def Tag.open_ : Tag → Prop
  | .add _ _ | .feed | .shut => True
  | _ => False
def Tag.lasts : Tag → Prop
  | .last _ => True
  | _ => False
def Gho.started (γ : Gho) (p : Ph) : Nat := match γ.tag p.f with
  | .add j _ => j
  | _ => p.W
def vcT (tag : Nat → Tag) (p : Ph) : Nat := sumTo p.W fun j => (tag (p.b + j)).cw
def Gho.vc (γ : Gho) (p : Ph) : Nat := vcT γ.tag p
/-- How the group's two words hang on where everybody stands. -/
inductive WMode (tag : Nat → Tag) (p : Ph) : Int → Int → Prop
  | opn : (tag p.f).open_ → (∀ i, p.b ≤ i → ¬ (tag i).lasts) → WMode tag p (((vcT tag p + (tag p.f).pend : Nat) : Int) * KK) 0
  | reg : tag p.f = .reg → (∀ i, p.b ≤ i → ¬ (tag i).lasts) → 1 ≤ vcT tag p → WMode tag p (((vcT tag p : Nat) : Int) * KK + 1) 0
  | last (L k : Nat) : tag p.f = .reg → p.b ≤ L → tag L = .last k → (∀ i, p.b ≤ i → i ≠ L → tag i = .gone) → WMode tag p (if k = 1 then 0 else 1) 0
  | sema : tag p.f = .reg → (∀ i, p.b ≤ i → tag i = .gone) → WMode tag p 0 1
  | fin : tag p.f = .thru → (∀ i, p.b ≤ i → tag i = .gone) → WMode tag p 0 0
structure Core (ty : TypeId) (γ : Gho) (p : Ph) (w : World) : Prop where
  bwg : γ.bk p.wg = .shd p.f
  bjobs : γ.bk p.jobs = .shd p.f
  bstop : γ.bk p.stop = .shd p.f
  bout : γ.bk p.out = .mix
  ne : p.jobs ≠ p.wg ∧ p.stop ≠ p.wg ∧ p.jobs ≠ p.stop
  fix : ∀ b, b < γ.hs → γ.bk b = .fix → w.heap[b]? = p.H b
  fd : p.f < p.b
  ftag : (γ.tag p.f).feeds
  cnt : γ.cnt = p.b + γ.started p
  add : ∀ j q, γ.tag p.f = .add j q → j ≤ p.W ∧ (q = 0 ∨ (q = 1 ∧ j < p.W)) ∧ γ.next = 0
  rest : ∀ i, i ≠ p.f → i < p.b → γ.tag i = .gone
  wtag : ∀ i, p.b ≤ i → (γ.tag i).works
  early : (γ.tag p.f).closed = false → ∀ i, p.b ≤ i → i < γ.cnt → (γ.tag i).early
  wgm : ∃ st sm, WgAt ty p.wg w st sm ∧ WMode γ.tag p st sm
  jobs : ∃ s, w.heap[p.jobs]? = some (.chan 0 #[] (γ.tag p.f).closed s s false)
  stop : w.heap[p.stop]? = some (.chan 0 #[] false 0 0 false)
  out : ∃ cs, w.heap[p.out]? = some (.cells cs p.oty (0, 0)) ∧ cs.size = 32 * p.n ∧ ∀ x, x < p.n → γ.done x → ∀ o, o < 32 → cs[32 * x + o]? = some (p.val x o)
  job : ∀ x, x < γ.next → γ.done x ∨ ∃ i, p.b ≤ i ∧ γ.tag i = .busy x
  nle : γ.next ≤ p.n
  full : (γ.tag p.f).closed = true → γ.next = p.n
  busy : ∀ i x, γ.tag i = .busy x → x < γ.next ∧ ∀ o, o < 32 → γ.ow p.out (32 * x + o) = some i
  mine : ∀ x, γ.next ≤ x → ∀ o, o < 32 → γ.ow p.out (32 * x + o) = some p.f
  owm : ∀ o, γ.ow p.out o ≠ none
  hear : ∀ i, γ.tag i = .idle ∨ γ.tag i = .feed → γ.deaf i = 0
  mixo : ∀ b, b < γ.hs → γ.bk b = .mix → b = p.out
  small : p.W < 2147483647
  pos : 1 ≤ p.W
/-- What holds of ghost and world. -/
structure GInv (ty : TypeId) (top : Nat) (γ : Gho) (w : World) : Prop where
  hs : γ.hs = w.heap.size
  cnt : 1 ≤ γ.cnt
  main : γ.tag 0 ≠ .gone
  un : ∀ i, γ.cnt ≤ i → γ.tag i = .gone
  ph : match γ.ph with
    | none => γ.tag 0 = .solo ∧ (∀ i, i ≠ 0 → γ.tag i = .gone) ∧ ∀ b, b < γ.hs → (∃ s, γ.bk b = .shd s) ∨ γ.bk b = .priv 0
    | some p => Core ty γ p w
  top : match γ.ph with
    | none => True
    | some p => p.b + p.W ≤ top
/-- What holds of the trace. -/
structure GTr (γ : Gho) (t : Trace) : Prop where
  d : DTr γ.wh t γ.cnt
  deaf : ∀ i, Deaf t i = γ.deaf i
  nrel : NoRel t
  low : ∀ i a, touchAt t i = some a → blk a.loc < γ.hs
  rel : ∀ p, γ.ph = some p → ∀ k, p.b ≤ k → k < γ.cnt → (γ.tag k).said → ∃ r, RelBy (stA p.wg) t k r
  old : ∀ i, t.counts i → Knows t γ.fd i ∨ ∃ p, γ.ph = some p ∧ ∃ k, p.b ≤ k ∧ t.g? i = some k
/-- What a goroutine that is not gone may count on. -/
structure RelL (i : Nat) (γ : Gho) (w : World) (γ2 : Gho) (w2 : World) : Prop where
  hs : γ.hs ≤ γ2.hs
  bk : ∀ b, b < γ.hs → (∀ j, j ≠ i → γ.bk b ≠ .priv j) → γ2.bk b = γ.bk b
  bk2 : ∀ b, b < γ2.hs → γ2.bk b = .priv i → b < γ.hs ∧ γ.bk b = .priv i
  keep : ∀ b, b < γ.hs → γ.bk b = .priv i ∨ γ.bk b = .fix → w2.heap[b]? = w.heap[b]?
  tape : w2.tape = w.tape
  ow : ∀ b o, γ.ow b o = some i → γ2.ow b o = some i
  ph : γ2.ph = γ.ph
  feed : γ.fd = i → γ2.next = γ.next ∧ ∀ p, γ.ph = some p → γ2.vc p ≤ γ.vc p
  still : γ.ph = none → w2.heap = w.heap ∧ γ2.hs = γ.hs ∧ γ2.cnt = γ.cnt
  next : γ.next ≤ γ2.next
structure Rel (i : Nat) (γ : Gho) (w : World) (γ2 : Gho) (w2 : World) : Prop where
  tag : γ2.tag i = γ.tag i
  deaf : γ2.deaf i = γ.deaf i
  live : γ.tag i ≠ .gone → RelL i γ w γ2 w2
def Gho.setTag (γ : Gho) (i : Nat) (t : Tag) : Gho := { γ with tag := upd γ.tag i t }
def Gho.setDeaf (γ : Gho) (i : Nat) (d : Nat) : Gho := { γ with deaf := upd γ.deaf i d }
/-- A job passes to worker i. -/
def Gho.pass (γ : Gho) (p : Ph) (i : Nat) : Gho := { γ with tag := upd γ.tag i (.busy γ.next), next := γ.next + 1, ow := fun b o => if b = p.out ∧ o / 32 = γ.next then some i else γ.ow b o }
def GWait (ty : TypeId) (i : Nat) (γ : Gho) (w : World) : Prop := ∃ p, γ.ph = some p ∧ i = p.f ∧ γ.tag i = .reg ∧ ∃ st, WgAt ty p.wg w st 0
def GOffer (i : Nat) (γ : Gho) (cases : Array CommCase) (b : Bool) : Prop := ∃ p, γ.ph = some p ∧
  ((p.b ≤ i ∧ γ.tag i = .idle ∧ b = true ∧ ∃ z, cases = #[rcase p.jobs z]) ∨ (i = p.f ∧ γ.tag i = .feed ∧ ((b = false ∧ ∃ z, cases = #[rcase p.stop z]) ∨ (b = true ∧ γ.next < p.n ∧ ∃ z z', cases = #[scase p.jobs (.int .i64 γ.next) z, rcase p.stop z']))))
def GResult (i : Nat) (γ : Gho) (w : World) (b : Bool) (k : Int) (v : Value) (ok : Bool) (γ' : Gho) (w' : World) : Prop := ∃ p, γ.ph = some p ∧
  ((p.b ≤ i ∧ γ.tag i = .idle ∧ ok = true ∧ v = .int .i64 γ.next ∧ γ' = γ.pass p i ∧ γ.next < p.n ∧ ∃ s, w' = w.setChan p.jobs 0 #[] false s s false) ∨
   (p.b ≤ i ∧ γ.tag i = .idle ∧ ok = false ∧ γ' = γ.setTag i .out ∧ w' = w) ∨
   (i = p.f ∧ γ.tag i = .feed ∧ b = false ∧ k = -1 ∧ v = undef ∧ ok = false ∧ γ' = γ ∧ w' = w) ∨
   (i = p.f ∧ γ.tag i = .feed ∧ b = true ∧ k = 0 ∧ v = undef ∧ ok = false ∧ ∃ h s, p.b ≤ h ∧ γ.tag h = .idle ∧ γ' = γ.pass p h ∧ w' = w.setChan p.jobs 0 #[] false s s false))
def crewPact (P : Program) (ty : TypeId) (top : Nat) (Post : Value → World → Prop) : Pact P where
  Gh := Gho
  Inv := GInv ty top
  Tr := GTr
  R := Rel
  Wait := GWait ty
  Offer := GOffer
  Result := GResult
  Gone := fun i γ => i ≠ 0 ∧ γ.tag i = .gone
  deaf := Gho.deaf
  cnt := Gho.cnt
  top := top
  Post := Post
end Go.Proofs.YtbicafgmfgdckaaDoor
namespace Go.Proofs.YtbicafgmfgdckaaDoor
open Go Go.Conc
open Go.ConcR (KK wgBlock WgAt stA smA)
open Go.ConcN (sumTo upd upd_same upd_ne sumTo_upd sumTo_congr sumTo_upd_out le_sumTo RelBy PermW WgLive)

section
variable {ty : TypeId} {top : Nat} {γ γ' γ1 γ2 : Gho} {p : Ph} {w w' w1 w2 : World} {i j k : Nat} {t u : Trace} {P : Program} {Post : Value → World → Prop}
theorem RelL.refl (i : Nat) (γ : Gho) (w : World) : RelL i γ w γ w := ⟨Nat.le_refl _, fun _ _ _ => rfl, fun _ h1 h2 => ⟨h1, h2⟩, fun _ _ _ => rfl, rfl, fun _ _ h => h, rfl, fun _ => ⟨rfl, fun _ _ => Nat.le_refl _⟩, fun _ => ⟨rfl, rfl, rfl⟩, Nat.le_refl _⟩
theorem Rel.refl (i : Nat) (γ : Gho) (w : World) : Rel i γ w γ w := ⟨rfl, rfl, fun _ => .refl i γ w⟩
theorem RelL.trans (h : RelL i γ w γ1 w1) (h' : RelL i γ1 w1 γ2 w2) : RelL i γ w γ2 w2 := by
  refine ⟨Nat.le_trans h.hs h'.hs, fun b hb hj => ?_, fun b hb e => ?_, fun b hb e => ?_, h'.tape.trans h.tape, fun b o e => h'.ow b o (h.ow b o e), h'.ph.trans h.ph, fun e => ?_, fun e => ?_, Nat.le_trans h.next h'.next⟩
  · have e1 := h.bk b hb hj
    exact (h'.bk b (Nat.lt_of_lt_of_le hb h.hs) fun j hj' => by rw [e1]; exact hj j hj').trans e1
  · obtain ⟨e1, e2⟩ := h'.bk2 b hb e
    exact h.bk2 b e1 e2
  · have e1 : γ1.bk b = γ.bk b := h.bk b hb fun j hj e2 => by
      rcases e with e | e <;> (rw [e] at e2; cases e2)
      exact hj rfl
    exact (h'.keep b (Nat.lt_of_lt_of_le hb h.hs) (by rw [e1]; exact e)).trans (h.keep b hb e)
  · have e1 : γ1.fd = i := by rw [← e]; unfold Gho.fd; rw [h.ph]
    obtain ⟨q1, q2⟩ := h.feed e
    obtain ⟨q3, q4⟩ := h'.feed e1
    exact ⟨q3.trans q1, fun p hp => Nat.le_trans (q4 p (h.ph.trans hp)) (q2 p hp)⟩
  · obtain ⟨a1, a2, a3⟩ := h.still e
    obtain ⟨b1, b2, b3⟩ := h'.still (h.ph.trans e)
    exact ⟨b1.trans a1, b2.trans a2, b3.trans a3⟩
theorem Rel.trans (h : Rel i γ w γ1 w1) (h' : Rel i γ1 w1 γ2 w2) : Rel i γ w γ2 w2 :=
  ⟨h'.tag.trans h.tag, h'.deaf.trans h.deaf, fun e => (h.live e).trans (h'.live (by rw [h.tag]; exact e))⟩
theorem Rel.at (i : Nat) (γ : Gho) (w : World) (d : Nat) : Rel i γ w γ (w.at d) := ⟨rfl, rfl, fun _ => ⟨Nat.le_refl _, fun _ _ _ => rfl, fun _ h1 h2 => ⟨h1, h2⟩, fun _ _ _ => rfl, rfl, fun _ _ h => h, rfl, fun _ => ⟨rfl, fun _ _ => Nat.le_refl _⟩, fun _ => ⟨rfl, rfl, rfl⟩, Nat.le_refl _⟩⟩
theorem Core.lts (h : Core ty γ p w) (hs : γ.hs = w.heap.size) : p.wg < γ.hs ∧ p.jobs < γ.hs ∧ p.stop < γ.hs ∧ p.out < γ.hs := by
  obtain ⟨st, sm, h1, _⟩ := h.wgm
  obtain ⟨s, h2⟩ := h.jobs
  obtain ⟨cs, h3, _⟩ := h.out
  rw [hs]
  exact ⟨(Array.getElem?_eq_some_iff.1 h1).1, (Array.getElem?_eq_some_iff.1 h2).1, (Array.getElem?_eq_some_iff.1 h.stop).1, (Array.getElem?_eq_some_iff.1 h3).1⟩
/-- What touches nothing that the pact speaks of keeps it. -/
theorem Core.frame (h : Core ty γ p w) (hs : γ.hs = w.heap.size) (e1 : γ'.tag = γ.tag) (e2 : γ'.cnt = γ.cnt) (e3 : γ'.next = γ.next) (e4 : γ'.done = γ.done) (e5 : γ'.ow = γ.ow) (e6 : ∀ b, b < γ.hs → γ'.bk b = γ.bk b) (e7 : ∀ b, γ.hs ≤ b → b < γ'.hs → γ'.bk b ≠ .fix ∧ γ'.bk b ≠ .mix)
    (e8 : ∀ i, γ.tag i = .idle ∨ γ.tag i = .feed → γ'.deaf i = γ.deaf i) (hh : ∀ b, b < γ.hs → (∀ j, γ.bk b ≠ .priv j) → w'.heap[b]? = w.heap[b]?) : Core ty γ' p w' := by
  obtain ⟨l1, l2, l3, l4⟩ := h.lts hs
  have n1 : w'.heap[p.wg]? = w.heap[p.wg]? := hh _ l1 fun j => by rw [h.bwg]; simp
  have n2 : w'.heap[p.jobs]? = w.heap[p.jobs]? := hh _ l2 fun j => by rw [h.bjobs]; simp
  have n3 : w'.heap[p.stop]? = w.heap[p.stop]? := hh _ l3 fun j => by rw [h.bstop]; simp
  have n4 : w'.heap[p.out]? = w.heap[p.out]? := hh _ l4 fun j => by rw [h.bout]; simp
  obtain ⟨tag⟩ := γ'
  dsimp only at *
  subst e1 e2 e3 e4 e5
  refine ⟨(e6 _ l1).trans h.bwg, (e6 _ l2).trans h.bjobs, (e6 _ l3).trans h.bstop, (e6 _ l4).trans h.bout, h.ne, fun b hb e => ?_, h.fd, h.ftag, h.cnt, h.add, h.rest, h.wtag, h.early, ?_, ?_, n3.trans h.stop, ?_, h.job, h.nle, h.full, h.busy, h.mine, h.owm, fun i hi => (e8 i hi).trans (h.hear i hi), fun b hb e => ?_, h.small, h.pos⟩
  · by_cases hlt : b < γ.hs
    · have e' := (e6 b hlt).symm.trans e
      exact (hh b hlt fun j => by rw [e']; simp).trans (h.fix b hlt e')
    · exact absurd e (e7 b (by omega) hb).1
  · obtain ⟨st, sm, q1, q2⟩ := h.wgm
    exact ⟨st, sm, n1.trans q1, q2⟩
  · obtain ⟨s, q⟩ := h.jobs
    exact ⟨s, n2.trans q⟩
  · obtain ⟨cs, q, q2⟩ := h.out
    exact ⟨cs, n4.trans q, q2⟩
  · by_cases hlt : b < γ.hs
    · exact h.mixo b hlt ((e6 b hlt).symm.trans e)
    · exact absurd e (e7 b (by omega) hb).2
theorem GInv.frame (h : GInv ty top γ w) (hs : γ'.hs = w'.heap.size) (e0 : γ'.ph = γ.ph) (e1 : γ'.tag = γ.tag) (e2 : γ'.cnt = γ.cnt) (e3 : γ'.next = γ.next) (e4 : γ'.done = γ.done) (e5 : γ'.ow = γ.ow) (e6 : ∀ b, b < γ.hs → γ'.bk b = γ.bk b) (e7 : ∀ b, γ.hs ≤ b → b < γ'.hs → γ'.bk b ≠ .fix ∧ γ'.bk b ≠ .mix)
    (e9 : γ.ph = none → ∀ b, γ.hs ≤ b → b < γ'.hs → (∃ s, γ'.bk b = .shd s) ∨ γ'.bk b = .priv 0) (e8 : ∀ i, γ.tag i = .idle ∨ γ.tag i = .feed → γ'.deaf i = γ.deaf i) (hh : ∀ b, b < γ.hs → (∀ j, γ.bk b ≠ .priv j) → w'.heap[b]? = w.heap[b]?) : GInv ty top γ' w' := by
  refine ⟨hs, by rw [e2]; exact h.cnt, by rw [e1]; exact h.main, by rw [e1, e2]; exact h.un, ?_, ?_⟩
  · have := h.ph
    rw [e0]
    cases hp : γ.ph with
    | none => rw [hp] at this; dsimp only at this ⊢; rw [e1]; exact ⟨this.1, this.2.1, fun b hb => (Nat.lt_or_ge b γ.hs).elim (fun q => by rw [e6 b q]; exact this.2.2 b q) fun q => e9 hp b q hb⟩
    | some p => rw [hp] at this; dsimp only at this ⊢; exact this.frame h.hs e1 e2 e3 e4 e5 e6 e7 e8 hh
  · rw [e0]; exact h.top
theorem GInv.core (h : GInv ty top γ w) (hp : γ.ph = some p) : Core ty γ p w := by have := h.ph; rw [hp] at this; exact this
theorem GInv.free (h : GInv ty top γ w) (hp : γ.ph = none) : γ.tag 0 = .solo ∧ (∀ i, i ≠ 0 → γ.tag i = .gone) ∧ ∀ b, b < γ.hs → (∃ s, γ.bk b = .shd s) ∨ γ.bk b = .priv 0 := by have := h.ph; rw [hp] at this; exact this
theorem GInv.at (h : GInv ty top γ w) (d : Nat) : GInv ty top γ (w.at d) := h.frame h.hs rfl rfl rfl rfl rfl rfl (fun _ _ => rfl) (fun b h1 h2 => absurd h2 (by omega)) (fun _ b h1 h2 => absurd h2 (by omega)) (fun _ _ => rfl) fun _ _ _ => rfl
/-- Who is at work has a place in the phase. -/
theorem GInv.who (h : GInv ty top γ w) (hi : γ.tag i ≠ .gone) : i = γ.fd ∨ ∃ p, γ.ph = some p ∧ p.b ≤ i := by
  unfold Gho.fd
  cases hp : γ.ph with
  | none => exact .inl (Classical.byContradiction fun hn => hi ((h.free hp).2.1 i hn))
  | some p =>
    by_cases e : i = p.f
    · exact .inl e
    · exact .inr ⟨p, rfl, Nat.le_of_not_lt fun hlt => hi ((h.core hp).rest i e hlt)⟩
end
end Go.Proofs.YtbicafgmfgdckaaDoor
namespace Go.Proofs.YtbicafgmfgdckaaDoor
open Go Go.Conc
open Go.ConcR (KK wgBlock WgAt stA smA)
open Go.ConcN (sumTo upd upd_same upd_ne RelBy PermW WgLive)

section
variable {ty : TypeId} {top : Nat} {γ γ' : Gho} {p : Ph} {w w' : World} {i j k n : Nat} {t u : Trace} {P : Program} {Post : Value → World → Prop} {es : Array Event}
/-- What is not shared below the bound is called as before. -/
theorem DTr.low (h : DTr γ.wh t n) (hlow : ∀ i a, touchAt t i = some a → blk a.loc < γ.hs) (e6 : ∀ b, b < γ.hs → γ'.bk b = γ.bk b) (e5 : γ'.ow = γ.ow) (hl : ∀ k, γ'.wh.live k → γ.wh.live k) : DTr γ'.wh t n := by
  have hm : ∀ l, γ'.mixAt l = γ.mixAt l := fun l => by cases l <;> simp [Gho.mixAt, e5]
  have hsh : ∀ l, blk l < γ.hs → (γ'.wh.sh l ↔ γ.wh.sh l) := fun l hl => by simp only [Gho.wh, e6 _ hl, hm]
  have hro : ∀ l, blk l < γ.hs → (γ'.wh.ro l ↔ γ.wh.ro l) := fun l hl => by simp only [Gho.wh, e6 _ hl]
  have hsay : ∀ l, blk l < γ.hs → γ'.wh.say l = γ.wh.say l := fun l hl => by simp only [Gho.wh, e6 _ hl]
  have hown : ∀ l, blk l < γ.hs → γ'.wh.own l = γ.wh.own l := fun l hl => by simp only [Gho.wh, e6 _ hl, hm]
  have fresh : ∀ l, ¬ blk l < γ.hs → ∀ i a, touchAt t i = some a → a.loc ≠ l := fun l hl i a ha e => hl (e ▸ hlow i a ha)
  refine h.anew (fun i op x hi hx hs => ?_) (fun l hs hr => ?_) (fun l hs hr k hk => ?_) fun i a ha hs => (hsh _ (hlow i a ha)).2 hs
  · have hlt := hlow i x (by rw [touchAt_of hi]; exact hx)
    exact .inl ⟨(hsh _ hlt).1 hs, hsay _ hlt⟩
  · by_cases hlt : blk l < γ.hs
    · rw [hown l hlt]; exact h.own l (fun q => hs ((hsh l hlt).2 q)) fun q => hr ((hro l hlt).2 q)
    · exact Perm.fresh (fresh l hlt)
  · by_cases hlt : blk l < γ.hs
    · exact h.ro l (fun q => hs ((hsh l hlt).2 q)) ((hro l hlt).1 hr) k (hl k hk)
    · exact fun i a ha e => absurd e (fresh l hlt i a ha)
/-- Operations of one goroutine that has a place in the phase. -/
theorem GTr.own (h : GTr γ t) (e : γ'.ph = γ.ph) (hg : ∀ op ∈ u, op.g = i) (hwho : i = γ.fd ∨ ∃ p, γ.ph = some p ∧ p.b ≤ i) (hd : DTr γ'.wh (t ++ u) γ'.cnt) (hdeaf : ∀ k, k ≠ i → γ'.deaf k = γ.deaf k) (hdi : Deaf (t ++ u) i = γ'.deaf i)
    (hn : ∀ op ∈ u, ∀ a, op.act ≠ .mark (.release a)) (hlow : ∀ i a, touchAt (t ++ u) i = some a → blk a.loc < γ'.hs) (hrel : ∀ k, k ≠ i → k < γ'.cnt → (γ'.tag k).said → k < γ.cnt ∧ (γ.tag k).said)
    (hreli : ∀ p, γ.ph = some p → p.b ≤ i → (γ'.tag i).said → ∃ r, RelBy (stA p.wg) (t ++ u) i r) : GTr γ' (t ++ u) := by
  have efd : γ'.fd = γ.fd := by unfold Gho.fd; rw [e]
  refine ⟨hd, fun k => ?_, h.nrel.app hn, hlow, fun p hp k hk hk2 hs => ?_, fun j hc => ?_⟩
  · by_cases ek : k = i
    · rw [ek]; exact hdi
    · rw [Deaf_other t (Ne.symm ek) u hg, h.deaf k, hdeaf k ek]
  · rw [e] at hp
    by_cases ek : k = i
    · subst ek; exact hreli p hp hk hs
    · obtain ⟨q1, q2⟩ := hrel k ek hk2 hs
      obtain ⟨r, hr⟩ := h.rel p hp k hk q1 q2
      exact ⟨r, hr.appOther hg (Ne.symm ek)⟩
  · rw [efd, e]
    by_cases hj : j < t.size
    · rcases h.old j ((counts_old hj).1 hc) with q | ⟨p, q1, k, q2, q3⟩
      · exact .inl (q.app u)
      · exact .inr ⟨p, q1, k, q2, by rw [g?_old hj]; exact q3⟩
    · obtain ⟨x, hx, _⟩ := hc
      obtain ⟨act, hact, _⟩ := Option.bind_eq_some_iff.1 hx
      obtain ⟨op, ho, rfl⟩ := Option.map_eq_some_iff.1 hact
      have hop : op.g = i := by
        rcases getElem?_append_cases ho with ⟨q, _⟩ | ⟨_, q⟩
        · exact absurd q hj
        · exact hg op q
      rcases hwho with q | ⟨p, q1, q2⟩
      · left
        have := knows_own ho
        rw [hop, q] at this
        exact this
      · exact .inr ⟨p, q1, i, q2, by simp [Trace.g?, ho, hop]⟩
/-- A step that lists nothing that touches, and turns no word of its own but how deaf it is. -/
theorem GTr.hush (h : GTr γ t) (hu : ∀ op ∈ u, op.g = i ∧ op.act.touch? = none ∧ ∀ a, op.act ≠ .mark (.release a)) (hi : i < γ.cnt) (hdi : Deaf (t ++ u) i = γ'.deaf i) (e : γ' = { γ with deaf := γ'.deaf }) (hdeaf : ∀ k, k ≠ i → γ'.deaf k = γ.deaf k) : GTr γ' (t ++ u) := by
  have e1 : γ'.ph = γ.ph := by rw [e]
  have e2 : γ'.wh = γ.wh := by rw [e]; rfl
  have e3 : γ'.cnt = γ.cnt := by rw [e]
  have e4 : γ'.hs = γ.hs := by rw [e]
  have e5 : γ'.tag = γ.tag := by rw [e]
  have efd : γ'.fd = γ.fd := by unfold Gho.fd; rw [e1]
  have hg : ∀ op ∈ u, op.g = i := fun op hop => (hu op hop).1
  have hs : ∀ op ∈ u, op.act.touch? = none := fun op hop => (hu op hop).2.1
  refine ⟨?_, fun k => ?_, h.nrel.app fun op hop => (hu op hop).2.2, fun j a ha => ?_, fun p hp k hk hk2 hs' => ?_, fun j hc => ?_⟩
  · rw [e2, e3]
    exact h.d.silent (Nat.le_refl _) fun op hop => ⟨hs op hop, by rw [hg op hop]; exact hi⟩
  · by_cases ek : k = i
    · rw [ek]; exact hdi
    · rw [Deaf_other t (Ne.symm ek) u hg, h.deaf k, hdeaf k ek]
  · rw [e4]; exact h.low j a (touch_silent hs ha)
  · rw [e1] at hp
    rw [e3] at hk2
    rw [e5] at hs'
    obtain ⟨r, hr⟩ := h.rel p hp k hk hk2 hs'
    refine ⟨r, hr.app fun m hm hgm hc => ?_⟩
    obtain ⟨x, hx, _⟩ := hc
    have := touch_silent hs hx
    obtain ⟨_, h1, _⟩ := touch_of this
    have := lt_size_of_getElem? h1
    omega
  · rw [efd, e1]
    have hj : j < t.size := by
      obtain ⟨x, hx, _⟩ := hc
      have := touch_silent hs hx
      obtain ⟨_, h1, _⟩ := touch_of this
      exact lt_size_of_getElem? h1
    rcases h.old j ((counts_old hj).1 hc) with q | ⟨p, q1, k, q2, q3⟩
    · exact .inl (q.app u)
    · exact .inr ⟨p, q1, k, q2, by rw [g?_old hj]; exact q3⟩
/-- Nothing listed. -/
theorem ofEvents_nil (t : Trace) (i : Nat) (fn : FuncId) (pos : String) : t ++ MemOp.ofEvents i fn pos #[] = t := by show t ++ #[] = t; simp
/-! ### its own blocks -/
def Gho.grown (γ : Gho) (i : Nat) (w' : World) : Gho := { γ with hs := w'.heap.size, bk := fun b => if γ.hs ≤ b then .priv i else γ.bk b }
theorem grown_bk {b : Nat} (h : b < γ.hs) : (γ.grown i w').bk b = γ.bk b := by simp [Gho.grown, Nat.not_le.2 h]
theorem grow_grown (hs : γ.hs = w.heap.size) (hsz : w.heap.size ≤ w'.heap.size) : grow (γ.S i) w w' = (γ.grown i w').S i := by
  funext b
  apply propext
  unfold grow Gho.S
  simp only [Gho.grown]
  constructor
  · rintro (⟨h1, h2⟩ | ⟨h1, h2⟩)
    · exact ⟨by omega, by rw [if_neg (by omega)]; exact h2⟩
    · exact ⟨h2, by rw [if_pos (by omega)]⟩
  · rintro ⟨h1, h2⟩
    by_cases hb : γ.hs ≤ b
    · exact .inr ⟨by omega, h1⟩
    · rw [if_neg hb] at h2
      exact .inl ⟨by omega, h2⟩
theorem rel_grown (hs : γ.hs = w.heap.size) (ho : Own (γ.S i) (γ.F) w w' es) (hji : j ≠ i) (hn : γ.ph = none → γ.tag j = .gone) : Rel j γ w (γ.grown i w') w' := by
  refine ⟨rfl, rfl, fun hg => ⟨by show γ.hs ≤ w'.heap.size; rw [hs]; exact ho.size, fun b hb _ => grown_bk hb, fun b hb e => ?_, fun b hb e => ?_, ho.tape, fun _ _ h => h, rfl, fun _ => ⟨rfl, fun _ _ => Nat.le_refl _⟩, (fun e => absurd (hn e) hg), Nat.le_refl _⟩⟩
  · by_cases hlt : γ.hs ≤ b
    · simp only [Gho.grown, if_pos hlt, BK.priv.injEq] at e
      exact absurd e.symm hji
    · rw [grown_bk (by omega)] at e
      exact ⟨by omega, e⟩
  · refine ho.old b (by omega) fun q => ?_
    have := q.2
    rcases e with e | e
    · rw [e] at this; injection this with this; exact hji this
    · rw [e] at this; cases this
theorem ok_event {fn : FuncId} {pos : String} {e : Event} (hs : γ.hs = w.heap.size) (hi : γ.wh.live i) (h : EvS (grow (γ.S i) w w') γ.F e) (hsz : w.heap.size ≤ w'.heap.size) : OkT (γ.grown i w').wh i { g := i, fn, pos, act := .ofEvent e } ∧ ∀ x, (MemAct.ofEvent e).touch? = some x → blk x.loc < w'.heap.size := by
  have key : ∀ l, (grow (γ.S i) w w' (blk l) ∨ γ.F (blk l)) → blk l < w'.heap.size ∧ ¬ (γ.grown i w').wh.sh l ∧ ((grow (γ.S i) w w' (blk l) → ¬ (γ.grown i w').wh.ro l ∧ (γ.grown i w').wh.own l = i) ∧ (γ.F (blk l) → (γ.grown i w').wh.ro l ∧ (γ.grown i w').wh.live i)) := by
    intro l hl
    have hF : γ.F (blk l) → (γ.grown i w').bk (blk l) = .fix := fun q => (grown_bk q.1).trans q.2
    have hS : grow (γ.S i) w w' (blk l) → (γ.grown i w').bk (blk l) = .priv i := fun q => by rw [grow_grown hs hsz] at q; exact q.2
    refine ⟨?_, ?_, fun q => ⟨?_, ?_⟩, fun q => ⟨hF q, hi⟩⟩
    · rcases hl with q | q
      · rw [grow_grown hs hsz] at q; exact q.1
      · have := q.1; omega
    · rintro (⟨s, e⟩ | ⟨e, _⟩) <;> (rcases hl with q | q <;> first | (rw [hS q] at e; cases e) | (rw [hF q] at e; cases e))
    · intro e
      simp only [Gho.wh] at e
      rw [hS q] at e; cases e
    · simp only [Gho.wh, hS q]
  obtain ⟨loc, wr, sync⟩ := e
  rcases h with ⟨ad, h1, h2, h3⟩ | ⟨m, h1, h2⟩ | ⟨r, h1, h2, h3, h4⟩
  · dsimp only at h1 h2 h3
    subst h1 h2
    have e1 : MemAct.ofEvent ⟨.cell ad, wr, false⟩ = .access ⟨.cell ad, wr, false⟩ := rfl
    rw [e1]
    obtain ⟨k1, k2, k3, k4⟩ := key (.cell ad) (h3.imp id fun q => q.1)
    refine ⟨⟨rfl, fun x hx => ?_⟩, fun x hx => ?_⟩
    · simp only [MemAct.touch?, Option.some.injEq] at hx
      subst hx
      refine .inr ⟨k2, by simp, rfl, ?_⟩
      rcases h3 with q | ⟨q, q2⟩
      · exact .inl (k3 q)
      · exact .inr ⟨(k4 q).1, (k4 q).2, q2⟩
    · simp only [MemAct.touch?, Option.some.injEq] at hx
      subst hx
      exact k1
  · dsimp only at h1
    subst h1
    have e1 : MemAct.ofEvent ⟨.mark m, wr, sync⟩ = .mark m := by cases wr <;> cases sync <;> rfl
    have e2 : (MemAct.mark m).touch? = none := by cases m <;> first | rfl | (simp [Mark.mute'] at h2)
    rw [e1]
    exact ⟨⟨rfl, fun x hx => by simp only [e2] at hx; cases hx⟩, fun x hx => by rw [e2] at hx; cases hx⟩
  · dsimp only at h1 h2 h3 h4
    subst h1 h3 h4
    have e1 : MemAct.ofEvent ⟨.obj r, false, false⟩ = .access ⟨.obj r, false, false⟩ := rfl
    rw [e1]
    obtain ⟨k1, k2, k3, k4⟩ := key (.obj r) h2
    refine ⟨⟨rfl, fun x hx => ?_⟩, fun x hx => ?_⟩
    · simp only [MemAct.touch?, Option.some.injEq] at hx
      subst hx
      refine .inr ⟨k2, by simp, rfl, ?_⟩
      rcases h2 with q | q
      · exact .inl (k3 q)
      · exact .inr ⟨(k4 q).1, (k4 q).2, rfl⟩
    · simp only [MemAct.touch?, Option.some.injEq] at hx
      subst hx
      exact k1
end
end Go.Proofs.YtbicafgmfgdckaaDoor
namespace Go.Proofs.YtbicafgmfgdckaaDoor
open Go Go.Conc
open Go.ConcR (KK wgBlock WgAt stA smA)
open Go.ConcN (sumTo upd upd_same upd_ne RelBy PermW WgLive)

section
variable {ty : TypeId} {top : Nat} {γ γ' : Gho} {p : Ph} {w w' : World} {i j k n : Nat} {t u : Trace} {P : Program} {Post : Value → World → Prop} {es : Array Event}
theorem mem_ofEv {g : Nat} {fn : FuncId} {pos : String} {op : MemOp} (h : op ∈ MemOp.ofEvents g fn pos es) : ∃ e, e ∈ es ∧ op = { g, fn, pos, act := .ofEvent e } := by
  rw [ofEvents_eq] at h
  obtain ⟨e, he, rfl⟩ := Array.mem_map.1 h
  exact ⟨e, he, rfl⟩
theorem ofEvent_release {e : Event} {a : Addr} (h : MemAct.ofEvent e = .mark (.release a)) : e.loc = .mark (.release a) := Go.ConcR.loc_of_ofEvent h
theorem deafBehind_still (d : Nat) (h : ∀ e ∈ es, e.loc ≠ .mark .disable ∧ e.loc ≠ .mark .enable) : deafBehind d es = d := by
  have key : ∀ (l : List Event), (∀ e ∈ l, e.loc ≠ .mark .disable ∧ e.loc ≠ .mark .enable) → l.foldl (fun d e => match e.loc with | .mark .disable => d + 1 | .mark .enable => d - 1 | _ => d) d = d := by
    intro l
    induction l with
    | nil => intro _; rfl
    | cons e l ih =>
      intro hl
      rw [List.foldl_cons]
      have he := hl e (by simp)
      have : (match e.loc with | .mark .disable => d + 1 | .mark .enable => d - 1 | _ => d) = d := by
        split
        · rename_i q; exact absurd q he.1
        · rename_i q; exact absurd q he.2
        · rfl
      rw [this]
      exact ih fun x hx => hl x (by simp [hx])
  unfold deafBehind
  rw [← Array.foldl_toList]
  exact key es.toList fun e he => h e (by simpa using he)
theorem evS_still {S F : Nat → Prop} {e : Event} (h : EvS S F e) : (e.loc ≠ .mark .disable ∧ e.loc ≠ .mark .enable) ∧ ∀ a, e.loc ≠ .mark (.release a) := by
  rcases h with ⟨ad, h1, _⟩ | ⟨m, h1, h2⟩ | ⟨r, h1, _⟩
  · rw [h1]; simp
  · rw [h1]; cases m <;> simp [Mark.mute'] at h2 ⊢
  · rw [h1]; simp
theorem wait_keep (h : GWait ty j γ w) (e0 : γ'.ph = γ.ph) (e1 : γ'.tag j = γ.tag j) (hh : ∀ p, γ.ph = some p → w'.heap[p.wg]? = w.heap[p.wg]?) : GWait ty j γ' w' := by
  obtain ⟨p, h1, h2, h3, st, h4⟩ := h
  exact ⟨p, e0.trans h1, h2, e1.trans h3, st, h4.of_block (hh p h1)⟩
theorem offer_chan {cases : Array CommCase} {b : Bool} {c : CommCase} {r : Nat} (h : GOffer j γ cases b) (hc : c ∈ cases) (hr : c.chan = .chan (some r)) : ∃ p, γ.ph = some p ∧ (r = p.jobs ∨ r = p.stop) := by
  obtain ⟨p, hp, h⟩ := h
  refine ⟨p, hp, ?_⟩
  have h1 : ∀ q z, c = rcase q z → r = q := fun q z e => by subst e; simpa [rcase, eq_comm] using hr
  have h2 : ∀ q v z, c = scase q v z → r = q := fun q v z e => by subst e; simpa [scase, eq_comm] using hr
  rcases h with ⟨_, _, _, z, rfl⟩ | ⟨_, _, ⟨_, z, rfl⟩ | ⟨_, _, z, z', rfl⟩⟩
  · simp only [List.mem_toArray, List.mem_singleton] at hc
    exact .inl (h1 _ _ hc)
  · simp only [List.mem_toArray, List.mem_singleton] at hc
    exact .inr (h1 _ _ hc)
  · simp only [List.mem_toArray, List.mem_cons, List.not_mem_nil, or_false] at hc
    rcases hc with hc | hc
    · exact .inl (h2 _ _ _ hc)
    · exact .inr (h1 _ _ hc)
/-- An own step on own blocks. -/
theorem do_own (hI : GInv ty top γ w) (hi : i < γ.cnt) (hns : ¬ (γ.tag i).said) (ho : Own (γ.S i) γ.F w w' es) (wk : Prop) : (crewPact P ty top Post).Do i γ w (γ.grown i w') w' wk es := by
  have ht : γ.tag i ≠ .gone := fun e => hns (by rw [e]; trivial)
  have hlive : γ.wh.live i := ⟨hi, ht⟩
  have hheap : ∀ b, b < γ.hs → (∀ j, γ.bk b ≠ .priv j) → w'.heap[b]? = w.heap[b]? := fun b hb hj => ho.old b (by rw [← hI.hs]; exact hb) fun q => hj i q.2
  refine ⟨?_, fun j hj => rel_grown hI.hs ho hj (fun e => Classical.byContradiction fun q => hj (by
      have h1 : i = 0 := Classical.byContradiction fun hn => ht ((hI.free e).2.1 i hn)
      have h2 : j = 0 := Classical.byContradiction fun hn => q ((hI.free e).2.1 j hn)
      rw [h1, h2])), fun t fn pos hT => ?_, fun j cases c r hj hof hc hr => .inl ?_, .inr fun j hj hw => ?_, rfl, Prod.ext ho.os ho.output⟩
  · refine hI.frame rfl rfl rfl rfl rfl rfl rfl (fun b hb => grown_bk hb) (fun b h1 _ => by simp [Gho.grown, h1]) (fun hp b h1 _ => .inr (by
      have : i = 0 := Classical.byContradiction fun hn => ht ((hI.free hp).2.1 i hn)
      simp [Gho.grown, h1, this])) (fun _ _ => rfl) hheap
  · have hev : ∀ e ∈ es, EvS (grow (γ.S i) w w') γ.F e := ho.ev
    refine GTr.own hT rfl (fun op hop => by obtain ⟨e, _, rfl⟩ := mem_ofEv hop; rfl) (hI.who ht) ((hT.d.low hT.low (fun b hb => grown_bk hb) rfl fun k hk => hk).app hi fun op hop => ?_) (fun _ _ => rfl) ?_ (fun op hop a e => ?_) (fun m a ha => ?_) (fun k _ h1 h2 => ⟨h1, h2⟩) (fun p _ _ h => absurd h hns)
    · obtain ⟨e, he, rfl⟩ := mem_ofEv hop
      exact (ok_event hI.hs hlive (hev e he) ho.size).1
    · rw [Deaf_own, deafBehind_still _ fun e he => (evS_still (hev e he)).1]
      exact hT.deaf i
    · obtain ⟨e', he, rfl⟩ := mem_ofEv hop
      exact (evS_still (hev e' he)).2 a (ofEvent_release e)
    · obtain ⟨x, hx, hxa⟩ := touch_of ha
      rcases getElem?_append_cases hx with ⟨_, hx'⟩ | ⟨_, hop⟩
      · have := hT.low m a (by rw [touchAt_of hx']; exact hxa)
        have h2 := ho.size
        have h3 := hI.hs
        show blk a.loc < w'.heap.size
        omega
      · obtain ⟨e, he, rfl⟩ := mem_ofEv hop
        exact (ok_event (fn := fn) (pos := pos) hI.hs hlive (hev e he) ho.size).2 a hxa
  · obtain ⟨p, hp, hr'⟩ := offer_chan hof hc hr
    have hC := hI.core hp
    obtain ⟨l1, l2, l3, l4⟩ := hC.lts hI.hs
    rcases hr' with e | e
    · rw [e]; exact hheap _ l2 fun j => by rw [hC.bjobs]; simp
    · rw [e]; exact hheap _ l3 fun j => by rw [hC.bstop]; simp
  · exact wait_keep hw rfl rfl fun p hp => by
      have hC := hI.core hp
      obtain ⟨l1, l2, l3, l4⟩ := hC.lts hI.hs
      exact hheap _ l1 fun j => by rw [hC.bwg]; simp
/-- A step that turns nothing and says the library's words of deafness alone. -/
theorem do_mute (hI : GInv ty top γ w) (hi : i < γ.cnt) (hm : ∀ e ∈ es, Event.mute e = true) (hq : es = #[] ∨ (γ.tag i ≠ .idle ∧ γ.tag i ≠ .feed)) (wk : Prop) : (crewPact P ty top Post).Do i γ w (γ.setDeaf i (deafBehind (γ.deaf i) es)) w wk es := by
  have mute : ∀ e ∈ es, e.loc = .mark .disable ∨ e.loc = .mark .enable := fun e he => by
    have := hm e he
    obtain ⟨l, wr, sy⟩ := e
    cases l with
    | mark m => cases m <;> first | exact .inl rfl | exact .inr rfl | (simp [Event.mute] at this)
    | _ => simp [Event.mute] at this
  have hdf : ∀ k, γ.tag k = .idle ∨ γ.tag k = .feed → (γ.setDeaf i (deafBehind (γ.deaf i) es)).deaf k = γ.deaf k := fun k hk => by
    show upd γ.deaf i _ k = _
    by_cases e : k = i
    · subst e
      rw [upd_same]
      rcases hq with q | ⟨q1, q2⟩
      · subst q; rfl
      · rcases hk with q | q
        · exact absurd q q1
        · exact absurd q q2
    · exact upd_ne _ _ e
  refine ⟨hI.frame hI.hs rfl rfl rfl rfl rfl rfl (fun _ _ => rfl) (fun b h1 h2 => absurd h2 (Nat.not_lt.2 h1)) (fun _ b h1 h2 => absurd h2 (Nat.not_lt.2 h1)) hdf fun _ _ _ => rfl, fun j hj => ⟨rfl, upd_ne _ _ hj, fun _ => ⟨Nat.le_refl _, fun _ _ _ => rfl, fun _ h1 h2 => ⟨h1, h2⟩, fun _ _ _ => rfl, rfl, fun _ _ h => h, rfl, fun _ => ⟨rfl, fun _ _ => Nat.le_refl _⟩, fun _ => ⟨rfl, rfl, rfl⟩, Nat.le_refl _⟩⟩, fun t fn pos hT => ?_, fun _ _ _ _ _ _ _ _ => .inl rfl, .inr fun j hj hw => wait_keep hw rfl rfl fun _ _ => rfl, rfl, rfl⟩
  refine hT.hush (i := i) (fun op hop => ?_) hi ?_ rfl fun k hk => upd_ne _ _ hk
  · obtain ⟨e, he, rfl⟩ := mem_ofEv hop
    rcases mute e he with h | h <;> (rw [Go.ConcR.ofEvent_loc_mark h]; exact ⟨rfl, rfl, by simp⟩)
  · rw [Deaf_own, hT.deaf i]
    exact (upd_same _ _ _).symm
theorem setDeaf_self (γ : Gho) (i : Nat) : γ.setDeaf i (γ.deaf i) = γ := by
  have : upd γ.deaf i (γ.deaf i) = γ.deaf := by funext k; by_cases e : k = i <;> simp [upd, e]
  unfold Gho.setDeaf
  rw [this]
/-- An idle step. -/
theorem do_idle (hI : GInv ty top γ w) (hi : i < γ.cnt) (wk : Prop) : (crewPact P ty top Post).Do i γ w γ w wk #[] := by
  have := do_mute (P := P) (Post := Post) (es := #[]) hI hi (by simp) (.inl rfl) wk
  rw [show deafBehind (γ.deaf i) #[] = γ.deaf i from rfl, setDeaf_self] at this
  exact this
theorem leave_law : ∀ i γ w es, GInv ty top γ w → (i ≠ 0 ∧ γ.tag i = .gone) → i < γ.cnt → (∀ e ∈ es, Event.mute e = true) → ∃ γ', (crewPact P ty top Post).Do i γ w γ' w False es ∧ (i ≠ 0 ∧ γ'.tag i = .gone) ∧ γ'.deaf i = deafBehind (γ.deaf i) es :=
  fun i γ _ _ hI hg hi hm => ⟨_, do_mute hI hi hm (.inr (by rw [hg.2]; simp)) False, hg, upd_same _ _ _⟩
end
end Go.Proofs.YtbicafgmfgdckaaDoor
namespace Go.Proofs.YtbicafgmfgdckaaDoor
open Go Go.Conc
open Go.ConcR (KK wgBlock WgAt stA smA)
open Go.ConcN (sumTo upd upd_same upd_ne sumTo_upd sumTo_congr sumTo_upd_out le_sumTo RelBy PermW WgLive)

section
variable {ty : TypeId} {top : Nat} {γ γ' : Gho} {p : Ph} {w w' : World} {i j k n : Nat} {t u : Trace} {P : Program} {Post : Value → World → Prop} {es : Array Event} {tag : Nat → Tag}
theorem vc_set (x : Tag) (h1 : p.b ≤ i) (h2 : i < p.b + p.W) : vcT (upd tag i x) p + (tag i).cw = vcT tag p + x.cw := by
  have := sumTo_upd (fun j => tag (p.b + j)) x Tag.cw (i := i - p.b) (j := p.W) (by omega)
  rw [show p.b + (i - p.b) = i by omega] at this
  unfold vcT
  rw [← this]
  congr 1
  refine sumTo_congr fun a _ => ?_
  congr 1
  by_cases e : p.b + a = i
  · have : a = i - p.b := by omega
    subst this
    rw [e, upd_same, upd_same]
  · rw [upd_ne _ _ e, upd_ne _ _ (by omega)]
theorem vc_out (x : Tag) (h1 : i < p.b) : vcT (upd tag i x) p = vcT tag p := by
  unfold vcT
  exact sumTo_congr fun a _ => by rw [upd_ne _ _ (by omega)]
theorem vc_pos (h1 : 1 ≤ vcT tag p) : ∃ i, p.b ≤ i ∧ i < p.b + p.W ∧ (tag i).cw = 1 := by
  have key : ∀ n, 1 ≤ sumTo n (fun j => (tag (p.b + j)).cw) → ∃ i, p.b ≤ i ∧ i < p.b + n ∧ (tag i).cw = 1 := by
    intro n
    induction n with
    | zero => intro h; simp [sumTo] at h
    | succ n ih =>
      intro h
      simp only [sumTo] at h
      by_cases e : (tag (p.b + n)).cw = 1
      · exact ⟨p.b + n, by omega, by omega, e⟩
      · have : (tag (p.b + n)).cw = 0 := by cases q : tag (p.b + n) <;> rw [q] at e <;> simp [Tag.cw] at e ⊢
        obtain ⟨i, q1, q2, q3⟩ := ih (by omega)
        exact ⟨i, q1, by omega, q3⟩
  exact key p.W h1
theorem Core.cntW (h : Core ty γ p w) : γ.cnt ≤ p.b + p.W := by
  rw [h.cnt]
  unfold Gho.started
  split
  · rename_i j q e
    have := (h.add j q e).1
    omega
  · omega
theorem heap_setChan (w : World) (c cap : Nat) (buf : Array Value) (cl : Bool) (s r : Nat) (tm : Bool) {b : Nat} (h : b ≠ c) : (w.setChan c cap buf cl s r tm).heap[b]? = w.heap[b]? := Array.getElem?_setIfInBounds_ne (Ne.symm h)
theorem heap_setChan_same (w : World) (c cap : Nat) (buf : Array Value) (cl : Bool) (s r : Nat) (tm : Bool) (h : c < w.heap.size) : (w.setChan c cap buf cl s r tm).heap[c]? = some (.chan cap buf cl s r tm) := Array.getElem?_setIfInBounds_self_of_lt h
/-! ### a job passes -/
theorem pass_core (hI : GInv ty top γ w) (hp : γ.ph = some p) (hf : γ.tag p.f = .feed) (hn : γ.next < p.n) (hb : p.b ≤ i) (hi : i < γ.cnt) (ht : γ.tag i = .idle) (s : Nat) : GInv ty top (γ.pass p i) (w.setChan p.jobs 0 #[] false s s false) := by
  have h := hI.core hp
  obtain ⟨l1, l2, l3, l4⟩ := h.lts hI.hs
  have hsz : (w.setChan p.jobs 0 #[] false s s false).heap.size = w.heap.size := by simp [World.setChan]
  have hfi : p.f ≠ i := by have := h.fd; omega
  have hi0 : i ≠ 0 := by have := h.fd; omega
  have hcl : (γ.tag p.f).closed = false := by rw [hf]; rfl
  have hother : ∀ {k : Nat} {x : Tag}, upd γ.tag i (.busy γ.next) k = x → x ≠ .busy γ.next → γ.tag k = x := fun {k x} e hx => by
    by_cases q : k = i
    · subst q; rw [upd_same] at e; exact absurd e.symm hx
    · rwa [upd_ne _ _ q] at e
  refine ⟨by rw [hsz]; exact hI.hs, hI.cnt, ?_, fun k hk => ?_, ?_, hI.top⟩
  · show upd γ.tag i _ 0 ≠ _; rw [upd_ne _ _ (Ne.symm hi0)]; exact hI.main
  · show upd γ.tag i _ k = _; rw [upd_ne _ _ (by have : γ.cnt ≤ k := hk; omega)]; exact hI.un k hk
  show match γ.ph with | none => _ | some p => _
  rw [hp]
  show Core ty (γ.pass p i) p _
  have tf : (γ.pass p i).tag p.f = .feed := (upd_ne _ _ hfi).trans hf
  refine ⟨h.bwg, h.bjobs, h.bstop, h.bout, h.ne, fun b hb e => ?_, h.fd, by rw [tf]; trivial, ?_, (fun j q e => by rw [tf] at e; cases e), fun k h1 h2 => ?_, fun k hk => ?_, fun _ k h1 h2 => ?_, ?_, ⟨s, ?_⟩, ?_, ?_, fun x hx => ?_, ?_, (fun e => by rw [tf] at e; cases e), fun k x e => ?_, fun x hx o ho => ?_, fun o => ?_, fun k hk => ?_, h.mixo, h.small, h.pos⟩
  · rw [heap_setChan _ _ _ _ _ _ _ _ (fun q => by subst q; have e' : γ.bk p.jobs = .fix := e; rw [h.bjobs] at e'; cases e')]; exact h.fix b hb e
  · show γ.cnt = p.b + (γ.pass p i).started p
    have := h.cnt
    unfold Gho.started at this ⊢
    rw [tf]
    rw [hf] at this
    exact this
  · show upd γ.tag i _ k = _; rw [upd_ne _ _ (by omega)]; exact h.rest k h1 h2
  · show (upd γ.tag i _ k).works
    by_cases q : k = i
    · subst q; rw [upd_same]; trivial
    · rw [upd_ne _ _ q]; exact h.wtag k hk
  · show (upd γ.tag i _ k).early
    by_cases q : k = i
    · subst q; rw [upd_same]; trivial
    · rw [upd_ne _ _ q]; exact h.early hcl k h1 h2
  · obtain ⟨st, sm, q1, q2⟩ := h.wgm
    refine ⟨st, sm, q1.of_block (heap_setChan _ _ _ _ _ _ _ _ (Ne.symm h.ne.1)), ?_⟩
    cases q2 with
    | opn q3 q4 =>
      have hv : vcT (upd γ.tag i (.busy γ.next)) p = vcT γ.tag p := by
        have := vc_set (tag := γ.tag) (.busy γ.next) hb (by have := h.cntW; omega)
        rw [ht] at this
        simp only [Tag.cw] at this
        omega
      rw [← hv, show (γ.tag p.f).pend = ((γ.pass p i).tag p.f).pend by rw [tf, hf]]
      refine .opn (by rw [tf]; trivial) fun k hk => ?_
      show ¬ (upd γ.tag i _ k).lasts
      by_cases q : k = i
      · subst q; rw [upd_same]; exact id
      · rw [upd_ne _ _ q]; exact q4 k hk
    | reg q3 => rw [hf] at q3; cases q3
    | last _ _ q3 => rw [hf] at q3; cases q3
    | sema q3 => rw [hf] at q3; cases q3
    | fin q3 => rw [hf] at q3; cases q3
  · rw [heap_setChan_same _ _ _ _ _ _ _ _ (by rw [← hI.hs]; exact l2), tf]; rfl
  · rw [heap_setChan _ _ _ _ _ _ _ _ (Ne.symm h.ne.2.2)]; exact h.stop
  · obtain ⟨cs, q1, q2⟩ := h.out
    exact ⟨cs, by rw [heap_setChan _ _ _ _ _ _ _ _ (fun q => by have := h.bout; rw [q, h.bjobs] at this; cases this)]; exact q1, q2⟩
  · have hx' : x < γ.next + 1 := hx
    by_cases e : x = γ.next
    · exact .inr ⟨i, hb, by show upd γ.tag i _ i = _; rw [upd_same, e]⟩
    · rcases h.job x (by omega) with q | ⟨m, q1, q2⟩
      · exact .inl q
      · refine .inr ⟨m, q1, ?_⟩
        show upd γ.tag i _ m = _
        rw [upd_ne _ _ (fun q => by subst q; rw [ht] at q2; cases q2)]; exact q2
  · show γ.next + 1 ≤ p.n; omega
  · have e' : upd γ.tag i (.busy γ.next) k = .busy x := e
    by_cases q : k = i
    · subst q
      rw [upd_same] at e'
      injection e' with e'
      refine ⟨by show x < γ.next + 1; omega, fun o ho => ?_⟩
      show (if p.out = p.out ∧ (32 * x + o) / 32 = γ.next then some k else _) = _
      rw [if_pos ⟨rfl, by omega⟩]
    · rw [upd_ne _ _ q] at e'
      obtain ⟨h1, h2⟩ := h.busy k x e'
      refine ⟨by show x < γ.next + 1; omega, fun o ho => ?_⟩
      show (if p.out = p.out ∧ (32 * x + o) / 32 = γ.next then some i else _) = _
      rw [if_neg (fun q => by have := q.2; omega)]
      exact h2 o ho
  · have hx' : γ.next + 1 ≤ x := hx
    show (if p.out = p.out ∧ (32 * x + o) / 32 = γ.next then some i else _) = _
    rw [if_neg (fun q => by have := q.2; omega)]
    exact h.mine x (by omega) o ho
  · show (if p.out = p.out ∧ o / 32 = γ.next then some i else _) ≠ _
    split
    · simp
    · exact h.owm o
  · exact h.hear k (hk.imp (fun e => hother e (by simp)) (fun e => hother e (by simp)))
theorem pass_rel (hI : GInv ty top γ w) (hp : γ.ph = some p) (hj : j ≠ p.f) (hji : j ≠ i) (s : Nat) : Rel j γ w (γ.pass p i) (w.setChan p.jobs 0 #[] false s s false) := by
  have h := hI.core hp
  refine ⟨upd_ne _ _ hji, rfl, fun _ => ⟨Nat.le_refl _, fun _ _ _ => rfl, fun _ h1 h2 => ⟨h1, h2⟩, fun b hb e => heap_setChan _ _ _ _ _ _ _ _ fun q => ?_, rfl, fun b o e => ?_, rfl, fun e => ?_, (fun e => by rw [hp] at e; cases e), Nat.le_succ _⟩⟩
  · subst q; rw [h.bjobs] at e; rcases e with e | e <;> cases e
  · show (if b = p.out ∧ o / 32 = γ.next then some i else _) = _
    split
    · rename_i q
      obtain ⟨rfl, q2⟩ := q
      have := h.mine γ.next (Nat.le_refl _) (o % 32) (Nat.mod_lt _ (by omega))
      rw [show 32 * γ.next + o % 32 = o by omega, e] at this
      injection this with this
      exact absurd this hj
    · exact e
  · unfold Gho.fd at e
    rw [hp] at e
    exact absurd e.symm hj
theorem pass_tr (hI : GInv ty top γ w) (hp : γ.ph = some p) (hf : γ.tag p.f = .feed) (hb : p.b ≤ i) (hi : i < γ.cnt) (ht : γ.tag i = .idle) {r s : Nat} {x1 x2 x3 x4 : MemOp} (h1 : x1.g = p.f ∧ x1.act = .send r s) (h2 : x2.g = i ∧ x2.act = .recv r s 0) (h3 : x3.g = p.f ∧ x3.act = .sendDone r s) (h4 : x4.g = i ∧ x4.act = .recvDone r s) (hT : GTr γ t) :
    GTr (γ.pass p i) (t ++ #[x1, x2, x3, x4]) := by
  have h := hI.core hp
  have hfc : p.f < γ.cnt := by have := h.fd; omega
  have hmem : ∀ op ∈ #[x1, x2, x3, x4], op.act.touch? = none ∧ op.g < γ.cnt ∧ (∀ m, op.act ≠ .mark m) := by
    intro op hop
    simp only [List.mem_toArray, List.mem_cons, List.not_mem_nil, or_false] at hop
    rcases hop with rfl | rfl | rfl | rfl
    · exact ⟨by rw [h1.2]; rfl, by rw [h1.1]; exact hfc, fun m => by rw [h1.2]; simp⟩
    · exact ⟨by rw [h2.2]; rfl, by rw [h2.1]; exact hi, fun m => by rw [h2.2]; simp⟩
    · exact ⟨by rw [h3.2]; rfl, by rw [h3.1]; exact hfc, fun m => by rw [h3.2]; simp⟩
    · exact ⟨by rw [h4.2]; rfl, by rw [h4.1]; exact hi, fun m => by rw [h4.2]; simp⟩
  have hs : ∀ op ∈ #[x1, x2, x3, x4], op.act.touch? = none := fun op hop => (hmem op hop).1
  have hkn := (passed_knows h1 h2 h3 h4 (by rw [hT.deaf]; exact h.hear _ (.inr hf)) (by rw [hT.deaf]; exact h.hear _ (.inl ht))).1
  have hD : DTr γ.wh (t ++ #[x1, x2, x3, x4]) γ.cnt := hT.d.silent (Nat.le_refl _) fun op hop => ⟨(hmem op hop).1, (hmem op hop).2.1⟩
  have hm : ∀ l, (γ.pass p i).mixAt l = γ.mixAt l ∨ ((γ.pass p i).mixAt l = some i ∧ ∃ a : Addr, l = .cell a ∧ a.block = p.out ∧ a.off / 32 = γ.next) := fun l => by
    cases l with
    | cell a =>
      simp only [Gho.mixAt, Gho.pass]
      by_cases q : a.block = p.out ∧ a.off / 32 = γ.next
      · rw [if_pos q]; exact .inr ⟨rfl, a, rfl, q.1, q.2⟩
      · rw [if_neg q]; exact .inl rfl
    | _ => exact .inl rfl
  have hlive : ∀ k, (γ.pass p i).wh.live k → γ.wh.live k := fun k hk => ⟨hk.1, fun e => hk.2 (by
    show upd γ.tag i _ k = _
    rw [upd_ne _ _ (fun q => by subst q; rw [ht] at e; cases e)]; exact e)⟩
  have hshsame : ∀ l, (γ.pass p i).wh.sh l → γ.wh.sh l := fun l hl => by
    rcases hl with q | ⟨q1, q2⟩
    · exact .inl q
    · rcases hm l with e | ⟨e, _⟩
      · exact .inr ⟨q1, e ▸ q2⟩
      · rw [e] at q2; cases q2
  have hshsame2 : ∀ l, γ.wh.sh l → (γ.pass p i).wh.sh l := fun l hl => by
    rcases hl with q | ⟨q1, q2⟩
    · exact .inl q
    · rcases hm l with e | ⟨_, a, rfl, e1, e2⟩
      · exact .inr ⟨q1, e.trans q2⟩
      · simp only [Gho.mixAt, e1] at q2; exact absurd q2 (h.owm _)
  refine ⟨hD.anew (fun m op x hm hx hs => .inl ⟨hshsame _ hs, rfl⟩) (fun l hs' hr => ?_) (fun l hs' hr k hk => hD.ro l (fun q => hs' (hshsame2 l q)) hr k (hlive k hk)) fun m a ha hsl => hshsame2 _ hsl, fun k => ?_, hT.nrel.app fun op hop a => (hmem op hop).2.2 _, fun m a ha => hT.low m a (touch_silent hs ha), fun p' hp' k hk hk2 hsd => ?_, fun m hc => ?_⟩
  · by_cases hmix : γ.bk (blk l) = .mix
    · rcases hm l with e | ⟨e, a, rfl, e1, e2⟩
      · have : (γ.pass p i).wh.own l = γ.wh.own l := by simp only [Gho.wh]; rw [show (γ.pass p i).bk = γ.bk from rfl, hmix, e]
        rw [this]
        exact hD.own l (fun q => hs' (hshsame2 l q)) hr
      · have e3 : (γ.pass p i).wh.own (.cell a) = i := by simp only [Gho.wh]; rw [show (γ.pass p i).bk = γ.bk from rfl, hmix, e]; rfl
        have e4 : γ.wh.own (.cell a) = p.f := by
          simp only [Gho.wh]
          rw [hmix]
          have := h.mine γ.next (Nat.le_refl _) (a.off % 32) (Nat.mod_lt _ (by omega))
          rw [show 32 * γ.next + a.off % 32 = a.off by omega] at this
          simp only [Gho.mixAt, e1, this]; rfl
        have := hT.d.own (.cell a) (fun q => hs' (hshsame2 _ q)) hr
        rw [e4] at this
        rw [e3]
        exact Perm.pass this hs hkn
    · have : (γ.pass p i).wh.own l = γ.wh.own l := by
        simp only [Gho.wh]; rw [show (γ.pass p i).bk = γ.bk from rfl]
        split
        · rfl
        · rename_i q; exact absurd q hmix
        · rfl
      rw [this]
      exact hD.own l (fun q => hs' (hshsame2 l q)) hr
  · rw [Go.ConcN.Deaf_still t k _ fun op hop => ⟨(hmem op hop).2.2 _, (hmem op hop).2.2 _⟩]; exact hT.deaf k
  · have hp'' : γ.ph = some p' := hp'
    rw [hp] at hp''
    obtain rfl := Option.some.inj hp''
    have hsd' : (upd γ.tag i (.busy γ.next) k).said := hsd
    exfalso
    by_cases q : k = i
    · subst q; rw [upd_same] at hsd'; exact hsd'
    · rw [upd_ne _ _ q] at hsd'
      have := h.early (by rw [hf]; rfl) k hk hk2
      cases e : γ.tag k <;> rw [e] at this hsd' <;> first | exact this | exact hsd'
  · have hlt : m < t.size := by
      obtain ⟨x, hx, _⟩ := hc
      obtain ⟨_, q, _⟩ := touch_of (touch_silent hs hx)
      exact lt_size_of_getElem? q
    rcases hT.old m ((counts_old hlt).1 hc) with q | ⟨p', q1, k, q2, q3⟩
    · exact .inl (q.app _)
    · exact .inr ⟨p', q1, k, q2, by rw [g?_old hlt]; exact q3⟩
end
end Go.Proofs.YtbicafgmfgdckaaDoor
namespace Go.Proofs.YtbicafgmfgdckaaDoor
open Go Go.Conc
open Go.ConcR (KK wgBlock WgAt stA smA)
open Go.ConcN (sumTo upd upd_same upd_ne RelBy PermW WgLive)

section
variable {ty : TypeId} {top : Nat} {γ γ' : Gho} {p : Ph} {w w' : World} {i j k n : Nat} {t u : Trace} {P : Program} {Post : Value → World → Prop} {es : Array Event} {tag : Nat → Tag}
/-- A worker's tag changes from one that is counted to another; nothing else. -/
theorem retag_core (hI : GInv ty top γ w) (hp : γ.ph = some p) (hb : p.b ≤ i) (hi : i < γ.cnt) {x : Tag} (hx : x.works) (hl : ¬ x.lasts) (hcw : (γ.tag i).cw = 1 ∧ x.cw = 1) (hcl : (γ.tag p.f).closed = true ∨ x.early) (hid : x ≠ .idle ∧ x ≠ .feed) (hbz : (∀ n, x ≠ .busy n)) (hbz2 : ∀ n, γ.tag i ≠ .busy n) (hgone : γ.tag i ≠ .gone) : GInv ty top (γ.setTag i x) w := by
  have h := hI.core hp
  have hfi : p.f ≠ i := by have := h.fd; omega
  have hi0 : i ≠ 0 := by have := h.fd; omega
  have hnl : ¬ (γ.tag i).lasts := fun q => by cases e : γ.tag i <;> rw [e] at q hcw <;> first | exact q | (have := hcw.1; simp [Tag.cw] at this)
  refine ⟨hI.hs, hI.cnt, ?_, fun k hk => ?_, ?_, hI.top⟩
  · show upd γ.tag i _ 0 ≠ _; rw [upd_ne _ _ (Ne.symm hi0)]; exact hI.main
  · show upd γ.tag i _ k = _; rw [upd_ne _ _ (by have : γ.cnt ≤ k := hk; omega)]; exact hI.un k hk
  show match γ.ph with | none => _ | some p => _
  rw [hp]
  show Core ty (γ.setTag i x) p w
  have tf : (γ.setTag i x).tag p.f = γ.tag p.f := upd_ne _ _ hfi
  have hv : vcT (upd γ.tag i x) p = vcT γ.tag p := by
    have := vc_set (tag := γ.tag) x hb (by have := h.cntW; omega)
    omega
  refine ⟨h.bwg, h.bjobs, h.bstop, h.bout, h.ne, h.fix, h.fd, by rw [tf]; exact h.ftag, ?_, fun j q e => by rw [tf] at e; exact h.add j q e, fun k h1 h2 => ?_, fun k hk => ?_, fun hc k h1 h2 => ?_, ?_, by rw [tf]; exact h.jobs, h.stop, h.out, fun y hy => ?_, h.nle, by rw [tf]; exact h.full, fun k y e => ?_, h.mine, h.owm, fun k hk => ?_, h.mixo, h.small, h.pos⟩
  · show γ.cnt = p.b + (γ.setTag i x).started p
    have := h.cnt
    unfold Gho.started at this ⊢
    rw [tf]
    exact this
  · show upd γ.tag i _ k = _; rw [upd_ne _ _ (by omega)]; exact h.rest k h1 h2
  · show (upd γ.tag i _ k).works
    by_cases q : k = i
    · subst q; rw [upd_same]; exact hx
    · rw [upd_ne _ _ q]; exact h.wtag k hk
  · rw [tf] at hc
    show (upd γ.tag i _ k).early
    by_cases q : k = i
    · subst q; rw [upd_same]; exact hcl.resolve_left (by rw [hc]; simp)
    · rw [upd_ne _ _ q]; exact h.early hc k h1 h2
  · obtain ⟨st, sm, q1, q2⟩ := h.wgm
    refine ⟨st, sm, q1, ?_⟩
    have hlast : ∀ k, p.b ≤ k → ¬ (γ.tag k).lasts → ¬ (upd γ.tag i x k).lasts := fun k _ hk => by
      by_cases q : k = i
      · subst q; rw [upd_same]; exact hl
      · rw [upd_ne _ _ q]; exact hk
    cases q2 with
    | opn q3 q4 =>
      rw [← hv, show (γ.tag p.f).pend = ((γ.setTag i x).tag p.f).pend by rw [tf]]
      exact .opn (by rw [tf]; exact q3) fun k hk => hlast k hk (q4 k hk)
    | reg q3 q4 q5 =>
      rw [← hv]
      exact .reg (by rw [tf]; exact q3) (fun k hk => hlast k hk (q4 k hk)) (by show 1 ≤ vcT (upd γ.tag i x) p; rw [hv]; exact q5)
    | last L k q3 q4 q5 q6 =>
      exfalso
      by_cases e : i = L
      · subst e; rw [q5] at hnl; exact hnl trivial
      · exact hgone (q6 i hb e)
    | sema q3 q4 => exact absurd (q4 i hb) hgone
    | fin q3 q4 => exact absurd (q4 i hb) hgone
  · rcases h.job y hy with q | ⟨m, q1, q2⟩
    · exact .inl q
    · refine .inr ⟨m, q1, ?_⟩
      show upd γ.tag i _ m = _
      rw [upd_ne _ _ (fun q => by subst q; exact hbz2 y q2)]; exact q2
  · have e' : upd γ.tag i x k = .busy y := e
    by_cases q : k = i
    · subst q; rw [upd_same] at e'; exact absurd e' (hbz y)
    · rw [upd_ne _ _ q] at e'; exact h.busy k y e'
  · refine h.hear k (hk.imp (fun e => ?_) fun e => ?_) <;>
      (have e' : upd γ.tag i x k = _ := e
       by_cases q : k = i
       · subst q; rw [upd_same] at e'; first | exact absurd e' hid.1 | exact absurd e' hid.2
       · rwa [upd_ne _ _ q] at e')
theorem retag_rel {x : Tag} (hji : j ≠ i) (hv : ∀ p, γ.ph = some p → vcT (upd γ.tag i x) p ≤ vcT γ.tag p) : Rel j γ w (γ.setTag i x) w :=
  ⟨upd_ne _ _ hji, rfl, fun _ => ⟨Nat.le_refl _, fun _ _ _ => rfl, fun _ h1 h2 => ⟨h1, h2⟩, fun _ _ _ => rfl, rfl, fun _ _ h => h, rfl, fun _ => ⟨rfl, hv⟩, fun _ => ⟨rfl, rfl, rfl⟩, Nat.le_refl _⟩⟩
/-- The trace under another tag. -/
theorem GTr.retag {x : Tag} (h : GTr γ t) (hl : ∀ k, (γ.setTag i x).wh.live k → γ.wh.live k) (hr : ∀ p, γ.ph = some p → p.b ≤ i → i < γ.cnt → x.said → ∃ r, RelBy (stA p.wg) t i r) : GTr (γ.setTag i x) t := by
  refine ⟨h.d.low h.low (fun _ _ => rfl) rfl hl, h.deaf, h.nrel, h.low, fun p hp k hk hk2 hs => ?_, h.old⟩
  have hs' : (upd γ.tag i x k).said := hs
  by_cases q : k = i
  · subst q; rw [upd_same] at hs'; exact hr p hp hk hk2 hs'
  · rw [upd_ne _ _ q] at hs'; exact h.rel p hp k hk hk2 hs'
theorem one_op {y : MemOp} {op : MemOp} (h : op ∈ #[y]) : op = y := by simpa using h
theorem crew_shut : ∀ i γ w cs b (k : Nat) c r s rc, GInv ty top γ w → i < γ.cnt → GOffer i γ cs b → cs[k]? = some c → c.send = none → c.chan = .chan (some r) → w.heap[r]? = some (Obj.chan 0 #[] true s rc false) →
    ∃ γ', GInv ty top γ' w ∧ GResult i γ w b k c.zero false γ' w ∧ (∀ j, j ≠ i → Rel j γ w γ' w ∧ (GWait ty j γ w → GWait ty j γ' w)) ∧ γ'.cnt = γ.cnt ∧ ∀ t x, x.g = i ∧ x.act = .recvClosed r → GTr γ t → GTr γ' (t ++ #[x]) := by
  intro i γ w cs b k c r s rc hI hi hof hk hs hr hc
  obtain ⟨p, hp, hof⟩ := hof
  have h := hI.core hp
  have hnostop : r ≠ p.stop := fun e => by rw [e, h.stop] at hc; cases hc
  rcases hof with ⟨hb, ht, _, z, rfl⟩ | ⟨_, _, ⟨_, z, rfl⟩ | ⟨_, _, z, z', rfl⟩⟩
  · have ek : c = rcase p.jobs z := by
      cases k with
      | zero => simpa using hk.symm
      | succ k => simp at hk
    subst ek
    have er : r = p.jobs := by simpa [rcase, eq_comm] using hr
    subst er
    have hcl : (γ.tag p.f).closed = true := by
      obtain ⟨s', q⟩ := h.jobs
      rw [q] at hc
      injection hc with hc
      injection hc
    refine ⟨γ.setTag i .out, retag_core hI hp hb hi trivial id (by rw [ht]; exact ⟨rfl, rfl⟩) (.inl hcl) (by simp) (by simp) (by rw [ht]; simp) (by rw [ht]; simp), ⟨p, hp, .inr (.inl ⟨hb, ht, rfl, rfl, rfl⟩)⟩, fun j hj => ⟨retag_rel hj fun p' hp' => ?_, fun hw => wait_keep hw rfl (upd_ne _ _ hj) fun _ _ => rfl⟩, rfl, fun t x hx hT => ?_⟩
    · rw [hp] at hp'
      obtain rfl := Option.some.inj hp'
      have := vc_set (tag := γ.tag) .out hb (by have := h.cntW; omega)
      rw [ht] at this
      simp only [Tag.cw] at this
      omega
    · have h1 : GTr γ (t ++ #[x]) := hT.hush (i := i) (fun op hop => by rw [one_op hop]; exact ⟨hx.1, by rw [hx.2]; rfl, by rw [hx.2]; simp⟩) hi (by
        rw [Go.ConcN.Deaf_still t i _ fun op hop => by rw [one_op hop, hx.2]; simp]; exact hT.deaf i) rfl fun _ _ => rfl
      exact h1.retag (fun k hk => ⟨hk.1, fun e => hk.2 (by
        show upd γ.tag i _ k = _
        rw [upd_ne _ _ (fun q => by subst q; rw [ht] at e; cases e)]; exact e)⟩) fun _ _ _ _ q => q.elim
  · exfalso
    have ek : c = rcase p.stop z := by
      cases k with
      | zero => simpa using hk.symm
      | succ k => simp at hk
    subst ek
    exact hnostop (by simpa [rcase, eq_comm] using hr)
  · exfalso
    have ek : c = scase p.jobs (.int .i64 γ.next) z ∨ c = rcase p.stop z' := by
      match k, hk with
      | 0, hk => exact .inl (by simpa using hk.symm)
      | 1, hk => exact .inr (by simpa using hk.symm)
      | k + 2, hk => simp at hk
    rcases ek with rfl | rfl
    · simp [scase] at hs
    · exact hnostop (by simpa [rcase, eq_comm] using hr)
theorem crew_none : ∀ i γ w cs, GInv ty top γ w → i < γ.cnt → GOffer i γ cs false → ∃ γ', GInv ty top γ' w ∧ GResult i γ w false (-1) undef false γ' w ∧ (∀ j, j ≠ i → Rel j γ w γ' w ∧ (GWait ty j γ w → GWait ty j γ' w)) ∧ γ'.cnt = γ.cnt ∧ ∀ t, GTr γ t → GTr γ' t := by
  rintro i γ w cs hI hi ⟨p, hp, h⟩
  rcases h with ⟨_, _, h, _⟩ | ⟨h1, h2, _⟩
  · cases h
  · exact ⟨γ, hI, ⟨p, hp, .inr (.inr (.inl ⟨h1, h2, rfl, rfl, rfl, rfl, rfl, rfl⟩))⟩, fun j _ => ⟨.refl _ _ _, id⟩, rfl, fun t h => h⟩
theorem crew_made : ∀ i γ w cases b, GInv ty top γ w → GOffer i γ cases b → Open w cases := by
  rintro i γ w cases b hI ⟨p, hp, hof⟩
  have h := hI.core hp
  obtain ⟨s, hj⟩ := h.jobs
  intro c hc
  rcases hof with ⟨hb, ht, _, z, rfl⟩ | ⟨ef, hf, ⟨_, z, rfl⟩ | ⟨_, _, z, z', rfl⟩⟩
  · obtain rfl : c = rcase p.jobs z := by simpa using hc
    exact ⟨p.jobs, s, s, _, rfl, hj, by simp [rcase]⟩
  · obtain rfl : c = rcase p.stop z := by simpa using hc
    exact ⟨p.stop, 0, 0, _, rfl, h.stop, by simp [rcase]⟩
  · simp only [List.mem_toArray, List.mem_cons, List.not_mem_nil, or_false] at hc
    rcases hc with rfl | rfl
    · exact ⟨p.jobs, s, s, _, rfl, hj, fun _ => by rw [← ef, hf]; rfl⟩
    · exact ⟨p.stop, 0, 0, _, rfl, h.stop, by simp [rcase]⟩
theorem crew_meet : ∀ i h γ w cs cs' b b' (k k' : Nat) c c' v r s rc, GInv ty top γ w → i ≠ h → i < γ.cnt → h < γ.cnt → GOffer i γ cs b → GOffer h γ cs' b' → cs[k]? = some c → cs'[k']? = some c' → c.send = some v → c'.send = none → c.chan = .chan (some r) → c'.chan = .chan (some r) → w.heap[r]? = some (Obj.chan 0 #[] false s rc false) →
    ∃ γ', GInv ty top γ' (w.setChan r 0 #[] false (s + 1) (rc + 1) false) ∧ GResult i γ w b k undef false γ' (w.setChan r 0 #[] false (s + 1) (rc + 1) false) ∧ GResult h γ w b' k' v true γ' (w.setChan r 0 #[] false (s + 1) (rc + 1) false) ∧
      (∀ j, j ≠ i → j ≠ h → Rel j γ w γ' (w.setChan r 0 #[] false (s + 1) (rc + 1) false) ∧ (GWait ty j γ w → GWait ty j γ' (w.setChan r 0 #[] false (s + 1) (rc + 1) false))) ∧ γ'.cnt = γ.cnt ∧
      ∀ t x1 x2 x3 x4, x1.g = i ∧ x1.act = .send r s → x2.g = h ∧ x2.act = .recv r rc 0 → x3.g = i ∧ x3.act = .sendDone r s → x4.g = h ∧ x4.act = .recvDone r rc → GTr γ t → GTr γ' (t ++ #[x1, x2, x3, x4]) := by
  intro i h γ w cs cs' b b' k k' c c' v r s rc hI hih hi hh ho1 ho2 hk hk' hs hs' hr hr' hc
  obtain ⟨p, hp, ho1⟩ := ho1
  obtain ⟨p', hp', ho2⟩ := ho2
  rw [hp] at hp'
  obtain rfl := Option.some.inj hp'
  have hC := hI.core hp
  obtain ⟨l1, l2, l3, l4⟩ := hC.lts hI.hs
  -- who sends is the feeder
  have hsend : i = p.f ∧ γ.tag i = .feed ∧ γ.next < p.n ∧ b = true ∧ k = 0 ∧ v = .int .i64 γ.next ∧ r = p.jobs := by
    rcases ho1 with ⟨_, _, _, z, rfl⟩ | ⟨e1, e2, ⟨_, z, rfl⟩ | ⟨hbt, hn, z, z', rfl⟩⟩
    · exfalso
      match k, hk with
      | 0, hk => obtain rfl : c = rcase p.jobs z := by simpa using hk.symm
                 simp [rcase] at hs
      | k + 1, hk => simp at hk
    · exfalso
      match k, hk with
      | 0, hk => obtain rfl : c = rcase p.stop z := by simpa using hk.symm
                 simp [rcase] at hs
      | k + 1, hk => simp at hk
    · match k, hk with
      | 0, hk => obtain rfl : c = scase p.jobs (.int .i64 γ.next) z := by simpa using hk.symm
                 exact ⟨e1, e2, hn, hbt, rfl, by simpa [scase, eq_comm] using hs, by simpa [scase, eq_comm] using hr⟩
      | 1, hk => obtain rfl : c = rcase p.stop z' := by simpa using hk.symm
                 simp [rcase] at hs
      | k + 2, hk => simp at hk
  obtain ⟨rfl, hf, hn, rfl, rfl, rfl, rfl⟩ := hsend
  have hrecv : p.b ≤ h ∧ γ.tag h = .idle := by
    rcases ho2 with ⟨e1, e2, _⟩ | ⟨e1, _⟩
    · exact ⟨e1, e2⟩
    · exact absurd e1.symm hih
  obtain ⟨hb, ht⟩ := hrecv
  obtain ⟨s0, hj⟩ := hC.jobs
  rw [hj] at hc
  injection hc with hc
  injection hc with _ _ _ e1 e2
  subst e1 e2
  refine ⟨γ.pass p h, pass_core hI hp hf hn hb hh ht _, ⟨p, hp, .inr (.inr (.inr ⟨rfl, hf, rfl, rfl, rfl, rfl, h, _, hb, ht, rfl, rfl⟩))⟩, ⟨p, hp, .inl ⟨hb, ht, rfl, rfl, rfl, hn, _, rfl⟩⟩, fun j hj1 hj2 => ⟨pass_rel hI hp hj1 hj2 _, fun hw => wait_keep hw rfl (upd_ne _ _ hj2) fun p' hp' => ?_⟩, rfl, fun t x1 x2 x3 x4 h1 h2 h3 h4 hT => pass_tr hI hp hf hb hh ht h1 h2 h3 h4 hT⟩
  rw [hp] at hp'
  obtain rfl := Option.some.inj hp'
  exact heap_setChan _ _ _ _ _ _ _ _ (Ne.symm hC.ne.1)
theorem crew_live : ∀ γ w (S : Nat → Option (Array CommCase)), GInv ty top γ w → (∀ i, i < γ.cnt → match S i with
      | .none => (i ≠ 0 ∧ γ.tag i = .gone) ∨ GWait ty i γ w
      | .some cs => GOffer i γ cs true ∧ ∀ c ∈ cs, ∀ r, c.chan = .chan (some r) → (∀ cap buf s rc tm, w.heap[r]? ≠ some (Obj.chan cap buf true s rc tm)) ∧ ∀ j cs', j ≠ i → j < γ.cnt → S j = some cs' → ∀ c' ∈ cs', c'.chan = .chan (some r) → c'.send.isSome = c.send.isSome) → False := by
  intro γ w S hI hS
  cases hp : γ.ph with
  | none =>
    have h0 := hS 0 hI.cnt
    cases e : S 0 with
    | none =>
      rw [e] at h0
      rcases h0 with ⟨h0, _⟩ | ⟨p, h0, _⟩
      · exact h0 rfl
      · rw [hp] at h0; cases h0
    | some cs =>
      rw [e] at h0
      obtain ⟨⟨p, h0, _⟩, _⟩ := h0
      rw [hp] at h0; cases h0
  | some p =>
    have h := hI.core hp
    have hfc : p.f < γ.cnt := by have := h.fd; have := h.cnt; omega
    -- no worker that is counted, or the last, can wait
    have hwk : ∀ i, p.b ≤ i → i < γ.cnt → γ.tag i ≠ .gone → ∃ cs z, S i = some cs ∧ γ.tag i = .idle ∧ cs = #[rcase p.jobs z] := by
      intro i hb hi hg
      have hi' := hS i hi
      cases e : S i with
      | none =>
        rw [e] at hi'
        rcases hi' with ⟨_, q⟩ | ⟨p', q1, q2, _⟩
        · exact absurd q hg
        · rw [hp] at q1; obtain rfl := Option.some.inj q1; have := h.fd; omega
      | some cs =>
        rw [e] at hi'
        obtain ⟨⟨p', q1, q⟩, _⟩ := hi'
        rw [hp] at q1
        obtain rfl := Option.some.inj q1
        rcases q with ⟨_, q2, _, z, q3⟩ | ⟨q2, _⟩
        · exact ⟨cs, z, rfl, q2, q3⟩
        · have := h.fd; omega
    have hclosed : (γ.tag p.f).closed = true → ∀ i, p.b ≤ i → i < γ.cnt → γ.tag i = .gone := by
      intro hcl i hb hi
      refine Classical.byContradiction fun hg => ?_
      obtain ⟨cs, z, e, _, rfl⟩ := hwk i hb hi hg
      have hi' := hS i hi
      rw [e] at hi'
      obtain ⟨s, hj⟩ := h.jobs
      rw [hcl] at hj
      exact (hi'.2 (rcase p.jobs z) (by simp) p.jobs rfl).1 _ _ _ _ _ hj
    have hf := hS p.f hfc
    cases e : S p.f with
    | none =>
      rw [e] at hf
      rcases hf with ⟨_, q⟩ | ⟨p', q1, _, q3, st, q4⟩
      · have := h.ftag; rw [q] at this; exact this
      · rw [hp] at q1
        obtain rfl := Option.some.inj q1
        have hall := hclosed (by rw [q3]; rfl)
        have hall' : ∀ i, p.b ≤ i → γ.tag i = .gone := fun i hb => by
          by_cases hi : i < γ.cnt
          · exact hall i hb hi
          · exact hI.un i (by omega)
        obtain ⟨st', sm, m1, m2⟩ := h.wgm
        obtain ⟨e1, e2⟩ := Go.ConcR.WgAt.unique q4 m1
        cases m2 with
        | opn q => rw [q3] at q; exact q
        | reg _ _ q =>
          obtain ⟨i, hb, _, q⟩ := vc_pos q
          rw [hall' i hb] at q
          simp [Tag.cw] at q
        | last L k _ q5 q6 _ => rw [hall' L q5] at q6; cases q6
        | sema => cases e2
        | fin q => rw [q3] at q; cases q
    | some cs =>
      rw [e] at hf
      obtain ⟨⟨p', q1, q⟩, hf⟩ := hf
      rw [hp] at q1
      obtain rfl := Option.some.inj q1
      rcases q with ⟨q, _⟩ | ⟨_, q2, ⟨q3, _⟩ | ⟨_, q4, z, z', rfl⟩⟩
      · have := h.fd; omega
      · cases q3
      · have hst : γ.cnt = p.b + p.W := by have := h.cnt; unfold Gho.started at this; rw [q2] at this; exact this
        have hbc : p.b < γ.cnt := by have := h.pos; omega
        have he := h.early (by rw [q2]; rfl) p.b (Nat.le_refl _) hbc
        obtain ⟨cs', z2, e2, _, rfl⟩ := hwk p.b (Nat.le_refl _) hbc (fun q => by rw [q] at he; exact he)
        have := (hf (scase p.jobs (.int .i64 γ.next) z) (by simp) p.jobs rfl).2 p.b _ (by have := h.fd; omega) hbc e2 (rcase p.jobs z2) (by simp) rfl
        simp [rcase, scase] at this
theorem crew_ok (P : Program) (ty : TypeId) (top : Nat) (Post : Value → World → Prop) : (crewPact P ty top Post).Ok where
  refl := Rel.refl
  trans := fun _ _ _ _ _ _ _ h h' => h.trans h'
  draw := Rel.at
  draw_inv := fun _ _ d h => h.at d
  draw_wait := fun _ _ _ _ h => wait_keep h rfl rfl fun _ _ => rfl
  gone_keep := fun _ _ _ _ _ h g => ⟨g.1, h.tag.trans g.2⟩
  gone_main := fun _ g => g.1 rfl
  deaf_keep := fun _ _ _ _ _ h => h.deaf
  tr_deaf := fun _ _ i h _ => h.deaf i
  leave := leave_law
  made := crew_made
  meet := crew_meet
  shut := crew_shut
  none := crew_none
  live := crew_live
end
end Go.Proofs.YtbicafgmfgdckaaDoor
