/- The crew's pact: the group's steps. For any program. The crew's pact: the feeder's other steps. For any program. The crew's pact: a worker's steps. For any program. The crew's pact: a place is filled; a worker is started; a phase begins, and is over. For any program. The crew's pact: a phase begins, and is over; a block that will be shared is made. For any program. The crew's pact: a phase is over. For any program. -/
import Derived.Test.YtbicafgmfgdckaaDoorMgPcA
import Derived.Test.YtbicafgmfgdckaaDoorMgCrB
import Derived.Test.YtbicafgmfgdckaaDoorMgCrA
namespace Go.Proofs.YtbicafgmfgdckaaDoor
open Go Go.Conc
open Go.ConcR (KK wgBlock WgAt stA smA rd wr mk)
open Go.ConcN (sumTo upd upd_same upd_ne RelBy PermW WgLive)

section
variable {ty : TypeId} {top : Nat} {γ γ' : Gho} {p : Ph} {w w' : World} {i j k n : Nat} {t u : Trace} {P : Program} {Post : Value → World → Prop} {es : Array Event} {tag : Nat → Tag} {x : Tag}
/-- An entry of a step that touches shared cells alone. -/
def ShEv (γ : Gho) (i : Nat) (e : Event) : Prop :=
  (∃ a wr, e = ⟨.cell a, wr, true⟩ ∧ a.block < γ.hs ∧ ((∃ s, γ.bk a.block = .shd s) ∨ (γ.bk a.block = .mix ∧ γ.ow a.block a.off = none))) ∨ ((∀ x, (MemAct.ofEvent e).touch? = some x → x.kind = .atomic ∧ blk x.loc < γ.hs ∧ ∃ s, γ.bk (blk x.loc) = .shd s) ∧ ∀ a, MemAct.ofEvent e ≠ .mark (.release a)) ∨ (∃ m a, e.loc = .mark m ∧ (m = .read a ∨ m = .write a) ∧ a.block < γ.hs ∧ γ.bk a.block = .shd i)
theorem ev_word {i : Nat} {m : Mark} (h : m = .disable ∨ m = .enable ∨ (∃ a, m = .releaseMerge a) ∨ ∃ a, m = .acquire a) : ShEv γ i ⟨.mark m, false, true⟩ := by
  refine .inr (.inl ?_)
  rw [Go.ConcR.ofEvent_loc_mark (e := ⟨.mark m, false, true⟩) rfl]
  rcases h with rfl | rfl | ⟨a, rfl⟩ | ⟨a, rfl⟩ <;> exact ⟨(fun x hx => by cases hx), by simp⟩
theorem shEv_ok {fn : FuncId} {pos : String} {e : Event} (h : ShEv γ i e) (hw : γ'.wh.sh = γ.wh.sh) (hs : γ'.wh.say = γ.wh.say) : OkT γ'.wh i { g := i, fn, pos, act := .ofEvent e } ∧ (∀ x, (MemAct.ofEvent e).touch? = some x → blk x.loc < γ.hs) ∧ ∀ a, MemAct.ofEvent e ≠ .mark (.release a) := by
  rcases h with ⟨a, wr, rfl, h1, h2⟩ | ⟨e2, e3⟩ | ⟨m, a, hm, h, h1, h2⟩
  · have e1 : ∀ x, (MemAct.ofEvent ⟨.cell a, wr, true⟩).touch? = some x → x = ⟨.cell a, wr, .atomic⟩ := fun x hx => by
      rw [Go.ConcR.ofEvent_cell] at hx
      simpa [MemAct.touch?, eq_comm] using hx
    refine ⟨⟨rfl, fun x hx => ?_⟩, fun x hx => ?_, fun b => by rw [Go.ConcR.ofEvent_cell]; simp⟩
    · obtain rfl := e1 x hx
      exact .inl ⟨by rw [hw]; exact h2, by simp, by simp⟩
    · obtain rfl := e1 x hx
      exact h1
  · exact ⟨⟨rfl, fun x hx => .inl ⟨by rw [hw]; exact .inl (e2 x hx).2.2, by rw [(e2 x hx).1]; simp, fun q => by rw [(e2 x hx).1] at q; cases q⟩⟩, fun x hx => (e2 x hx).2.1, e3⟩
  · have e1 : MemAct.ofEvent e = .mark m := Go.ConcR.ofEvent_loc_mark hm
    rw [e1]
    have e2 : ∀ x, (MemAct.mark m).touch? = some x → x.loc = .cell a ∧ x.kind = .said := fun x hx => by
      rcases h with rfl | rfl <;> (simp only [MemAct.touch?, Option.some.injEq] at hx; subst hx; exact ⟨rfl, rfl⟩)
    refine ⟨⟨rfl, fun x hx => ?_⟩, fun x hx => ?_, fun b => by rcases h with rfl | rfl <;> simp⟩
    · obtain ⟨q1, q2⟩ := e2 x hx
      refine .inl ⟨by rw [hw, q1]; exact .inl ⟨i, h2⟩, by rw [q2]; simp, fun _ => ?_⟩
      rw [hs, q1]
      simp only [Gho.wh, blk, h2]
    · rw [(e2 x hx).1]; exact h1
theorem GTr.cells (hT : GTr γ t) (hi : i < γ.cnt) (hwho : i = γ.fd ∨ ∃ p, γ.ph = some p ∧ p.b ≤ i) (hes : ∀ e ∈ es, ShEv γ i e) (e1 : γ'.bk = γ.bk) (e2 : γ'.ow = γ.ow) (e3 : γ'.hs = γ.hs) (e4 : γ'.cnt = γ.cnt) (e5 : γ'.ph = γ.ph) (e6 : ∀ k, k ≠ i → γ'.tag k = γ.tag k) (e7 : ∀ k, k ≠ i → γ'.deaf k = γ.deaf k)
    (e8 : γ'.deaf i = deafBehind (γ.deaf i) es) (hl : γ'.tag i ≠ .gone → γ.tag i ≠ .gone) {fn : FuncId} {pos : String}
    (hreli : ∀ p, γ.ph = some p → p.b ≤ i → (γ'.tag i).said → ∃ r, RelBy (stA p.wg) (t ++ MemOp.ofEvents i fn pos es) i r) : GTr γ' (t ++ MemOp.ofEvents i fn pos es) := by
  have hm : γ'.mixAt = γ.mixAt := by funext l; cases l <;> simp [Gho.mixAt, e2]
  have w1 : γ'.wh.sh = γ.wh.sh := by simp only [Gho.wh, e1, hm]
  have w2 : γ'.wh.say = γ.wh.say := by simp only [Gho.wh, e1]
  refine GTr.own hT e5 (fun op hop => by obtain ⟨e, _, rfl⟩ := mem_ofEv hop; rfl) hwho ?_ e7 ?_ (fun op hop a => ?_) (fun m a ha => ?_) (fun k hk h1 h2 => ?_) hreli
  · rw [e4]
    refine (hT.d.low hT.low (fun b _ => by rw [e1]) e2 fun k hk => ⟨by have := hk.1; rwa [e4] at this, fun q => ?_⟩).app hi fun op hop => ?_
    · by_cases ek : k = i
      · subst ek; exact hl hk.2 q
      · exact hk.2 (by rw [e6 k ek]; exact q)
    · obtain ⟨e, he, rfl⟩ := mem_ofEv hop
      exact (shEv_ok (hes e he) w1 w2).1
  · rw [Deaf_own, hT.deaf i, e8]
  · obtain ⟨e, he, rfl⟩ := mem_ofEv hop
    exact (shEv_ok (fn := fn) (pos := pos) (hes e he) w1 w2).2.2 a
  · rw [e3]
    obtain ⟨y, hy, hya⟩ := touch_of ha
    rcases getElem?_append_cases hy with ⟨_, hy'⟩ | ⟨_, hop⟩
    · exact hT.low m a (by rw [touchAt_of hy']; exact hya)
    · obtain ⟨e, he, rfl⟩ := mem_ofEv hop
      exact (shEv_ok (fn := fn) (pos := pos) (hes e he) w1 w2).2.1 a hya
  · rw [e4] at h1; rw [e6 k hk] at h2; exact ⟨h1, h2⟩
theorem heap_cell_ne (w : World) (a : Addr) (v : Value) {b : Nat} (h : b ≠ a.block) : (w.setCell a v).heap[b]? = w.heap[b]? := by rw [heap_setCell, if_neg h]
theorem size_cell (w : World) (a : Addr) (v : Value) : (w.setCell a v).heap.size = w.heap.size := by simp [World.setCell]
/-- The feeder's tag changes. -/
theorem Core.refeed (h : Core ty γ p w) (hx : x.feeds) (hst : (γ.setTag p.f x).started p = γ.started p) (hadd : ∀ j q, x = .add j q → j ≤ p.W ∧ (q = 0 ∨ (q = 1 ∧ j < p.W)) ∧ γ.next = 0) (hcl : x.closed = (γ.tag p.f).closed)
    (hwg : ∃ st sm, WgAt ty p.wg w' st sm ∧ WMode (upd γ.tag p.f x) p st sm) (hh : ∀ b, b ≠ p.wg → w'.heap[b]? = w.heap[b]?) (hx2 : x = .feed → γ.deaf p.f = 0) : Core ty (γ.setTag p.f x) p w' := by
  have tf : (γ.setTag p.f x).tag p.f = x := upd_same _ _ _
  have tn : ∀ k, k ≠ p.f → (γ.setTag p.f x).tag k = γ.tag k := fun k hk => upd_ne _ _ hk
  have tw : ∀ k, p.b ≤ k → (γ.setTag p.f x).tag k = γ.tag k := fun k hk => tn k (by have := h.fd; omega)
  refine ⟨h.bwg, h.bjobs, h.bstop, h.bout, h.ne, fun b hb e => ?_, h.fd, by rw [tf]; exact hx, by rw [hst]; exact h.cnt, fun j q e => hadd j q (tf.symm.trans e), fun k h1 h2 => (tn k h1).trans (h.rest k h1 h2), fun k hk => by rw [tw k hk]; exact h.wtag k hk, fun hc k h1 h2 => ?_, hwg, ?_, (hh _ h.ne.2.1).trans h.stop, ?_, fun y hy => ?_, h.nle, fun hc => h.full (by rw [← hcl, ← tf]; exact hc), fun k y e => ?_, h.mine, h.owm, fun k hk => ?_, h.mixo, h.small, h.pos⟩
  · rw [hh b (fun q => by have e' : γ.bk b = .fix := e; rw [q, h.bwg] at e'; cases e')]; exact h.fix b hb e
  · rw [tw k h1]; exact h.early (by rw [← hcl, ← tf]; exact hc) k h1 h2
  · obtain ⟨s, q⟩ := h.jobs
    exact ⟨s, by rw [hh _ h.ne.1, tf, hcl]; exact q⟩
  · obtain ⟨cs, q, q2⟩ := h.out
    exact ⟨cs, by rw [hh _ (fun e => by have := h.bout; rw [e, h.bwg] at this; cases this)]; exact q, q2⟩
  · rcases h.job y hy with q | ⟨m, q1, q2⟩
    · exact .inl q
    · exact .inr ⟨m, q1, (tw m q1).trans q2⟩
  · by_cases q : k = p.f
    · rw [q, tf] at e; rw [e] at hx; exact hx.elim
    · rw [tn k q] at e; exact h.busy k y e
  · by_cases q : k = p.f
    · subst q
      rw [tf] at hk
      rcases hk with e | e
      · rw [e] at hx; exact hx.elim
      · exact hx2 e
    · rw [tn k q] at hk; exact h.hear k hk
theorem GInv.refeed (hI : GInv ty top γ w) (hp : γ.ph = some p) (h : Core ty (γ.setTag p.f x) p w') (hx : x.feeds) (hs : w'.heap.size = w.heap.size) : GInv ty top (γ.setTag p.f x) w' := by
  have hC := hI.core hp
  have hfc : p.f < γ.cnt := by have := hC.fd; have := hC.cnt; omega
  refine ⟨by rw [hs]; exact hI.hs, hI.cnt, ?_, fun k hk => ?_, ?_, hI.top⟩
  · show upd γ.tag p.f x 0 ≠ _
    by_cases e : 0 = p.f
    · rw [← e, upd_same]; intro q; rw [q] at hx; exact hx
    · rw [upd_ne _ _ e]; exact hI.main
  · show upd γ.tag p.f x k = _
    have : γ.cnt ≤ k := hk
    rw [upd_ne _ _ (by omega)]; exact hI.un k hk
  · show match γ.ph with | none => _ | some p => _
    rw [hp]; exact h
theorem rel_wg (hI : GInv ty top γ w) (hp : γ.ph = some p) (e1 : γ'.bk = γ.bk) (e2 : γ'.ow = γ.ow) (e3 : γ'.hs = γ.hs) (e5 : γ'.ph = γ.ph) (e4 : γ'.next = γ.next) (e6 : γ'.tag j = γ.tag j) (e7 : γ'.deaf j = γ.deaf j) (hv : p.f = j → vcT γ'.tag p ≤ vcT γ.tag p) (ht : w'.tape = w.tape) (hh : ∀ b, b ≠ p.wg → w'.heap[b]? = w.heap[b]?) : Rel j γ w γ' w' := by
  have hC := hI.core hp
  refine ⟨e6, e7, fun _ => ⟨by rw [e3]; exact Nat.le_refl _, fun _ _ _ => by rw [e1], fun b h1 h2 => by rw [e3] at h1; rw [e1] at h2; exact ⟨h1, h2⟩, fun b hb e => hh b fun q => ?_, ht, fun _ _ h => by rw [e2]; exact h, e5, fun e => ⟨e4, fun p' hp' => ?_⟩, (fun e => by rw [hp] at e; cases e), Nat.le_of_eq e4.symm⟩⟩
  · subst q; rw [hC.bwg] at e; rcases e with e | e <;> cases e
  · rw [hp] at hp'
    obtain rfl := Option.some.inj hp'
    exact hv (by unfold Gho.fd at e; rw [hp] at e; exact e)
theorem vc_all (h : ∀ i, p.b ≤ i → i < p.b + n → (tag i).cw = 1) (h0 : ∀ i, p.b + n ≤ i → (tag i).cw = 0) (hn : n ≤ p.W) : vcT tag p = n := by
  have key : ∀ m, sumTo m (fun j => (tag (p.b + j)).cw) = min m n := by
    intro m
    induction m with
    | zero => simp [sumTo]
    | succ m ih =>
      simp only [sumTo, ih]
      by_cases e : m < n
      · rw [h (p.b + m) (by omega) (by omega)]; omega
      · rw [h0 (p.b + m) (by omega)]; omega
  unfold vcT
  rw [key]; omega
theorem Core.vc_early (h : Core ty γ p w) (hI : GInv ty top γ w) (hc : (γ.tag p.f).closed = false) : vcT γ.tag p = γ.started p := by
  refine vc_all (n := γ.started p) (fun i h1 h2 => ?_) (fun i hi => ?_) (by have := h.cntW; have := h.cnt; omega)
  · have := h.early hc i h1 (by rw [h.cnt]; exact h2)
    cases e : γ.tag i <;> rw [e] at this <;> first | rfl | exact this.elim
  · rw [hI.un i (by rw [h.cnt]; exact hi)]; rfl
/-- The atomic Add of +1. -/
theorem do_add (hI : GInv ty top γ w) (hp : γ.ph = some p) (ht : γ.tag p.f = .add j 0) (hj : j < p.W) (wk : Prop) : WgAt ty p.wg w ((j : Int) * KK) 0 ∧
    (crewPact P ty top Post).Do p.f γ w (γ.setTag p.f (.add j 1)) (w.setCell (stA p.wg) (.int .u64 (((j : Int) + 1) * KK))) wk #[rd (stA p.wg), wr (stA p.wg)] := by
  have h := hI.core hp
  have hfc : p.f < γ.cnt := by have := h.fd; have := h.cnt; omega
  have hcl : (γ.tag p.f).closed = false := by rw [ht]; rfl
  have hv : vcT γ.tag p = j := by rw [h.vc_early hI hcl]; unfold Gho.started; rw [ht]
  have hnl : ∀ i, p.b ≤ i → ¬ (γ.tag i).lasts := fun i hb => by
    by_cases hi : i < γ.cnt
    · have := h.early hcl i hb hi
      intro q
      cases e : γ.tag i <;> rw [e] at this q <;> first | exact this | exact q
    · rw [hI.un i (by omega)]; exact id
  have hwg : WgAt ty p.wg w ((j : Int) * KK) 0 := by
    obtain ⟨st, sm, q1, q2⟩ := h.wgm
    cases q2 with
    | opn => rw [hv, ht] at q1; simpa [Tag.pend] using q1
    | reg q => rw [ht] at q; cases q
    | last _ _ q => rw [ht] at q; cases q
    | sema q => rw [ht] at q; cases q
    | fin q => rw [ht] at q; cases q
  refine ⟨hwg, ?_⟩
  have hsame : ∀ b, b ≠ p.wg → (w.setCell (stA p.wg) (.int .u64 (((j : Int) + 1) * KK))).heap[b]? = w.heap[b]? := fun b hb => heap_cell_ne _ _ _ hb
  have hadd := h.add j 0 ht
  have hwg' : ∃ st sm, WgAt ty p.wg (w.setCell (stA p.wg) (.int .u64 (((j : Int) + 1) * KK))) st sm ∧ WMode (upd γ.tag p.f (.add j 1)) p st sm := by
    have hm : WMode (upd γ.tag p.f (.add j 1)) p (((vcT (upd γ.tag p.f (.add j 1)) p + ((upd γ.tag p.f (.add j 1)) p.f).pend : Nat) : Int) * KK) 0 :=
      .opn (by rw [upd_same]; trivial) fun i hi => by rw [upd_ne _ _ (by have := h.fd; omega)]; exact hnl i hi
    rw [vc_out _ h.fd, hv, upd_same] at hm
    exact ⟨_, _, hwg.setSt _, by simpa [Tag.pend] using hm⟩
  have hC' := h.refeed (x := .add j 1) (w' := w.setCell (stA p.wg) (.int .u64 (((j : Int) + 1) * KK))) trivial (by unfold Gho.started; rw [show (γ.setTag p.f (Tag.add j 1)).tag p.f = Tag.add j 1 from upd_same _ _ _, ht]) (fun j' q' e => by injection e with e1 e2; subst e1 e2; exact ⟨by omega, .inr ⟨rfl, hj⟩, hadd.2.2⟩) (by rw [ht]; rfl) hwg' hsame (fun e => by cases e)
  refine ⟨hI.refeed hp hC' trivial (size_cell _ _ _), fun j' hj' => rel_wg hI hp rfl rfl rfl rfl rfl (upd_ne _ _ hj') rfl (fun e => absurd e.symm hj') rfl hsame, fun t fn pos hT => hT.cells (γ' := γ.setTag p.f (.add j 1)) hfc (.inl (by unfold Gho.fd; rw [hp])) (fun e he => ?_) rfl rfl rfl rfl rfl (fun k hk => upd_ne _ _ hk) (fun _ _ => rfl) rfl (fun _ => by rw [ht]; simp) (fun p' hp' hb => ?_), fun j' cases c r hj' hof hc hr => .inl ?_, .inr fun j' hj' hw => wait_keep hw rfl (upd_ne _ _ hj') fun p' hp' => ?_, rfl, rfl⟩
  · obtain ⟨l1, _⟩ := h.lts hI.hs
    simp only [List.mem_toArray, List.mem_cons, List.not_mem_nil, or_false] at he
    rcases he with rfl | rfl
    · exact .inl ⟨stA p.wg, false, rfl, l1, .inl ⟨p.f, h.bwg⟩⟩
    · exact .inl ⟨stA p.wg, true, rfl, l1, .inl ⟨p.f, h.bwg⟩⟩
  · rw [hp] at hp'; obtain rfl := Option.some.inj hp'; have := h.fd; omega
  · obtain ⟨p', hp', hr'⟩ := offer_chan hof hc hr
    rw [hp] at hp'; obtain rfl := Option.some.inj hp'
    rcases hr' with e | e <;> rw [e]
    · exact hsame _ h.ne.1
    · exact hsame _ h.ne.2.1
  · obtain ⟨p'', q1, q2, q3, _⟩ := hw
    rw [hp] at q1
    obtain rfl := Option.some.inj q1
    exact absurd q2 hj'
end
end Go.Proofs.YtbicafgmfgdckaaDoor
namespace Go.Proofs.YtbicafgmfgdckaaDoor
open Go Go.Conc
open Go.ConcR (KK wgBlock WgAt stA smA rd wr mk)
open Go.ConcN (sumTo upd upd_same upd_ne RelBy PermW WgLive)

section
variable {ty : TypeId} {top : Nat} {γ γ' : Gho} {p : Ph} {w w' : World} {i j k n : Nat} {t u : Trace} {P : Program} {Post : Value → World → Prop} {es : Array Event} {tag : Nat → Tag} {x : Tag}
/-- A step that turns the group's block at most, and lists shared cells and words. -/
theorem do_cells (hI : GInv ty top γ w) (hp : γ.ph = some p) (hi : i < γ.cnt) (hwho : i = p.f ∨ p.b ≤ i) (hI' : GInv ty top γ' w') (hes : ∀ e ∈ es, ShEv γ i e) (e1 : γ'.bk = γ.bk) (e2 : γ'.ow = γ.ow) (e3 : γ'.hs = γ.hs) (e4 : γ'.cnt = γ.cnt) (e5 : γ'.ph = γ.ph) (e9 : γ'.next = γ.next)
    (e6 : ∀ k, k ≠ i → γ'.tag k = γ.tag k) (e7 : ∀ k, k ≠ i → γ'.deaf k = γ.deaf k) (e8 : γ'.deaf i = deafBehind (γ.deaf i) es) (hl : γ'.tag i ≠ .gone → γ.tag i ≠ .gone) (hv : p.f ≠ i → vcT γ'.tag p ≤ vcT γ.tag p) (ht : w'.tape = w.tape) (hh : ∀ b, b ≠ p.wg → w'.heap[b]? = w.heap[b]?)
    (hreli : ∀ t fn pos, GTr γ t → p.b ≤ i → (γ'.tag i).said → ∃ r, RelBy (stA p.wg) (t ++ MemOp.ofEvents i fn pos es) i r) {wk : Prop} (hwait : wk ∨ i = p.f ∨ ∀ j, j ≠ i → GWait ty j γ w → GWait ty j γ' w') (hos : outs w' = outs w := by rfl) : (crewPact P ty top Post).Do i γ w γ' w' wk es := by
  have h := hI.core hp
  refine ⟨hI', fun j' hj' => rel_wg hI hp e1 e2 e3 e5 e9 (e6 _ hj') (e7 _ hj') (fun e => hv (by rw [e]; exact hj')) ht hh, fun t fn pos hT => hT.cells hi ?_ hes e1 e2 e3 e4 e5 e6 e7 e8 hl fun p' hp' hb hs => ?_, fun j' cases c r hj' hof hc hr => .inl ?_, ?_, e4, hos⟩
  · rcases hwho with e | e
    · left; unfold Gho.fd; rw [hp]; exact e
    · exact .inr ⟨p, hp, e⟩
  · rw [hp] at hp'; obtain rfl := Option.some.inj hp'
    exact hreli t fn pos hT hb hs
  · obtain ⟨p', hp', hr'⟩ := offer_chan hof hc hr
    rw [hp] at hp'; obtain rfl := Option.some.inj hp'
    rcases hr' with e | e <;> rw [e]
    · exact hh _ h.ne.1
    · exact hh _ h.ne.2.1
  · rcases hwait with q | q | q
    · exact .inl q
    · refine .inr fun j' hj' hw => ?_
      obtain ⟨p'', q1, q2, q3, _⟩ := hw
      rw [hp] at q1
      obtain rfl := Option.some.inj q1
      exact absurd (q2.trans q.symm) hj'
    · exact .inr q
/-- The feeder's own. -/
theorem do_feeder (hI : GInv ty top γ w) (hp : γ.ph = some p) (hC' : Core ty (γ.setTag p.f x) p w') (hx : x.feeds) (hs : w'.heap.size = w.heap.size) (ht : w'.tape = w.tape) (hh : ∀ b, b ≠ p.wg → w'.heap[b]? = w.heap[b]?) (hes : ∀ e ∈ es, ShEv γ p.f e) (hd : deafBehind (γ.deaf p.f) es = γ.deaf p.f) (wk : Prop) (hos : outs w' = outs w := by rfl) :
    (crewPact P ty top Post).Do p.f γ w (γ.setTag p.f x) w' wk es := by
  have h := hI.core hp
  have hfc : p.f < γ.cnt := by have := h.fd; have := h.cnt; omega
  exact do_cells hI hp hfc (.inl rfl) (hI.refeed hp hC' hx hs) hes rfl rfl rfl rfl rfl rfl (fun k hk => upd_ne _ _ hk) (fun _ _ => rfl) hd.symm (fun _ q => by have := h.ftag; rw [q] at this; exact this) (fun e => absurd rfl e) ht hh (fun t fn pos _ hb => by have := h.fd; omega) (.inr (.inl rfl)) hos
theorem ev_cell (hI : GInv ty top γ w) (hp : γ.ph = some p) (a : Addr) (b : Bool) (ha : a.block = p.wg) (i : Nat) : ShEv γ i ⟨.cell a, b, true⟩ := .inl ⟨a, b, rfl, by rw [ha]; exact ((hI.core hp).lts hI.hs).1, .inl ⟨p.f, by rw [ha]; exact (hI.core hp).bwg⟩⟩
/-- The feeder says something of the group's semaphore; or looks at the group's words. -/
theorem do_looks (hI : GInv ty top γ w) (hp : γ.ph = some p) (hes : ∀ e ∈ es, (∃ a b, e = ⟨.cell a, b, true⟩ ∧ a.block = p.wg) ∨ ∃ a, a.block = p.wg ∧ (e = mk (.read a) ∨ e = mk (.write a))) (wk : Prop) : (crewPact P ty top Post).Do p.f γ w γ w wk es := by
  have h := hI.core hp
  have hfc : p.f < γ.cnt := by have := h.fd; have := h.cnt; omega
  have hlt := (h.lts hI.hs).1
  have still : deafBehind (γ.deaf p.f) es = γ.deaf p.f := deafBehind_still _ fun e he => by
    rcases hes e he with ⟨a, b, rfl, _⟩ | ⟨a, _, rfl | rfl⟩ <;> simp [mk]
  refine do_cells hI hp hfc (.inl rfl) hI (fun e he => ?_) rfl rfl rfl rfl rfl rfl (fun _ _ => rfl) (fun _ _ => rfl) still.symm id (fun e => absurd rfl e) rfl (fun _ _ => rfl) (fun t fn pos _ hb => by have := h.fd; omega) (.inr (.inl rfl))
  rcases hes e he with ⟨a, b, rfl, ha⟩ | ⟨a, ha, rfl | rfl⟩
  · exact ev_cell hI hp a b ha _
  · exact .inr (.inr ⟨_, a, rfl, .inl rfl, by rw [ha]; exact hlt, by rw [ha]; exact h.bwg⟩)
  · exact .inr (.inr ⟨_, a, rfl, .inr rfl, by rw [ha]; exact hlt, by rw [ha]; exact h.bwg⟩)
/-- All are started: the feeding begins. -/
theorem do_begin (hI : GInv ty top γ w) (hp : γ.ph = some p) (ht : γ.tag p.f = .add p.W 0) (hd : γ.deaf p.f = 0) (wk : Prop) : (crewPact P ty top Post).Do p.f γ w (γ.setTag p.f .feed) w wk #[] := by
  have h := hI.core hp
  have hcl : (γ.tag p.f).closed = false := by rw [ht]; rfl
  have hv := h.vc_early hI hcl
  refine do_feeder hI hp (h.refeed (x := .feed) trivial (by unfold Gho.started; rw [show (γ.setTag p.f Tag.feed).tag p.f = Tag.feed from upd_same _ _ _, ht]) (fun _ _ e => by cases e) (by rw [ht]; rfl) ?_ (fun _ _ => rfl) fun _ => hd) trivial rfl rfl (fun _ _ => rfl) (fun e he => by simp at he) rfl wk
  obtain ⟨st, sm, q1, q2⟩ := h.wgm
  refine ⟨st, sm, q1, ?_⟩
  cases q2 with
  | opn _ q4 =>
    have := WMode.opn (tag := upd γ.tag p.f .feed) (p := p) (by rw [upd_same]; trivial) fun i hi => by rw [upd_ne _ _ (by have := h.fd; omega)]; exact q4 i hi
    rw [vc_out _ h.fd, upd_same] at this
    rw [ht]
    exact this
  | reg q => rw [ht] at q; cases q
  | last _ _ q => rw [ht] at q; cases q
  | sema q => rw [ht] at q; cases q
  | fin q => rw [ht] at q; cases q
theorem Core.nolast (h : Core ty γ p w) (ht : γ.tag p.f = .shut) : WgAt ty p.wg w (((vcT γ.tag p : Nat) : Int) * KK) 0 ∧ ∀ i, p.b ≤ i → ¬ (γ.tag i).lasts := by
  obtain ⟨st, sm, q1, q2⟩ := h.wgm
  cases q2 with
  | opn _ q4 => rw [ht] at q1; exact ⟨by simpa [Tag.pend] using q1, q4⟩
  | reg q => rw [ht] at q; cases q
  | last _ _ q => rw [ht] at q; cases q
  | sema q => rw [ht] at q; cases q
  | fin q => rw [ht] at q; cases q
theorem Core.allgone (h : Core ty γ p w) (hv : vcT γ.tag p = 0) (hnl : ∀ i, p.b ≤ i → ¬ (γ.tag i).lasts) (hI : GInv ty top γ w) : ∀ i, p.b ≤ i → γ.tag i = .gone := by
  intro i hb
  by_cases hi : i < γ.cnt
  · have h0 : (γ.tag i).cw = 0 := by
      have := Go.ConcN.le_sumTo (f := fun j => (γ.tag (p.b + j)).cw) (i := i - p.b) (j := p.W) (by have := h.cntW; omega)
      rw [show p.b + (i - p.b) = i by omega] at this
      unfold vcT at hv
      omega
    have h1 := h.wtag i hb
    have h2 := hnl i hb
    cases e : γ.tag i <;> rw [e] at h0 h1 h2 <;> first | rfl | exact h1.elim | exact absurd trivial h2 | (simp [Tag.cw] at h0)
  · exact hI.un i (by omega)
/-- Wait sees that all are done. -/
theorem do_seen (hI : GInv ty top γ w) (hp : γ.ph = some p) (ht : γ.tag p.f = .shut) (hv : vcT γ.tag p = 0) (wk : Prop) : (crewPact P ty top Post).Do p.f γ w (γ.setTag p.f .thru) w wk #[rd (stA p.wg)] := by
  have h := hI.core hp
  obtain ⟨q1, q2⟩ := h.nolast ht
  have hg := h.allgone hv q2 hI
  refine do_feeder hI hp (h.refeed (x := .thru) trivial (by unfold Gho.started; rw [show (γ.setTag p.f Tag.thru).tag p.f = Tag.thru from upd_same _ _ _, ht]) (fun _ _ e => by cases e) (by rw [ht]; rfl) ⟨0, 0, by rw [hv] at q1; simpa using q1, ?_⟩ (fun _ _ => rfl) fun e => by cases e) trivial rfl rfl (fun _ _ => rfl) (fun e he => ?_) rfl wk
  · exact .fin (upd_same _ _ _) fun i hi => by rw [upd_ne _ _ (by have := h.fd; omega)]; exact hg i hi
  · simp only [List.mem_toArray, List.mem_singleton] at he
    subst he
    exact ev_cell hI hp _ _ rfl _
/-- Wait registers. -/
theorem do_reg (hI : GInv ty top γ w) (hp : γ.ph = some p) (ht : γ.tag p.f = .shut) (hv : 1 ≤ vcT γ.tag p) (wk : Prop) : (crewPact P ty top Post).Do p.f γ w (γ.setTag p.f .reg) (w.setCell (stA p.wg) (.int .u64 (((vcT γ.tag p : Nat) : Int) * KK + 1))) wk #[rd (stA p.wg), wr (stA p.wg)] := by
  have h := hI.core hp
  obtain ⟨q1, q2⟩ := h.nolast ht
  have hsame : ∀ b, b ≠ p.wg → (w.setCell (stA p.wg) (.int .u64 (((vcT γ.tag p : Nat) : Int) * KK + 1))).heap[b]? = w.heap[b]? := fun b hb => heap_cell_ne _ _ _ hb
  refine do_feeder hI hp (h.refeed (x := .reg) trivial (by unfold Gho.started; rw [show (γ.setTag p.f Tag.reg).tag p.f = Tag.reg from upd_same _ _ _, ht]) (fun _ _ e => by cases e) (by rw [ht]; rfl) ⟨_, 0, q1.setSt _, ?_⟩ hsame fun e => by cases e) trivial (size_cell _ _ _) rfl hsame (fun e he => ?_) rfl wk
  · have := WMode.reg (tag := upd γ.tag p.f .reg) (p := p) (upd_same _ _ _) (fun i hi => by rw [upd_ne _ _ (by have := h.fd; omega)]; exact q2 i hi) (by rw [vc_out _ h.fd]; exact hv)
    rw [vc_out _ h.fd] at this
    exact this
  · simp only [List.mem_toArray, List.mem_cons, List.not_mem_nil, or_false] at he
    rcases he with rfl | rfl <;> exact ev_cell hI hp _ _ rfl _
/-- Behind the semaphore. -/
theorem do_through (hI : GInv ty top γ w) (hp : γ.ph = some p) (ht : γ.tag p.f = .reg) (hw : WgAt ty p.wg w 0 1) (wk : Prop) : (crewPact P ty top Post).Do p.f γ w (γ.setTag p.f .thru) (w.setCell (smA p.wg) (.int .u32 0)) wk (semEvents (smA p.wg)) := by
  have h := hI.core hp
  obtain ⟨st, sm, q1, q2⟩ := h.wgm
  obtain ⟨e1, e2⟩ := Go.ConcR.WgAt.unique hw q1
  have hg : ∀ i, p.b ≤ i → γ.tag i = .gone := by
    cases q2 with
    | opn q => rw [ht] at q; exact q.elim
    | reg => cases e2
    | last => cases e2
    | sema _ q => exact q
    | fin q => rw [ht] at q; cases q
  have hsame : ∀ b, b ≠ p.wg → (w.setCell (smA p.wg) (.int .u32 0)).heap[b]? = w.heap[b]? := fun b hb => heap_cell_ne _ _ _ hb
  refine do_feeder hI hp (h.refeed (x := .thru) trivial (by unfold Gho.started; rw [show (γ.setTag p.f Tag.thru).tag p.f = Tag.thru from upd_same _ _ _, ht]) (fun _ _ e => by cases e) (by rw [ht]; rfl) ⟨0, 0, hw.setSm _, ?_⟩ hsame fun e => by cases e) trivial (size_cell _ _ _) rfl hsame (fun e he => ?_) ?_ wk
  · exact .fin (upd_same _ _ _) fun i hi => by rw [upd_ne _ _ (by have := h.fd; omega)]; exact hg i hi
  · simp only [semEvents, List.mem_toArray, List.mem_cons, List.not_mem_nil, or_false] at he
    rcases he with rfl | rfl | rfl | rfl
    · exact ev_word (.inl rfl)
    · exact ev_cell hI hp _ _ rfl _
    · exact ev_cell hI hp _ _ rfl _
    · exact ev_word (.inr (.inl rfl))
  · simp [semEvents, deafBehind]
/-- Who waits: the semaphore is not up. -/
theorem reg_modes (hI : GInv ty top γ w) (hp : γ.ph = some p) (ht : γ.tag p.f = .reg) : (GWait ty p.f γ w ∧ ∃ st, WgAt ty p.wg w st 0) ∨ WgAt ty p.wg w 0 1 := by
  have h := hI.core hp
  obtain ⟨st, sm, q1, q2⟩ := h.wgm
  cases q2 with
  | opn q => rw [ht] at q; exact q.elim
  | reg => exact .inl ⟨⟨p, hp, rfl, ht, _, q1⟩, _, q1⟩
  | last => exact .inl ⟨⟨p, hp, rfl, ht, _, q1⟩, _, q1⟩
  | sema => exact .inr q1
  | fin q => rw [ht] at q; cases q
/-- The jobs' channel is closed. -/
theorem do_close (hI : GInv ty top γ w) (hp : γ.ph = some p) (ht : γ.tag p.f = .feed) (hn : γ.next = p.n) {s : Nat} (hj : w.heap[p.jobs]? = some (.chan 0 #[] false s s false)) (wk : Prop) (hwk : wk) : (crewPact P ty top Post).Do p.f γ w (γ.setTag p.f .shut) (w.setChan p.jobs 0 #[] true s s false) wk #[⟨.obj p.jobs, false, true⟩, ⟨.obj p.jobs, true, true⟩] := by
  have h := hI.core hp
  have hfc : p.f < γ.cnt := by have := h.fd; have := h.cnt; omega
  obtain ⟨l1, l2, l3, l4⟩ := h.lts hI.hs
  have tf : (γ.setTag p.f .shut).tag p.f = .shut := upd_same _ _ _
  have tn : ∀ k, k ≠ p.f → (γ.setTag p.f .shut).tag k = γ.tag k := fun k hk => upd_ne _ _ hk
  have tw : ∀ k, p.b ≤ k → (γ.setTag p.f .shut).tag k = γ.tag k := fun k hk => tn k (by have := h.fd; omega)
  have hsz : (w.setChan p.jobs 0 #[] true s s false).heap.size = w.heap.size := by simp [World.setChan]
  have hsame : ∀ b, b ≠ p.jobs → (w.setChan p.jobs 0 #[] true s s false).heap[b]? = w.heap[b]? := fun b hb => heap_setChan _ _ _ _ _ _ _ _ hb
  have hC : Core ty (γ.setTag p.f .shut) p (w.setChan p.jobs 0 #[] true s s false) := by
    refine ⟨h.bwg, h.bjobs, h.bstop, h.bout, h.ne, fun b hb e => ?_, h.fd, by rw [tf]; trivial, ?_, (fun j q e => by rw [tf] at e; cases e), fun k h1 h2 => (tn k h1).trans (h.rest k h1 h2), fun k hk => by rw [tw k hk]; exact h.wtag k hk, (fun hc => by rw [tf] at hc; cases hc), ?_, ⟨s, ?_⟩, (hsame _ (Ne.symm h.ne.2.2)).trans h.stop, ?_, fun y hy => ?_, h.nle, fun _ => hn, fun k y e => ?_, h.mine, h.owm, fun k hk => ?_, h.mixo, h.small, h.pos⟩
    · rw [hsame b (fun q => by have e' : γ.bk b = .fix := e; rw [q, h.bjobs] at e'; cases e')]; exact h.fix b hb e
    · show γ.cnt = p.b + (γ.setTag p.f .shut).started p
      have := h.cnt
      unfold Gho.started at this ⊢
      rw [tf]; rw [ht] at this; exact this
    · obtain ⟨st, sm, q1, q2⟩ := h.wgm
      refine ⟨st, sm, q1.of_block (hsame _ (Ne.symm h.ne.1)), ?_⟩
      cases q2 with
      | opn _ q4 =>
        have := WMode.opn (tag := upd γ.tag p.f .shut) (p := p) (by rw [upd_same]; trivial) fun i hi => by rw [upd_ne _ _ (by have := h.fd; omega)]; exact q4 i hi
        rw [vc_out _ h.fd, upd_same] at this
        rw [ht]
        exact this
      | reg q => rw [ht] at q; cases q
      | last _ _ q => rw [ht] at q; cases q
      | sema q => rw [ht] at q; cases q
      | fin q => rw [ht] at q; cases q
    · rw [heap_setChan_same _ _ _ _ _ _ _ _ (by rw [← hI.hs]; exact l2), tf]; rfl
    · obtain ⟨cs, q, q2⟩ := h.out
      exact ⟨cs, by rw [hsame _ (fun e => by have := h.bout; rw [e, h.bjobs] at this; cases this)]; exact q, q2⟩
    · rcases h.job y hy with q | ⟨m, q1, q2⟩
      · exact .inl q
      · exact .inr ⟨m, q1, (tw m q1).trans q2⟩
    · by_cases q : k = p.f
      · rw [q, tf] at e; cases e
      · rw [tn k q] at e; exact h.busy k y e
    · by_cases q : k = p.f
      · rw [q, tf] at hk; rcases hk with e | e <;> cases e
      · rw [tn k q] at hk; exact h.hear k hk
  refine ⟨hI.refeed hp hC trivial hsz, fun j' hj' => ⟨upd_ne _ _ hj', rfl, fun _ => ⟨Nat.le_refl _, fun _ _ _ => rfl, fun _ h1 h2 => ⟨h1, h2⟩, fun b hb e => hsame b fun q => ?_, rfl, fun _ _ h => h, rfl, fun e => ?_, (fun e => by rw [hp] at e; cases e), Nat.le_refl _⟩⟩, fun t fn pos hT => ?_, fun _ _ _ _ _ _ _ _ => .inr hwk, .inl hwk, rfl, rfl⟩
  · subst q; rw [h.bjobs] at e; rcases e with e | e <;> cases e
  · unfold Gho.fd at e; rw [hp] at e; exact absurd e.symm hj'
  · have h1 : GTr γ (t ++ MemOp.ofEvents p.f fn pos #[⟨.obj p.jobs, false, true⟩, ⟨.obj p.jobs, true, true⟩]) := hT.cells hfc (.inl (by unfold Gho.fd; rw [hp])) (fun e he => by
        simp only [List.mem_toArray, List.mem_cons, List.not_mem_nil, or_false] at he
        rcases he with rfl | rfl
        · refine .inr (.inl ⟨fun x hx => ?_, by simp [MemAct.ofEvent]⟩)
          simp only [MemAct.ofEvent, MemAct.touch?, Option.some.injEq] at hx
          subst hx
          exact ⟨rfl, l2, _, h.bjobs⟩
        · exact .inr (.inl ⟨fun x hx => by simp [MemAct.ofEvent, MemAct.touch?] at hx, by simp [MemAct.ofEvent]⟩)) rfl rfl rfl rfl rfl (fun _ _ => rfl) (fun _ _ => rfl) rfl id fun p' hp' hb => by
          rw [hp] at hp'; obtain rfl := Option.some.inj hp'; exact absurd hb (Nat.not_le_of_lt h.fd)
    exact h1.retag (fun k hk => ⟨hk.1, fun e => hk.2 (by
      show upd γ.tag p.f _ k = _
      rw [upd_ne _ _ (fun q => by subst q; rw [ht] at e; cases e)]; exact e)⟩) fun _ _ _ _ q => q.elim
end
end Go.Proofs.YtbicafgmfgdckaaDoor
namespace Go.Proofs.YtbicafgmfgdckaaDoor
open Go Go.Conc
open Go.ConcR (KK wgBlock WgAt stA smA rd wr mk)
open Go.ConcN (sumTo upd upd_same upd_ne RelBy PermW WgLive)

section
variable {ty : TypeId} {top : Nat} {γ γ' : Gho} {p : Ph} {w w' : World} {i j k n : Nat} {t u : Trace} {P : Program} {Post : Value → World → Prop} {es : Array Event} {tag : Nat → Tag} {x : Tag}
/-- A worker's tag changes behind the close. -/
theorem Core.rework (h : Core ty γ p w) (hb : p.b ≤ i) (hcl : (γ.tag p.f).closed = true) (hx : x.works) (hid : x ≠ .idle ∧ x ≠ .feed) (hbz : ∀ n, x ≠ .busy n) (hbz2 : ∀ n, γ.tag i ≠ .busy n) (hwg : ∃ st sm, WgAt ty p.wg w' st sm ∧ WMode (upd γ.tag i x) p st sm) (hh : ∀ b, b ≠ p.wg → w'.heap[b]? = w.heap[b]?) : Core ty (γ.setTag i x) p w' := by
  have hfi : p.f ≠ i := by have := h.fd; omega
  have tf : (γ.setTag i x).tag p.f = γ.tag p.f := upd_ne _ _ hfi
  refine ⟨h.bwg, h.bjobs, h.bstop, h.bout, h.ne, fun b hb e => ?_, h.fd, by rw [tf]; exact h.ftag, ?_, fun j q e => by rw [tf] at e; exact h.add j q e, fun k h1 h2 => ?_, fun k hk => ?_, (fun hc => by rw [tf, hcl] at hc; cases hc), hwg, ?_, (hh _ h.ne.2.1).trans h.stop, ?_, fun y hy => ?_, h.nle, by rw [tf]; exact h.full, fun k y e => ?_, h.mine, h.owm, fun k hk => ?_, h.mixo, h.small, h.pos⟩
  · rw [hh b (fun q => by have e' : γ.bk b = .fix := e; rw [q, h.bwg] at e'; cases e')]; exact h.fix b hb e
  · show γ.cnt = p.b + (γ.setTag i x).started p
    have := h.cnt
    unfold Gho.started at this ⊢
    rw [tf]; exact this
  · show upd γ.tag i _ k = _; rw [upd_ne _ _ (by omega)]; exact h.rest k h1 h2
  · show (upd γ.tag i _ k).works
    by_cases q : k = i
    · subst q; rw [upd_same]; exact hx
    · rw [upd_ne _ _ q]; exact h.wtag k hk
  · obtain ⟨s, q⟩ := h.jobs
    exact ⟨s, by rw [hh _ h.ne.1, tf]; exact q⟩
  · obtain ⟨cs, q, q2⟩ := h.out
    exact ⟨cs, by rw [hh _ (fun e => by have := h.bout; rw [e, h.bwg] at this; cases this)]; exact q, q2⟩
  · rcases h.job y hy with q | ⟨m, q1, q2⟩
    · exact .inl q
    · refine .inr ⟨m, q1, ?_⟩
      show upd γ.tag i _ m = _
      rw [upd_ne _ _ (fun q => by subst q; exact hbz2 y q2)]; exact q2
  · have e' : upd γ.tag i x k = .busy y := e
    by_cases q : k = i
    · subst q; rw [upd_same] at e'; exact absurd e' (hbz y)
    · rw [upd_ne _ _ q] at e'; exact h.busy k y e'
  · refine h.hear k (hk.imp (fun e => ?_) fun e => ?_) <;>
      (have e' : upd γ.tag i x k = _ := e
       by_cases q : k = i
       · subst q; rw [upd_same] at e'; first | exact absurd e' hid.1 | exact absurd e' hid.2
       · rwa [upd_ne _ _ q] at e')
theorem GInv.rework (hI : GInv ty top γ w) (hp : γ.ph = some p) (hb : p.b ≤ i) (hi : i < γ.cnt) (h : Core ty (γ.setTag i x) p w') (hs : w'.heap.size = w.heap.size) : GInv ty top (γ.setTag i x) w' := by
  have hC := hI.core hp
  have hi0 : i ≠ 0 := by have := hC.fd; omega
  refine ⟨by rw [hs]; exact hI.hs, hI.cnt, ?_, fun k hk => ?_, ?_, hI.top⟩
  · show upd γ.tag i x 0 ≠ _; rw [upd_ne _ _ (Ne.symm hi0)]; exact hI.main
  · show upd γ.tag i x k = _
    have : γ.cnt ≤ k := hk
    rw [upd_ne _ _ (by omega)]; exact hI.un k hk
  · show match γ.ph with | none => _ | some p => _
    rw [hp]; exact h
/-- Behind the close nobody's tag is an early one that was not counted. -/
theorem Core.shutTag (h : Core ty γ p w) (hc : (γ.tag p.f).closed = true) : γ.tag p.f = .shut ∨ γ.tag p.f = .reg ∨ γ.tag p.f = .thru := by
  have := h.ftag
  cases e : γ.tag p.f <;> rw [e] at this hc <;> first | exact this.elim | (cases hc; done) | simp
theorem closed_of (hI : GInv ty top γ w) (hp : γ.ph = some p) (hb : p.b ≤ i) (hi : i < γ.cnt) (hn : ¬ (γ.tag i).early) : (γ.tag p.f).closed = true := by
  cases e : (γ.tag p.f).closed with
  | true => rfl
  | false => exact absurd ((hI.core hp).early e i hb hi) hn
theorem wait_wg (hp : γ.ph = some p) (hw : GWait ty j γ w) (e0 : γ'.ph = γ.ph) (e1 : γ'.tag j = γ.tag j) {st : Int} (h : WgAt ty p.wg w' st 0) : GWait ty j γ' w' := by
  obtain ⟨p', h1, h2, h3, _⟩ := hw
  rw [hp] at h1
  obtain rfl := Option.some.inj h1
  exact ⟨p, e0.trans hp, h2, e1.trans h3, st, h⟩
/-- THE RELEASE. -/
theorem do_release (hI : GInv ty top γ w) (hp : γ.ph = some p) (hb : p.b ≤ i) (hi : i < γ.cnt) (ht : γ.tag i = .out) (hd : γ.deaf i = 0) (wk : Prop) : (crewPact P ty top Post).Do i γ w (γ.setTag i .rel) w wk #[mk (.releaseMerge (stA p.wg))] := by
  have h := hI.core hp
  have hcl := closed_of hI hp hb hi (by rw [ht]; exact id)
  have hI' : GInv ty top (γ.setTag i .rel) w := retag_core hI hp hb hi trivial id (by rw [ht]; exact ⟨rfl, rfl⟩) (.inl hcl) (by simp) (by simp) (by rw [ht]; simp) (by rw [ht]; simp)
  refine do_cells hI hp hi (.inr hb) hI' (fun e he => ?_) rfl rfl rfl rfl rfl rfl (fun k hk => upd_ne _ _ hk) (fun _ _ => rfl) rfl (fun _ => by rw [ht]; simp) (fun _ => ?_) rfl (fun _ _ => rfl) (fun t fn pos hT _ _ => ?_) (.inr (.inr fun j hj hw => wait_keep hw rfl (upd_ne _ _ hj) fun _ _ => rfl))
  · simp only [List.mem_toArray, List.mem_singleton] at he
    subst he
    exact ev_word (.inr (.inr (.inl ⟨_, rfl⟩)))
  · show vcT (upd γ.tag i .rel) p ≤ _
    have := vc_set (tag := γ.tag) .rel hb (by have := h.cntW; omega)
    rw [ht] at this
    simp only [Tag.cw] at this
    omega
  · exact ⟨t.size, Go.ConcN.RelBy.new (by rw [hT.deaf]; exact hd) fn pos⟩
theorem relBy_deaf (hT : GTr γ t) (hp : γ.ph = some p) (hb : p.b ≤ i) (hi : i < γ.cnt) (hs : (γ.tag i).said) (hd : 0 < γ.deaf i) (hes : ∀ e ∈ es, ∃ a b, e = ⟨.cell a, b, true⟩) (fn : FuncId) (pos : String) : ∃ r, RelBy (stA p.wg) (t ++ MemOp.ofEvents i fn pos es) i r := by
  obtain ⟨r, hr⟩ := hT.rel p hp i hb hi hs
  refine ⟨r, Go.ConcN.RelBy.appOwn hr fn pos es fun j e he => .inr ?_⟩
  obtain ⟨a, b, rfl⟩ := hes e (Array.mem_of_getElem? he)
  refine ⟨⟨a, b, rfl⟩, ?_⟩
  rw [deafBehind_still _ fun e he' => by
    obtain ⟨a, b, rfl⟩ := hes e (by
      have := Array.mem_extract_iff_getElem.1 he'
      obtain ⟨k, hk, e1⟩ := this
      rw [← e1]; exact Array.getElem_mem _)
    simp, hT.deaf]
  exact hd
/-- THE ATOMIC ADD OF -1: somebody else is counted still, or nobody waits. -/
theorem do_done (hI : GInv ty top γ w) (hp : γ.ph = some p) (hb : p.b ≤ i) (hi : i < γ.cnt) (ht : γ.tag i = .rel) (hd : 0 < γ.deaf i) (wk : Prop) :
    ∃ v wt : Nat, wt ≤ 1 ∧ v < 2147483647 ∧ WgAt ty p.wg w (((v + 1 : Nat) : Int) * KK + wt) 0 ∧
      (crewPact P ty top Post).Do i γ w (γ.setTag i (if v = 0 ∧ wt = 1 then .last 2 else .gone)) (w.setCell (stA p.wg) (.int .u64 ((v : Int) * KK + wt))) wk #[rd (stA p.wg), wr (stA p.wg)] := by
  have h := hI.core hp
  have hcl := closed_of hI hp hb hi (by rw [ht]; exact id)
  have hfi : p.f ≠ i := by have := h.fd; omega
  have hiW : i < p.b + p.W := by have := h.cntW; omega
  have hset := fun x => vc_set (tag := γ.tag) (i := i) x hb hiW
  have hcw : (γ.tag i).cw = 1 := by rw [ht]; rfl
  have hpos : 1 ≤ vcT γ.tag p := by
    have := Go.ConcN.le_sumTo (f := fun j => (γ.tag (p.b + j)).cw) (i := i - p.b) (j := p.W) (by omega)
    rw [show p.b + (i - p.b) = i by omega, hcw] at this
    exact this
  have hle : vcT γ.tag p ≤ p.W := by
    have := Go.ConcN.sumTo_le (f := fun j => (γ.tag (p.b + j)).cw) (c := 1) (j := p.W) fun k _ => by cases (γ.tag (p.b + k)) <;> simp [Tag.cw]
    unfold vcT; omega
  have hsm := h.small
  -- what both cases share
  have fin : ∀ (x : Tag) (V wt : Nat), (x = .gone ∨ x = .last 2) → WgAt ty p.wg w (((V + 1 : Nat) : Int) * KK + wt) 0 → (∃ st sm, WgAt ty p.wg (w.setCell (stA p.wg) (.int .u64 ((V : Int) * KK + wt))) st sm ∧ WMode (upd γ.tag i x) p st sm) →
      (crewPact P ty top Post).Do i γ w (γ.setTag i x) (w.setCell (stA p.wg) (.int .u64 ((V : Int) * KK + wt))) wk #[rd (stA p.wg), wr (stA p.wg)] := by
    intro x V wt hx hw hwg
    have hsame : ∀ b, b ≠ p.wg → (w.setCell (stA p.wg) (.int .u64 ((V : Int) * KK + wt))).heap[b]? = w.heap[b]? := fun b hb => heap_cell_ne _ _ _ hb
    have hxw : x.works := by rcases hx with rfl | rfl <;> trivial
    have hC' := h.rework (i := i) (x := x) (w' := w.setCell (stA p.wg) (.int .u64 ((V : Int) * KK + wt))) hb hcl hxw (by rcases hx with rfl | rfl <;> simp) (by rcases hx with rfl | rfl <;> simp) (by rw [ht]; simp) hwg hsame
    refine do_cells hI hp hi (.inr hb) (hI.rework hp hb hi hC' (size_cell _ _ _)) (fun e he => ?_) rfl rfl rfl rfl rfl rfl (fun k hk => upd_ne _ _ hk) (fun _ _ => rfl) rfl (fun _ => by rw [ht]; simp) (fun _ => ?_) rfl hsame (fun t fn pos hT _ _ => ?_) (.inr (.inr fun j hj hwt => wait_wg hp hwt rfl (upd_ne _ _ hj) (hw.setSt _)))
    · simp only [List.mem_toArray, List.mem_cons, List.not_mem_nil, or_false] at he
      rcases he with rfl | rfl <;> exact ev_cell hI hp _ _ rfl _
    · show vcT (upd γ.tag i x) p ≤ _
      have := hset x
      have h0 : x.cw = 0 := by rcases hx with rfl | rfl <;> rfl
      omega
    · refine relBy_deaf hT hp hb hi (by rw [ht]; trivial) hd (fun e he => ?_) fn pos
      simp only [List.mem_toArray, List.mem_cons, List.not_mem_nil, or_false] at he
      rcases he with rfl | rfl
      · exact ⟨_, _, rfl⟩
      · exact ⟨_, _, rfl⟩
  have lastOf : ∀ (hnl : ∀ k, p.b ≤ k → ¬ (γ.tag k).lasts) (x : Tag), ¬ x.lasts → ∀ k, p.b ≤ k → ¬ (upd γ.tag i x k).lasts := fun hnl x hx k hk => by
    by_cases q : k = i
    · subst q; rw [upd_same]; exact hx
    · rw [upd_ne _ _ q]; exact hnl k hk
  obtain ⟨V, hV⟩ : ∃ V, vcT γ.tag p = V + 1 := ⟨vcT γ.tag p - 1, by omega⟩
  have hv0 : ∀ x : Tag, x.cw = 0 → vcT (upd γ.tag i x) p = V := fun x hx => by have := hset x; omega
  obtain ⟨st, sm, q1, q2⟩ := h.wgm
  cases q2 with
  | opn q3 q4 =>
    have hpend : (γ.tag p.f).pend = 0 := by
      rcases h.shutTag hcl with e | e | e <;> rw [e] <;> rfl
    rw [hpend, hV] at q1
    have hw : WgAt ty p.wg w (((V + 1 : Nat) : Int) * KK + (0 : Nat)) 0 := by simpa using q1
    refine ⟨V, 0, by omega, by omega, hw, ?_⟩
    rw [if_neg (by omega)]
    refine fin .gone V 0 (.inl rfl) hw ⟨_, _, hw.setSt _, ?_⟩
    have hm := WMode.opn (tag := upd γ.tag i .gone) (p := p) (by rw [upd_ne _ _ hfi]; exact q3) (lastOf q4 .gone id)
    rw [upd_ne _ _ hfi, hpend, hv0 .gone rfl] at hm
    simpa using hm
  | reg q3 q4 q5 =>
    rw [hV] at q1
    have hw : WgAt ty p.wg w (((V + 1 : Nat) : Int) * KK + (1 : Nat)) 0 := by simpa using q1
    refine ⟨V, 1, by omega, by omega, hw, ?_⟩
    by_cases e : V = 0
    · rw [if_pos ⟨e, rfl⟩]
      refine fin (.last 2) V 1 (.inr rfl) hw ⟨_, _, hw.setSt _, ?_⟩
      subst e
      have hm := WMode.last (tag := upd γ.tag i (.last 2)) (p := p) i 2 (by rw [upd_ne _ _ hfi]; exact q3) hb (upd_same _ _ _) fun k hk hki => by
        rw [upd_ne _ _ hki]
        by_cases hkc : k < γ.cnt
        · have h0 : (γ.tag k).cw = 0 := by
            have h1 := Go.ConcN.le_sumTo (f := fun j => (upd γ.tag i (.last 2) (p.b + j)).cw) (i := k - p.b) (j := p.W) (by have := h.cntW; omega)
            rw [show p.b + (k - p.b) = k by omega, upd_ne _ _ hki] at h1
            have h2 := hv0 (.last 2) rfl
            unfold vcT at h2
            omega
          have h1 := h.wtag k hk
          have h2 := q4 k hk
          cases e : γ.tag k <;> rw [e] at h0 h1 h2 <;> first | rfl | exact h1.elim | exact absurd trivial h2 | (simp [Tag.cw] at h0)
        · exact hI.un k (by omega)
      simpa using hm
    · rw [if_neg (by omega)]
      refine fin .gone V 1 (.inl rfl) hw ⟨_, _, hw.setSt _, ?_⟩
      have hm := WMode.reg (tag := upd γ.tag i .gone) (p := p) (by rw [upd_ne _ _ hfi]; exact q3) (lastOf q4 .gone id) (by rw [hv0 .gone rfl]; omega)
      rw [hv0 .gone rfl] at hm
      simpa using hm
  | last L k q3 q4 q5 q6 =>
    exfalso
    by_cases e : i = L
    · subst e; rw [ht] at q5; cases q5
    · have := q6 i hb e; rw [ht] at this; cases this
  | sema q3 q4 => have := q4 i hb; rw [ht] at this; cases this
  | fin q3 q4 => have := q4 i hb; rw [ht] at this; cases this
/-- Where the last one stands. -/
theorem last_mode (hI : GInv ty top γ w) (hp : γ.ph = some p) (hb : p.b ≤ i) (ht : γ.tag i = .last k) : γ.tag p.f = .reg ∧ WgAt ty p.wg w (if k = 1 then 0 else 1) 0 ∧ ∀ m, p.b ≤ m → m ≠ i → γ.tag m = .gone := by
  have h := hI.core hp
  obtain ⟨st, sm, q1, q2⟩ := h.wgm
  cases q2 with
  | opn _ q => exact absurd trivial (by have := q i hb; rw [ht] at this; exact this)
  | reg _ q => exact absurd trivial (by have := q i hb; rw [ht] at this; exact this)
  | last L k' q3 q4 q5 q6 =>
    by_cases e : i = L
    · subst e
      rw [ht] at q5
      injection q5 with q5
      subst q5
      exact ⟨q3, q1, q6⟩
    · have := q6 i hb e; rw [ht] at this; cases this
  | sema q3 q4 => have := q4 i hb; rw [ht] at this; cases this
  | fin q3 q4 => have := q4 i hb; rw [ht] at this; cases this
/-- It looks. -/
theorem do_peek (hI : GInv ty top γ w) (hp : γ.ph = some p) (hb : p.b ≤ i) (hi : i < γ.cnt) (ht : γ.tag i = .last 2) (hd : 0 < γ.deaf i) (wk : Prop) : (crewPact P ty top Post).Do i γ w γ w wk #[rd (stA p.wg)] := by
  refine do_cells hI hp hi (.inr hb) hI (fun e he => ?_) rfl rfl rfl rfl rfl rfl (fun _ _ => rfl) (fun _ _ => rfl) rfl id (fun _ => Nat.le_refl _) rfl (fun _ _ => rfl) (fun t fn pos hT _ _ => ?_) (.inr (.inr fun _ _ h => h))
  · simp only [List.mem_toArray, List.mem_singleton] at he
    subst he
    exact ev_cell hI hp _ _ rfl _
  · refine relBy_deaf hT hp hb hi (by rw [ht]; trivial) hd (fun e he => ?_) fn pos
    simp only [List.mem_toArray, List.mem_singleton] at he
    subst he
    exact ⟨_, _, rfl⟩
/-- It clears the state. -/
theorem do_clear (hI : GInv ty top γ w) (hp : γ.ph = some p) (hb : p.b ≤ i) (hi : i < γ.cnt) (ht : γ.tag i = .last 2) (hd : 0 < γ.deaf i) (wk : Prop) : (crewPact P ty top Post).Do i γ w (γ.setTag i (.last 1)) (w.setCell (stA p.wg) (.int .u64 0)) wk #[wr (stA p.wg)] := by
  have h := hI.core hp
  have hcl := closed_of hI hp hb hi (by rw [ht]; exact id)
  have hfi : p.f ≠ i := by have := h.fd; omega
  obtain ⟨q1, q2, q3⟩ := last_mode hI hp hb ht
  rw [if_neg (by omega)] at q2
  have hsame : ∀ b, b ≠ p.wg → (w.setCell (stA p.wg) (.int .u64 0)).heap[b]? = w.heap[b]? := fun b hb => heap_cell_ne _ _ _ hb
  have hm := WMode.last (tag := upd γ.tag i (.last 1)) (p := p) i 1 (by rw [upd_ne _ _ hfi]; exact q1) hb (upd_same _ _ _) fun k hk hki => by rw [upd_ne _ _ hki]; exact q3 k hk hki
  rw [if_pos rfl] at hm
  have hC' := h.rework (i := i) (x := .last 1) (w' := w.setCell (stA p.wg) (.int .u64 0)) hb hcl trivial (by simp) (by simp) (by rw [ht]; simp) ⟨_, _, q2.setSt _, hm⟩ hsame
  refine do_cells hI hp hi (.inr hb) (hI.rework hp hb hi hC' (size_cell _ _ _)) (fun e he => ?_) rfl rfl rfl rfl rfl rfl (fun k hk => upd_ne _ _ hk) (fun _ _ => rfl) rfl (fun _ => by rw [ht]; simp) (fun _ => ?_) rfl hsame (fun t fn pos hT _ _ => ?_) (.inr (.inr fun j hj hwt => wait_wg hp hwt rfl (upd_ne _ _ hj) (q2.setSt _)))
  · simp only [List.mem_toArray, List.mem_singleton] at he
    subst he
    exact ev_cell hI hp _ _ rfl _
  · show vcT (upd γ.tag i _) p ≤ _
    have := vc_set (tag := γ.tag) (.last 1) hb (by have := h.cntW; omega)
    rw [ht] at this
    simp only [Tag.cw] at this
    omega
  · refine relBy_deaf hT hp hb hi (by rw [ht]; trivial) hd (fun e he => ?_) fn pos
    simp only [List.mem_toArray, List.mem_singleton] at he
    subst he
    exact ⟨_, _, rfl⟩
/-- It lets the feeder go on. -/
theorem do_wake (hI : GInv ty top γ w) (hp : γ.ph = some p) (hb : p.b ≤ i) (hi : i < γ.cnt) (ht : γ.tag i = .last 1) (hd : 0 < γ.deaf i) (wk : Prop) (hwk : wk) : WgAt ty p.wg w 0 0 ∧ (crewPact P ty top Post).Do i γ w (γ.setTag i .gone) (w.setCell (smA p.wg) (.int .u32 1)) wk (semEvents (smA p.wg)) := by
  have h := hI.core hp
  have hcl := closed_of hI hp hb hi (by rw [ht]; exact id)
  have hfi : p.f ≠ i := by have := h.fd; omega
  obtain ⟨q1, q2, q3⟩ := last_mode hI hp hb ht
  rw [if_pos rfl] at q2
  refine ⟨q2, ?_⟩
  have hsame : ∀ b, b ≠ p.wg → (w.setCell (smA p.wg) (.int .u32 1)).heap[b]? = w.heap[b]? := fun b hb => heap_cell_ne _ _ _ hb
  have hm := WMode.sema (tag := upd γ.tag i .gone) (p := p) (by rw [upd_ne _ _ hfi]; exact q1) fun k hk => by
    by_cases e : k = i
    · subst e; exact upd_same _ _ _
    · rw [upd_ne _ _ e]; exact q3 k hk e
  have hC' := h.rework (i := i) (x := .gone) (w' := w.setCell (smA p.wg) (.int .u32 1)) hb hcl trivial (by simp) (by simp) (by rw [ht]; simp) ⟨_, _, q2.setSm _, hm⟩ hsame
  refine do_cells hI hp hi (.inr hb) (hI.rework hp hb hi hC' (size_cell _ _ _)) (fun e he => ?_) rfl rfl rfl rfl rfl rfl (fun k hk => upd_ne _ _ hk) (fun _ _ => rfl) ?_ (fun q => absurd (upd_same _ _ _) q) (fun _ => ?_) rfl hsame (fun t fn pos hT _ _ => ?_) (.inl hwk)
  · simp only [semEvents, List.mem_toArray, List.mem_cons, List.not_mem_nil, or_false] at he
    rcases he with rfl | rfl | rfl | rfl
    · exact ev_word (.inl rfl)
    · exact ev_cell hI hp _ _ rfl _
    · exact ev_cell hI hp _ _ rfl _
    · exact ev_word (.inr (.inl rfl))
  · show γ.deaf i = _
    simp [semEvents, deafBehind]
  · show vcT (upd γ.tag i _) p ≤ _
    have := vc_set (tag := γ.tag) .gone hb (by have := h.cntW; omega)
    rw [ht] at this
    simp only [Tag.cw] at this
    omega
  · obtain ⟨r, hr⟩ := hT.rel p hp i hb hi (by rw [ht]; trivial)
    refine ⟨r, Go.ConcN.RelBy.appOwn hr fn pos _ fun j e he => ?_⟩
    simp only [semEvents] at he ⊢
    match j, he with
    | 0, he => obtain rfl := Option.some.inj he.symm; exact .inl rfl
    | 1, he =>
      obtain rfl := Option.some.inj he.symm
      exact .inr ⟨⟨_, _, rfl⟩, by rw [hT.deaf]; simp [deafBehind]⟩
    | 2, he =>
      obtain rfl := Option.some.inj he.symm
      exact .inr ⟨⟨_, _, rfl⟩, by rw [hT.deaf]; simp [deafBehind]⟩
    | 3, he => obtain rfl := Option.some.inj he.symm; exact .inl rfl
    | n + 4, he => simp at he
end
end Go.Proofs.YtbicafgmfgdckaaDoor
namespace Go.Proofs.YtbicafgmfgdckaaDoor
open Go Go.Conc
open Go.ConcR (KK wgBlock WgAt stA smA rd wr mk)
open Go.ConcN (sumTo upd upd_same upd_ne RelBy PermW WgLive)

section
variable {ty : TypeId} {top : Nat} {γ γ' : Gho} {p : Ph} {w w' : World} {i j k n : Nat} {t u : Trace} {P : Program} {Post : Value → World → Prop} {es : Array Event} {tag : Nat → Tag} {x : Tag}
/-! ### a place is filled -/
def Gho.put (γ : Gho) (i y : Nat) : Gho := { γ with tag := upd γ.tag i .idle, done := fun z => γ.done z ∨ z = y }
/-- Worker i lays what job y comes to. -/
structure Puts (p : Ph) (y : Nat) (w w' : World) : Prop where
  size : w'.heap.size = w.heap.size
  tape : w'.tape = w.tape
  os : outs w' = outs w
  old : ∀ b, b ≠ p.out → w'.heap[b]? = w.heap[b]?
  new : ∀ cs, w.heap[p.out]? = some (.cells cs p.oty (0, 0)) → ∃ cs', w'.heap[p.out]? = some (.cells cs' p.oty (0, 0)) ∧ cs'.size = cs.size ∧ (∀ o, o < 32 → cs'[32 * y + o]? = some (p.val y o)) ∧ ∀ k, k / 32 ≠ y → cs'[k]? = cs[k]?
theorem do_put {y : Nat} (hI : GInv ty top γ w) (hp : γ.ph = some p) (hb : p.b ≤ i) (hi : i < γ.cnt) (ht : γ.tag i = .busy y) (hd : γ.deaf i = 0) (hw : Puts p y w w') (hes : ∀ e ∈ es, ∃ a : Addr, e = ⟨.cell a, true, false⟩ ∧ a.block = p.out ∧ a.off / 32 = y) (wk : Prop) : (crewPact P ty top Post).Do i γ w (γ.put i y) w' wk es := by
  have h := hI.core hp
  obtain ⟨l1, l2, l3, l4⟩ := h.lts hI.hs
  have hfi : p.f ≠ i := by have := h.fd; omega
  have hi0 : i ≠ 0 := by have := h.fd; omega
  have tf : (γ.put i y).tag p.f = γ.tag p.f := upd_ne _ _ hfi
  obtain ⟨hyn, hyo⟩ := h.busy i y ht
  have n1 : p.wg ≠ p.out := fun e => by have := h.bout; rw [← e, h.bwg] at this; cases this
  have n2 : p.jobs ≠ p.out := fun e => by have := h.bout; rw [← e, h.bjobs] at this; cases this
  have n3 : p.stop ≠ p.out := fun e => by have := h.bout; rw [← e, h.bstop] at this; cases this
  have hv : vcT (upd γ.tag i .idle) p = vcT γ.tag p := by
    have := vc_set (tag := γ.tag) .idle hb (by have := h.cntW; omega)
    rw [ht] at this
    simp only [Tag.cw] at this
    omega
  have hC : Core ty (γ.put i y) p w' := by
    refine ⟨h.bwg, h.bjobs, h.bstop, h.bout, h.ne, fun b hb e => ?_, h.fd, by rw [tf]; exact h.ftag, ?_, fun j q e => by rw [tf] at e; exact h.add j q e, fun k h1 h2 => ?_, fun k hk => ?_, fun hc k h1 h2 => ?_, ?_, by rw [tf, hw.old _ n2]; exact h.jobs, (hw.old _ n3).trans h.stop, ?_, fun z hz => ?_, h.nle, by rw [tf]; exact h.full, fun k z e => ?_, h.mine, h.owm, fun k hk => ?_, h.mixo, h.small, h.pos⟩
    · rw [hw.old b (fun q => by have e' : γ.bk b = .fix := e; rw [q, h.bout] at e'; cases e')]; exact h.fix b hb e
    · show γ.cnt = p.b + (γ.put i y).started p
      have := h.cnt
      unfold Gho.started at this ⊢
      rw [tf]; exact this
    · show upd γ.tag i _ k = _; rw [upd_ne _ _ (by omega)]; exact h.rest k h1 h2
    · show (upd γ.tag i _ k).works
      by_cases q : k = i
      · subst q; rw [upd_same]; trivial
      · rw [upd_ne _ _ q]; exact h.wtag k hk
    · rw [tf] at hc
      show (upd γ.tag i _ k).early
      by_cases q : k = i
      · subst q; rw [upd_same]; trivial
      · rw [upd_ne _ _ q]; exact h.early hc k h1 h2
    · obtain ⟨st, sm, q1, q2⟩ := h.wgm
      refine ⟨st, sm, q1.of_block (hw.old _ n1), ?_⟩
      have hlast : (∀ k, p.b ≤ k → ¬ (γ.tag k).lasts) → ∀ k, p.b ≤ k → ¬ (upd γ.tag i .idle k).lasts := fun hnl k hk => by
        by_cases q : k = i
        · subst q; rw [upd_same]; exact id
        · rw [upd_ne _ _ q]; exact hnl k hk
      cases q2 with
      | opn q3 q4 =>
        have hm := WMode.opn (tag := upd γ.tag i .idle) (p := p) (by rw [upd_ne _ _ hfi]; exact q3) (hlast q4)
        rw [upd_ne _ _ hfi, hv] at hm
        exact hm
      | reg q3 q4 q5 =>
        have hm := WMode.reg (tag := upd γ.tag i .idle) (p := p) (by rw [upd_ne _ _ hfi]; exact q3) (hlast q4) (by rw [hv]; exact q5)
        rw [hv] at hm
        exact hm
      | last L k q3 q4 q5 q6 =>
        exfalso
        by_cases e : i = L
        · subst e; rw [ht] at q5; cases q5
        · have := q6 i hb e; rw [ht] at this; cases this
      | sema q3 q4 => have := q4 i hb; rw [ht] at this; cases this
      | fin q3 q4 => have := q4 i hb; rw [ht] at this; cases this
    · obtain ⟨cs, q1, q2, q3⟩ := h.out
      obtain ⟨cs', r1, r2, r3, r4⟩ := hw.new cs q1
      refine ⟨cs', r1, r2.trans q2, fun z hz hdn o ho => ?_⟩
      by_cases e : z = y
      · subst e; exact r3 o ho
      · rw [r4 _ (by omega)]
        exact q3 z hz (hdn.resolve_right e) o ho
    · by_cases e : z = y
      · exact .inl (.inr e)
      · rcases h.job z hz with q | ⟨m, q1, q2⟩
        · exact .inl (.inl q)
        · refine .inr ⟨m, q1, ?_⟩
          show upd γ.tag i _ m = _
          rw [upd_ne _ _ (fun q => by subst q; rw [ht] at q2; injection q2 with q2; exact e q2.symm)]; exact q2
    · have e' : upd γ.tag i .idle k = .busy z := e
      by_cases q : k = i
      · subst q; rw [upd_same] at e'; cases e'
      · rw [upd_ne _ _ q] at e'; exact h.busy k z e'
    · by_cases q : k = i
      · subst q; exact hd
      · refine h.hear k (hk.imp (fun e => ?_) fun e => ?_) <;> (have e' : upd γ.tag i .idle k = _ := e; rwa [upd_ne _ _ q] at e')
  refine ⟨⟨by rw [hw.size]; exact hI.hs, hI.cnt, ?_, fun k hk => ?_, ?_, hI.top⟩, fun j hj => ⟨upd_ne _ _ hj, rfl, fun _ => ⟨Nat.le_refl _, fun _ _ _ => rfl, fun _ h1 h2 => ⟨h1, h2⟩, fun b hb e => hw.old b fun q => ?_, hw.tape, fun _ _ h => h, rfl, fun _ => ⟨rfl, fun p' hp' => ?_⟩, (fun e => by rw [hp] at e; cases e), Nat.le_refl _⟩⟩, fun t fn pos hT => ?_, fun j cases c r hj hof hc hr => .inl ?_, .inr fun j hj hwt => wait_keep hwt rfl (upd_ne _ _ hj) fun p' hp' => ?_, rfl, hw.os⟩
  · show upd γ.tag i _ 0 ≠ _; rw [upd_ne _ _ (Ne.symm hi0)]; exact hI.main
  · show upd γ.tag i _ k = _; rw [upd_ne _ _ (by have : γ.cnt ≤ k := hk; omega)]; exact hI.un k hk
  · show match γ.ph with | none => _ | some p => _
    rw [hp]; exact hC
  · subst q; rw [h.bout] at e; rcases e with e | e <;> cases e
  · rw [hp] at hp'; obtain rfl := Option.some.inj hp'; exact Nat.le_of_eq hv
  · have hlive : ∀ k, (γ.put i y).wh.live k → γ.wh.live k := fun k hk => ⟨hk.1, fun e => hk.2 (by
      show upd γ.tag i _ k = _
      rw [upd_ne _ _ (fun q => by subst q; rw [ht] at e; cases e)]; exact e)⟩
    have evt : ∀ e ∈ es, ∀ z, (MemAct.ofEvent e).touch? = some z → ∃ a : Addr, z = ⟨.cell a, true, .plain⟩ ∧ a.block = p.out ∧ a.off / 32 = y := fun e he z hz => by
      obtain ⟨a, rfl, h1, h2⟩ := hes e he
      have : MemAct.ofEvent ⟨.cell a, true, false⟩ = .access ⟨.cell a, true, false⟩ := rfl
      rw [this] at hz
      simp only [MemAct.touch?, Option.some.injEq] at hz
      exact ⟨a, hz.symm, h1, h2⟩
    refine GTr.own (γ' := γ.put i y) hT rfl (fun op hop => by obtain ⟨e, _, rfl⟩ := mem_ofEv hop; rfl) (.inr ⟨p, hp, hb⟩) ((hT.d.low (γ' := γ.put i y) hT.low (fun _ _ => rfl) rfl hlive).app hi fun op hop => ?_) (fun _ _ => rfl) ?_ (fun op hop a e => ?_) (fun m a ha => ?_) (fun k hk h1 h2 => ⟨h1, by have h2' : (upd γ.tag i .idle k).said := h2; rwa [upd_ne _ _ hk] at h2'⟩) (fun p' hp' _ hs => by have hs' : (upd γ.tag i .idle i).said := hs; rw [upd_same] at hs'; exact hs'.elim)
    · obtain ⟨e, he, rfl⟩ := mem_ofEv hop
      refine ⟨rfl, fun z hz => ?_⟩
      obtain ⟨a, rfl, h1, h2⟩ := evt e he z hz
      have how : γ.ow a.block a.off = some i := by
        have := hyo (a.off % 32) (Nat.mod_lt _ (by omega))
        rw [show 32 * y + a.off % 32 = a.off by omega] at this
        rw [h1]; exact this
      have hbm : γ.bk a.block = .mix := by rw [h1]; exact h.bout
      refine .inr ⟨?_, by simp, rfl, .inl ⟨?_, ?_⟩⟩
      · rintro (⟨s, q⟩ | ⟨_, q⟩)
        · have q' : γ.bk a.block = .shd s := q
          rw [hbm] at q'; cases q'
        · have q' : γ.ow a.block a.off = none := q
          rw [how] at q'; cases q'
      · intro q
        have q' : γ.bk a.block = .fix := q
        rw [hbm] at q'; cases q'
      · show (match γ.bk a.block with | .priv i => i | .mix => (γ.ow a.block a.off).getD 0 | _ => 0) = i
        rw [hbm, how]; rfl
    · rw [Deaf_own, deafBehind_still _ fun e he => by obtain ⟨a, rfl, _⟩ := hes e he; simp]; exact hT.deaf i
    · obtain ⟨e', he, rfl⟩ := mem_ofEv hop
      obtain ⟨a', rfl, _⟩ := hes e' he
      simp [MemAct.ofEvent] at e
    · obtain ⟨z, hz, hza⟩ := touch_of ha
      rcases getElem?_append_cases hz with ⟨_, hz'⟩ | ⟨_, hop⟩
      · exact hT.low m a (by rw [touchAt_of hz']; exact hza)
      · obtain ⟨e, he, rfl⟩ := mem_ofEv hop
        obtain ⟨a', rfl, h1, _⟩ := evt e he a hza
        show a'.block < γ.hs
        rw [h1]; exact l4
  · obtain ⟨p', hp', hr'⟩ := offer_chan hof hc hr
    rw [hp] at hp'; obtain rfl := Option.some.inj hp'
    rcases hr' with e | e <;> rw [e]
    · exact hw.old _ n2
    · exact hw.old _ n3
  · rw [hp] at hp'; obtain rfl := Option.some.inj hp'
    exact hw.old _ n1
/-! ### a worker is started -/
def Gho.spawn (γ : Gho) (p : Ph) (j : Nat) : Gho := { γ with cnt := γ.cnt + 1, tag := upd (upd γ.tag p.f (.add (j + 1) 0)) γ.cnt .idle, deaf := upd γ.deaf γ.cnt 0 }
theorem do_spawn (hI : GInv ty top γ w) (hp : γ.ph = some p) (ht : γ.tag p.f = .add j 1) (hd : γ.deaf p.f = 0) : (crewPact P ty top Post).Spawns p.f γ w (γ.spawn p j) := by
  have h := hI.core hp
  have hfc : p.f < γ.cnt := by have := h.fd; have := h.cnt; omega
  have hcl : (γ.tag p.f).closed = false := by rw [ht]; rfl
  obtain ⟨a1, a2, a3⟩ := h.add j 1 ht
  have hjW : j < p.W := by rcases a2 with q | ⟨_, q⟩ <;> omega
  have hcnt : γ.cnt = p.b + j := by have := h.cnt; unfold Gho.started at this; rw [ht] at this; exact this
  have hne : p.f ≠ γ.cnt := by omega
  have tf : (γ.spawn p j).tag p.f = .add (j + 1) 0 := by
    show upd (upd γ.tag p.f _) γ.cnt _ p.f = _
    rw [upd_ne _ _ hne, upd_same]
  have tc : (γ.spawn p j).tag γ.cnt = .idle := upd_same _ _ _
  have tn : ∀ k, k ≠ p.f → k ≠ γ.cnt → (γ.spawn p j).tag k = γ.tag k := fun k h1 h2 => by
    show upd (upd γ.tag p.f _) γ.cnt _ k = _
    rw [upd_ne _ _ h2, upd_ne _ _ h1]
  have hv : vcT γ.tag p = j := by rw [h.vc_early hI hcl]; unfold Gho.started; rw [ht]
  have hv' : vcT (γ.spawn p j).tag p = j + 1 := by
    have h1 := vc_set (p := p) (tag := upd γ.tag p.f (.add (j + 1) 0)) (i := γ.cnt) .idle (by omega) (by omega)
    rw [vc_out _ h.fd, upd_ne _ _ (Ne.symm hne), hI.un γ.cnt (Nat.le_refl _), hv] at h1
    simp only [Tag.cw] at h1
    exact h1
  have hC : Core ty (γ.spawn p j) p w := by
    refine ⟨h.bwg, h.bjobs, h.bstop, h.bout, h.ne, h.fix, h.fd, by rw [tf]; trivial, ?_, fun j' q e => ?_, fun k h1 h2 => (tn k h1 (by omega)).trans (h.rest k h1 h2), fun k hk => ?_, fun _ k h1 h2 => ?_, ?_, by rw [tf]; have := h.jobs; rw [hcl] at this; exact this, h.stop, h.out, fun z hz => ?_, h.nle, (fun e => by rw [tf] at e; cases e), fun k z e => ?_, h.mine, h.owm, fun k hk => ?_, h.mixo, h.small, h.pos⟩
    · show γ.cnt + 1 = p.b + (γ.spawn p j).started p
      unfold Gho.started
      rw [tf]; dsimp only; omega
    · rw [tf] at e; injection e with e1 e2; subst e1 e2; exact ⟨by omega, .inl rfl, a3⟩
    · by_cases q : k = γ.cnt
      · rw [q, tc]; trivial
      · rw [tn k (by have := h.fd; omega) q]; exact h.wtag k hk
    · by_cases q : k = γ.cnt
      · rw [q, tc]; trivial
      · have h2' : k < γ.cnt + 1 := h2
        rw [tn k (by have := h.fd; omega) q]; exact h.early hcl k h1 (by omega)
    · obtain ⟨st, sm, q1, q2⟩ := h.wgm
      refine ⟨st, sm, q1, ?_⟩
      cases q2 with
      | opn q3 q4 =>
        have hm := WMode.opn (tag := (γ.spawn p j).tag) (p := p) (by rw [tf]; trivial) fun k hk => by
          by_cases q : k = γ.cnt
          · rw [q, tc]; exact id
          · rw [tn k (by have := h.fd; omega) q]; exact q4 k hk
        rw [hv', tf] at hm
        rw [hv, ht]
        exact hm
      | reg q => rw [ht] at q; cases q
      | last _ _ q => rw [ht] at q; cases q
      | sema q => rw [ht] at q; cases q
      | fin q => rw [ht] at q; cases q
    · have hz' : z < γ.next := hz
      omega
    · by_cases q : k = γ.cnt
      · rw [q, tc] at e; cases e
      · by_cases q2 : k = p.f
        · rw [q2, tf] at e; cases e
        · rw [tn k q2 q] at e; exact h.busy k z e
    · show upd γ.deaf γ.cnt 0 k = 0
      by_cases q : k = γ.cnt
      · rw [q, upd_same]
      · rw [upd_ne _ _ q]
        by_cases q2 : k = p.f
        · rw [q2]; exact hd
        · rw [tn k q2 q] at hk; exact h.hear k hk
  refine ⟨⟨hI.hs, by show 1 ≤ γ.cnt + 1; omega, ?_, fun k hk => ?_, ?_, hI.top⟩, fun j' h1 h2 => ⟨tn j' h1 h2, upd_ne _ _ h2, fun _ => ⟨Nat.le_refl _, fun _ _ _ => rfl, fun _ h1 h2 => ⟨h1, h2⟩, fun _ _ _ => rfl, rfl, fun _ _ h => h, rfl, fun e => ?_, (fun e => by rw [hp] at e; cases e), Nat.le_refl _⟩⟩, fun t x y hx hy hT => ?_, fun j' h1 hw => ?_, rfl, ?_⟩
  · by_cases q : 0 = p.f
    · rw [q, tf]; simp
    · rw [tn 0 q (by have := hI.cnt; omega)]; exact hI.main
  · have hk' : γ.cnt + 1 ≤ k := hk
    rw [tn k (by omega) (by omega)]; exact hI.un k (by omega)
  · show match γ.ph with | none => _ | some p => _
    rw [hp]; exact hC
  · unfold Gho.fd at e; rw [hp] at e; exact absurd e.symm h1
  · have hmem : ∀ op ∈ #[x, y], op.act.touch? = none ∧ op.g < γ.cnt + 1 ∧ ∀ m, op.act ≠ .mark m := by
      intro op hop
      simp only [List.mem_toArray, List.mem_cons, List.not_mem_nil, or_false] at hop
      rcases hop with rfl | rfl
      · exact ⟨by rw [hx.2]; rfl, by rw [hx.1]; omega, fun m => by rw [hx.2]; simp⟩
      · exact ⟨by rw [hy.2]; rfl, by rw [hy.1]; exact Nat.lt_succ_self _, fun m => by rw [hy.2]; simp⟩
    have hs : ∀ op ∈ #[x, y], op.act.touch? = none := fun op hop => (hmem op hop).1
    have hD : DTr γ.wh (t ++ #[x, y]) (γ.cnt + 1) := hT.d.silent (Nat.le_succ _) fun op hop => ⟨(hmem op hop).1, (hmem op hop).2.1⟩
    have habs : Deaf t γ.cnt = 0 := Go.ConcN.Deaf_absent fun m op hm e => by have := hT.d.gs m op hm; omega
    refine ⟨hD.anew (fun m op z hm hz hsh => .inl ⟨hsh, rfl⟩) (fun l h1 h2 => hD.own l h1 h2) (fun l h1 h2 k hk => ?_) fun _ _ _ q => q, fun k => ?_, hT.nrel.app fun op hop a => (hmem op hop).2.2 _, fun m a ha => hT.low m a (touch_silent hs ha), fun p' hp' k hk hk2 hsd => ?_, fun m hc => ?_⟩
    · by_cases q : k = γ.cnt
      · subst q
        have hf : PermW t p.f l := hT.d.ro l h1 h2 p.f ⟨hfc, by rw [ht]; simp⟩
        exact PermW.pass hf hs fun m hm => forked_knows hx hy (by rw [hT.deaf]; exact hd) habs hm
      · refine hD.ro l h1 h2 k ⟨by have : k < γ.cnt + 1 := hk.1; omega, fun e => hk.2 ?_⟩
        rw [tn k (fun q2 => by subst q2; rw [ht] at e; cases e) q]; exact e
    · rw [Go.ConcN.Deaf_still t k _ fun op hop => ⟨(hmem op hop).2.2 _, (hmem op hop).2.2 _⟩]
      show _ = upd γ.deaf γ.cnt 0 k
      by_cases q : k = γ.cnt
      · rw [q, upd_same, habs]
      · rw [upd_ne _ _ q]; exact hT.deaf k
    · have hp'' : γ.ph = some p' := hp'
      rw [hp] at hp''
      obtain rfl := Option.some.inj hp''
      exfalso
      have hk2' : k < γ.cnt + 1 := hk2
      by_cases q : k = γ.cnt
      · rw [q, tc] at hsd; exact hsd
      · rw [tn k (by have := h.fd; omega) q] at hsd
        have := h.early hcl k hk (by omega)
        cases e : γ.tag k <;> rw [e] at this hsd <;> first | exact this | exact hsd
    · have hlt : m < t.size := by
        obtain ⟨z, hz, _⟩ := hc
        obtain ⟨_, q, _⟩ := touch_of (touch_silent hs hz)
        exact lt_size_of_getElem? q
      rcases hT.old m ((counts_old hlt).1 hc) with q | ⟨p', q1, k, q2, q3⟩
      · exact .inl (q.app _)
      · exact .inr ⟨p', q1, k, q2, by rw [g?_old hlt]; exact q3⟩
  · obtain ⟨p'', q1, q2, q3, _⟩ := hw
    rw [hp] at q1
    obtain rfl := Option.some.inj q1
    exact absurd q2 h1
  · show γ.cnt + 1 ≤ top
    have := hI.top
    rw [hp] at this
    dsimp only at this
    omega
end
end Go.Proofs.YtbicafgmfgdckaaDoor
namespace Go.Proofs.YtbicafgmfgdckaaDoor
open Go Go.Conc
open Go.ConcR (KK wgBlock WgAt stA smA rd wr mk)
open Go.ConcN (sumTo upd upd_same upd_ne RelBy PermW WgLive)

section
variable {ty : TypeId} {top : Nat} {γ γ' : Gho} {p : Ph} {w w' : World} {i j k n : Nat} {t u : Trace} {P : Program} {Post : Value → World → Prop} {es : Array Event} {tag : Nat → Tag} {x : Tag}
/-! ### a block that will be shared -/
def Gho.share (γ : Gho) : Gho := { γ with hs := γ.hs + 1, bk := upd γ.bk γ.hs (.shd 0) }
theorem do_share (hI : GInv ty top γ w) (hp : γ.ph = none) (hsz : w'.heap.size = w.heap.size + 1) (ht : w'.tape = w.tape) (hh : ∀ b, b < w.heap.size → w'.heap[b]? = w.heap[b]?) (hos : outs w' = outs w) (wk : Prop) : (crewPact P ty top Post).Do 0 γ w γ.share w' wk #[] := by
  have hlt : ∀ b, b < γ.hs → γ.share.bk b = γ.bk b := fun b hb => upd_ne _ _ (by omega)
  refine ⟨hI.frame (by rw [hsz, ← hI.hs]; rfl) rfl rfl rfl rfl rfl rfl hlt (fun b h1 h2 => ?_) (fun _ b h1 h2 => ?_) (fun _ _ => rfl) fun b hb _ => hh b (by rw [← hI.hs]; exact hb), fun j hj => ⟨rfl, rfl, fun e => absurd ((hI.free hp).2.1 j hj) e⟩, fun t fn pos hT => ?_, fun j cases c r hj hof hc hr => ?_, .inr fun j hj hw => ?_, rfl, hos⟩
  · have h2' : b < γ.hs + 1 := h2
    have : b = γ.hs := by omega
    subst this
    rw [show γ.share.bk γ.hs = .shd 0 from upd_same _ _ _]; simp
  · have h2' : b < γ.hs + 1 := h2
    have : b = γ.hs := by omega
    subst this
    exact .inl ⟨0, upd_same _ _ _⟩
  · rw [ofEvents_nil]
    exact ⟨hT.d.low hT.low hlt rfl fun _ h => h, hT.deaf, hT.nrel, fun m a ha => Nat.lt_succ_of_lt (hT.low m a ha), fun p' hp' => (by have hp'' : γ.ph = some p' := hp'; rw [hp] at hp''; cases hp''), hT.old⟩
  · obtain ⟨p', q, _⟩ := hof; rw [hp] at q; cases q
  · obtain ⟨p', q, _⟩ := hw; rw [hp] at q; cases q
/-! ### a phase begins -/
open Classical in
noncomputable def Gho.enter (γ : Gho) (p : Ph) (Fx : Nat → Prop) : Gho :=
  { γ with tag := upd γ.tag 0 (.add 0 0), ph := some p, next := 0, done := fun _ => False, ow := fun _ _ => some 0, bk := fun b => if Fx b then .fix else if b = p.out then .mix else γ.bk b }
structure Begins (ty : TypeId) (top : Nat) (γ : Gho) (w : World) (p : Ph) (Fx : Nat → Prop) : Prop where
  f : p.f = 0
  b : p.b = γ.cnt
  W : 1 ≤ p.W
  small : p.W < 2147483647
  top : γ.cnt + p.W ≤ top
  wg : p.wg < γ.hs ∧ γ.bk p.wg = .shd 0
  jobs : p.jobs < γ.hs ∧ γ.bk p.jobs = .shd 0
  stop : p.stop < γ.hs ∧ γ.bk p.stop = .shd 0
  ne : p.jobs ≠ p.wg ∧ p.stop ≠ p.wg ∧ p.jobs ≠ p.stop
  out : p.out < γ.hs ∧ γ.bk p.out = .priv 0
  fx : ∀ b, Fx b → b < γ.hs ∧ γ.bk b = .priv 0 ∧ b ≠ p.out
  H : ∀ b, Fx b → w.heap[b]? = p.H b
  wgm : WgAt ty p.wg w 0 0
  jobsm : w.heap[p.jobs]? = some (.chan 0 #[] false 0 0 false)
  stopm : w.heap[p.stop]? = some (.chan 0 #[] false 0 0 false)
  outm : ∃ cs, w.heap[p.out]? = some (.cells cs p.oty (0, 0)) ∧ cs.size = 32 * p.n
  deaf : γ.deaf 0 = 0
theorem do_enter {Fx : Nat → Prop} (hI : GInv ty top γ w) (hp : γ.ph = none) (B : Begins ty top γ w p Fx) (wk : Prop) : (crewPact P ty top Post).Do 0 γ w (γ.enter p Fx) w wk #[] := by
  obtain ⟨f1, f2, f3⟩ := hI.free hp
  have hfx : ∀ b, Fx b → (γ.enter p Fx).bk b = .fix := fun b h => by simp only [Gho.enter]; rw [if_pos h]
  have hout : (γ.enter p Fx).bk p.out = .mix := by
    simp only [Gho.enter]; rw [if_neg (fun q => (B.fx _ q).2.2 rfl)]; simp
  have hrest : ∀ b, ¬ Fx b → b ≠ p.out → (γ.enter p Fx).bk b = γ.bk b := fun b h1 h2 => by simp only [Gho.enter]; rw [if_neg h1, if_neg h2]
  have hshd : ∀ b s, γ.bk b = .shd s → (γ.enter p Fx).bk b = .shd s := fun b s e => (hrest b (fun q => by have := (B.fx b q).2.1; rw [e] at this; cases this) fun q => by have := B.out.2; rw [← q, e] at this; cases this).trans e
  have hshd2 : ∀ b s, (γ.enter p Fx).bk b = .shd s → γ.bk b = .shd s := fun b s e => by
    by_cases q : Fx b
    · rw [hfx b q] at e; cases e
    · by_cases q2 : b = p.out
      · rw [q2, hout] at e; cases e
      · rwa [hrest b q q2] at e
  have tz : (γ.enter p Fx).tag 0 = .add 0 0 := by show upd γ.tag 0 (Tag.add 0 0) 0 = _; exact upd_same _ _ _
  have tn : ∀ k, k ≠ 0 → (γ.enter p Fx).tag k = .gone := fun k hk => by show upd γ.tag 0 (Tag.add 0 0) k = _; rw [upd_ne _ _ hk]; exact f2 k hk
  have hb0 : 0 < p.b := by rw [B.b]; exact hI.cnt
  have hC : Core ty (γ.enter p Fx) p w := by
    refine ⟨by rw [B.f]; exact hshd _ _ B.wg.2, by rw [B.f]; exact hshd _ _ B.jobs.2, by rw [B.f]; exact hshd _ _ B.stop.2, hout, B.ne, fun b hb e => ?_, by rw [B.f]; exact hb0, by rw [B.f, tz]; trivial, ?_, fun j q e => ?_, fun k h1 h2 => tn k (by rw [B.f] at h1; exact h1), fun k hk => by rw [tn k (by omega)]; trivial, fun _ k h1 h2 => ?_, ⟨0, 0, B.wgm, ?_⟩, ⟨0, by rw [B.f, tz]; exact B.jobsm⟩, B.stopm, ?_, fun z hz => absurd hz (Nat.not_lt_zero _), Nat.zero_le _, (fun e => by rw [B.f, tz] at e; cases e), fun k z e => ?_, fun _ _ _ _ => by rw [B.f]; rfl, fun _ => by simp [Gho.enter], fun k hk => ?_, fun b hb e => ?_, B.small, B.W⟩
    · have hb' : b < γ.hs := hb
      by_cases q : Fx b
      · exact B.H b q
      · by_cases q2 : b = p.out
        · rw [q2, hout] at e; cases e
        · rw [hrest b q q2] at e
          rcases f3 b hb' with ⟨s, r⟩ | r <;> (rw [e] at r; cases r)
    · show γ.cnt = p.b + (γ.enter p Fx).started p
      unfold Gho.started
      rw [B.f, tz]; exact B.b.symm
    · rw [B.f, tz] at e; injection e with e1 e2; subst e1 e2; exact ⟨Nat.zero_le _, .inl rfl, rfl⟩
    · have h2' : k < γ.cnt := h2
      rw [B.b] at h1; omega
    · have hm := WMode.opn (tag := (γ.enter p Fx).tag) (p := p) (by rw [B.f, tz]; trivial) fun k hk => by rw [tn k (by omega)]; exact id
      have hv : vcT (γ.enter p Fx).tag p = 0 := vc_all (n := 0) (fun k h1 h2 => by omega) (fun k hk => by rw [tn k (by omega)]; rfl) (Nat.zero_le _)
      rw [hv, B.f, tz] at hm
      simpa [Tag.pend] using hm
    · obtain ⟨cs, q1, q2⟩ := B.outm
      exact ⟨cs, q1, q2, fun x _ hd => hd.elim⟩
    · by_cases q : k = 0
      · rw [q, tz] at e; cases e
      · rw [tn k q] at e; cases e
    · by_cases q : k = 0
      · rw [q]; exact B.deaf
      · rw [tn k q] at hk; rcases hk with e | e <;> cases e
    · have hb' : b < γ.hs := hb
      refine Classical.byContradiction fun q2 => ?_
      by_cases q : Fx b
      · rw [hfx b q] at e; cases e
      · rw [hrest b q q2] at e
        rcases f3 b hb' with ⟨s, r⟩ | r <;> (rw [e] at r; cases r)
  refine ⟨⟨hI.hs, hI.cnt, by rw [tz]; simp, fun k hk => tn k (by have := hI.cnt; have hk' : γ.cnt ≤ k := hk; omega), ?_, ?_⟩, fun j hj => ⟨upd_ne _ _ hj, rfl, fun e => absurd (f2 j hj) e⟩, fun t fn pos hT => ?_, fun _ _ _ _ _ _ _ _ => .inl rfl, .inr fun j hj hw => ?_, rfl, rfl⟩
  · show Core ty (γ.enter p Fx) p w; exact hC
  · show p.b + p.W ≤ top; rw [B.b]; exact B.top
  · rw [ofEvents_nil]
    have hsh : ∀ l, (γ.enter p Fx).wh.sh l → γ.wh.sh l := fun l h => by
      rcases h with ⟨s, e⟩ | ⟨_, e⟩
      · exact .inl ⟨s, hshd2 _ s e⟩
      · exfalso; cases l <;> simp [Gho.mixAt, Gho.enter] at e
    have fresh : ∀ l, ¬ blk l < γ.hs → ∀ i a, touchAt t i = some a → a.loc ≠ l := fun l hl i a ha e => hl (e ▸ hT.low i a ha)
    have hperm : ∀ l, ¬ (γ.enter p Fx).wh.sh l → Perm t 0 l := fun l hs => by
      by_cases hl : blk l < γ.hs
      · rcases f3 _ hl with ⟨s, e⟩ | e
        · exact absurd (.inl ⟨s, hshd _ s e⟩) hs
        · have h1 : ¬ γ.wh.sh l := by
            rintro (⟨s, q⟩ | ⟨q, _⟩) <;> (rw [e] at q; cases q)
          have h2 : ¬ γ.wh.ro l := fun q => by have q' : γ.bk (blk l) = .fix := q; rw [e] at q'; cases q'
          have h3 : γ.wh.own l = 0 := by simp only [Gho.wh, e]
          have := hT.d.own l h1 h2
          rwa [h3] at this
      · exact Perm.fresh (fresh l hl)
    refine ⟨hT.d.anew (fun m op z hm hz hs => .inl ⟨hsh _ hs, ?_⟩) (fun l hs hr => ?_) (fun l hs hr k hk => ?_) fun m a ha hs => ?_, hT.deaf, hT.nrel, hT.low, fun p' hp' k hk hk2 => ?_, fun m hc => ?_⟩
    · simp only [Gho.wh]
      rcases hs with ⟨s, e⟩ | ⟨_, e⟩
      · rw [e, hshd2 _ s e]
      · exfalso; cases hzl : z.loc <;> simp [Gho.mixAt, Gho.enter, hzl] at e
    · by_cases hl : blk l < γ.hs
      · have : (γ.enter p Fx).wh.own l = 0 := by
          simp only [Gho.wh]
          by_cases q : Fx (blk l)
          · rw [hfx _ q]
          · by_cases q2 : blk l = p.out
            · rw [q2, hout]
              cases l <;> rfl
            · rw [hrest _ q q2]
              rcases f3 _ hl with ⟨s, e⟩ | e <;> rw [e]
        rw [this]
        exact hperm l hs
      · exact Perm.fresh (fresh l hl)
    · have hk0 : k = 0 := Classical.byContradiction fun q => hk.2 (tn k q)
      subst hk0
      exact PermW.of (hperm l hs)
    · rcases hs with ⟨s, e⟩ | ⟨e, _⟩
      · exact .inl ⟨s, hshd _ s e⟩
      · exfalso
        rcases f3 _ (hT.low m a ha) with ⟨s, q⟩ | q <;> (rw [e] at q; cases q)
    · have hp'' : some p = some p' := hp'
      obtain rfl := Option.some.inj hp''
      have hk2' : k < γ.cnt := hk2
      rw [B.b] at hk; omega
    · rcases hT.old m hc with q | ⟨p', q, _⟩
      · left
        have e1 : γ.fd = 0 := by unfold Gho.fd; rw [hp]
        have e2 : (γ.enter p Fx).fd = 0 := B.f
        rw [e2]; rw [e1] at q; exact q
      · rw [hp] at q; cases q
  · obtain ⟨p', q, _⟩ := hw; rw [hp] at q; cases q
end
end Go.Proofs.YtbicafgmfgdckaaDoor
namespace Go.Proofs.YtbicafgmfgdckaaDoor
open Go Go.Conc
open Go.ConcR (KK wgBlock WgAt stA smA rd wr mk)
open Go.ConcN (sumTo upd upd_same upd_ne RelBy PermW WgLive)

section
variable {ty : TypeId} {top : Nat} {γ γ' : Gho} {p : Ph} {w w' : World} {i j k n : Nat} {t u : Trace} {P : Program} {Post : Value → World → Prop} {es : Array Event} {tag : Nat → Tag} {x : Tag}
def Gho.over (γ : Gho) : Gho := { γ with tag := upd γ.tag 0 .solo, ph := none, bk := fun b => match γ.bk b with
    | .shd s => .shd s
    | _ => .priv 0 }
/-- What stands behind a phase. -/
structure Done (p : Ph) (γ : Gho) (w : World) : Prop where
  next : γ.next = p.n
  out : ∃ cs, w.heap[p.out]? = some (.cells cs p.oty (0, 0)) ∧ cs.size = 32 * p.n ∧ ∀ x, x < p.n → ∀ o, o < 32 → cs[32 * x + o]? = some (p.val x o)
  fix : ∀ b, b < γ.hs → γ.bk b = .fix → w.heap[b]? = p.H b
theorem thru_done (hI : GInv ty top γ w) (hp : γ.ph = some p) (ht : γ.tag p.f = .thru) : Done p γ w ∧ ∀ i, p.b ≤ i → γ.tag i = .gone := by
  have h := hI.core hp
  have hg : ∀ i, p.b ≤ i → γ.tag i = .gone := by
    obtain ⟨st, sm, q1, q2⟩ := h.wgm
    cases q2 with
    | opn q => rw [ht] at q; exact q.elim
    | reg q => rw [ht] at q; cases q
    | last _ _ q => rw [ht] at q; cases q
    | sema q => rw [ht] at q; cases q
    | fin _ q => exact q
  have hn := h.full (by rw [ht]; rfl)
  refine ⟨⟨hn, ?_, h.fix⟩, hg⟩
  obtain ⟨cs, q1, q2, q3⟩ := h.out
  refine ⟨cs, q1, q2, fun x hx => q3 x hx ?_⟩
  rcases h.job x (by rw [hn]; exact hx) with q | ⟨i, hb, q⟩
  · exact q
  · rw [hg i hb] at q; cases q
theorem do_over (hI : GInv ty top γ w) (hp : γ.ph = some p) (hf : p.f = 0) (ht : γ.tag 0 = .thru) (hd : γ.deaf 0 = 0) (wk : Prop) : (crewPact P ty top Post).Do 0 γ w γ.over w wk #[mk (.acquire (stA p.wg))] := by
  have h := hI.core hp
  obtain ⟨_, hg⟩ := thru_done hI hp (by rw [hf]; exact ht)
  have tz : γ.over.tag 0 = .solo := by show upd γ.tag 0 Tag.solo 0 = _; exact upd_same _ _ _
  have tn0 : ∀ k, k ≠ 0 → γ.tag k = .gone := fun k hk => by
    by_cases hb : p.b ≤ k
    · exact hg k hb
    · exact h.rest k (by rw [hf]; exact hk) (by omega)
  have tn : ∀ k, k ≠ 0 → γ.over.tag k = .gone := fun k hk => by show upd γ.tag 0 Tag.solo k = _; rw [upd_ne _ _ hk]; exact tn0 k hk
  have hshd : ∀ b s, γ.bk b = .shd s → γ.over.bk b = .shd s := fun b s e => by simp only [Gho.over, e]
  have hother : ∀ b, (∀ s, γ.bk b ≠ .shd s) → γ.over.bk b = .priv 0 := fun b hb => by
    simp only [Gho.over]
  have hshd2 : ∀ b s, γ.over.bk b = .shd s → γ.bk b = .shd s := fun b s e => by
    cases q : γ.bk b <;> simp only [Gho.over, q] at e <;> first | exact e | cases e
  refine ⟨⟨hI.hs, hI.cnt, by rw [tz]; simp, fun k hk => tn k (by have := hI.cnt; have hk' : γ.cnt ≤ k := hk; omega), ⟨tz, tn, fun b hb => ?_⟩, trivial⟩, fun j hj => ⟨(tn j hj).trans (tn0 j hj).symm, rfl, fun e => absurd (tn0 j hj) e⟩, fun t fn pos hT => ?_, fun _ _ _ _ _ _ _ _ => .inl rfl, .inr fun j hj hw => ?_, rfl, rfl⟩
  · cases q : γ.bk b with
    | shd s => exact .inl ⟨s, hshd b s q⟩
    | _ => exact .inr (hother b (by rw [q]; simp))
  · have e1 : MemOp.ofEvents 0 fn pos #[mk (.acquire (stA p.wg))] = #[{ g := 0, fn, pos, act := .mark (.acquire (stA p.wg)) }] := by rw [ofEvents_eq]; simp [Go.ConcR.ofEvent_mk]
    rw [e1]
    generalize hy : ({ g := 0, fn, pos, act := .mark (.acquire (stA p.wg)) } : MemOp) = y
    have hyg : y.g = 0 ∧ y.act = .mark (.acquire (stA p.wg)) := by rw [← hy]; exact ⟨rfl, rfl⟩
    have hmem : ∀ op ∈ #[y], op.act.touch? = none ∧ op.g < γ.cnt ∧ (∀ a, op.act ≠ .mark (.release a)) ∧ op.act ≠ .mark .disable ∧ op.act ≠ .mark .enable := fun op hop => by
      rw [one_op hop, hyg.2]
      exact ⟨rfl, by rw [hyg.1]; exact hI.cnt, by simp, by simp, by simp⟩
    have hs : ∀ op ∈ #[y], op.act.touch? = none := fun op hop => (hmem op hop).1
    have hD : DTr γ.wh (t ++ #[y]) γ.cnt := hT.d.silent (Nat.le_refl _) fun op hop => ⟨(hmem op hop).1, (hmem op hop).2.1⟩
    have hN : NoRel (t ++ #[y]) := hT.nrel.app fun op hop => (hmem op hop).2.2.1
    have efd : γ.fd = 0 := by unfold Gho.fd; rw [hp]; exact hf
    have all : ∀ m, t.counts m → Knows (t ++ #[y]) 0 m := fun m hc => by
      rcases hT.old m hc with q | ⟨p', q1, k, q2, q3⟩
      · rw [efd] at q; exact q.app _
      · rw [hp] at q1
        obtain rfl := Option.some.inj q1
        have hkc : k < γ.cnt := by
          obtain ⟨op, ho, e⟩ := Option.map_eq_some_iff.1 q3
          rw [← e]; exact hT.d.gs m op ho
        obtain ⟨r, hr⟩ := hT.rel p hp k q2 hkc (by rw [hg k q2]; trivial)
        exact acquired_own hr hN hyg (by rw [hT.deaf]; exact hd) q3 hc
    have hsh : ∀ l, γ.over.wh.sh l → γ.wh.sh l := fun l h => by
      rcases h with ⟨s, e⟩ | ⟨e, _⟩
      · exact .inl ⟨s, hshd2 _ s e⟩
      · exfalso
        cases q : γ.bk (blk l) <;> simp only [Gho.over, q] at e <;> cases e
    have hsh2 : ∀ m a, touchAt t m = some a → γ.wh.sh a.loc → γ.over.wh.sh a.loc := fun m a ha h' => by
      rcases h' with ⟨s, e⟩ | ⟨e, e2⟩
      · exact .inl ⟨s, hshd _ s e⟩
      · exfalso
        have hb := h.mixo _ (hT.low m a ha) e
        cases hl : a.loc with
        | cell ad => rw [hl] at hb e2; simp only [blk] at hb; simp only [Gho.mixAt, hb] at e2; exact h.owm _ e2
        | _ => rw [hl] at e2; simp [Gho.mixAt] at e2
    have hperm : ∀ l, ¬ γ.over.wh.sh l → Perm (t ++ #[y]) 0 l := fun l hns m a ha e => by
      have ha' := touch_silent hs ha
      subst e
      exact all m (hT.d.counts ha' fun q => hns (hsh2 m a ha' q))
    refine ⟨hD.anew (fun m op z hm hz hs' => .inl ⟨hsh _ hs', ?_⟩) (fun l hs' hr => ?_) (fun l hs' hr => ?_) fun m a ha hs' => hsh2 m a (touch_silent hs ha) hs', fun k => ?_, hN, fun m a ha => hT.low m a (touch_silent hs ha), (fun p' hp' => by cases hp'), fun m hc => ?_⟩
    · rcases hs' with ⟨s, e⟩ | ⟨e, _⟩
      · simp only [Gho.wh]; rw [e, hshd2 _ s e]
      · exfalso
        cases q : γ.bk (blk z.loc) <;> simp only [Gho.over, q] at e <;> cases e
    · have : γ.over.wh.own l = 0 := by
        have hb := hother (blk l) fun s e => hs' (.inl ⟨s, hshd _ s e⟩)
        simp only [Gho.wh, hb]
      rw [this]
      exact hperm l hs'
    · exfalso
      have hr' : γ.over.bk (blk l) = .fix := hr
      cases q : γ.bk (blk l) <;> simp only [Gho.over, q] at hr' <;> cases hr'
    · rw [Go.ConcN.Deaf_still t k _ fun op hop => (hmem op hop).2.2.2]; exact hT.deaf k
    · have hlt : m < t.size := by
        obtain ⟨z, hz, _⟩ := hc
        obtain ⟨_, q, _⟩ := touch_of (touch_silent hs hz)
        exact lt_size_of_getElem? q
      exact .inl (all m ((counts_old hlt).1 hc))
  · obtain ⟨p', q1, q2, _⟩ := hw
    rw [hp] at q1
    obtain rfl := Option.some.inj q1
    rw [hf] at q2
    exact absurd q2 hj
/-- At the end of all: no race, and all is handed over. -/
theorem over_race (hI : GInv ty top γ w) (hp : γ.ph = none) (hT : GTr γ t) : (∀ said, ¬ Race said t) ∧ t.HandedOver := by
  refine ⟨hT.d.nr, fun i g hg hne hc => ?_⟩
  rcases hT.old i hc with q | ⟨p, q, _⟩
  · have e1 : γ.fd = 0 := by unfold Gho.fd; rw [hp]
    rw [e1] at q
    obtain ⟨m, z, h1, h2, h3⟩ := q
    refine ⟨m, by simp [Trace.g?, h1, h2], ?_⟩
    rcases h3 with e | e
    · subst e
      simp [Trace.g?, h1, h2] at hg
      exact absurd hg.symm hne
    · exact e
  · rw [hp] at q; cases q
end
end Go.Proofs.YtbicafgmfgdckaaDoor
