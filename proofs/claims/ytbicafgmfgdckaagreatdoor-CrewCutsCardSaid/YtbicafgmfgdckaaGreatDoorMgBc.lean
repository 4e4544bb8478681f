/- The crew's pact: main starts who has the phase, and collects; the phase is over; the channel is closed; a worker is about to hand. For any program. The crew's pact: how a goroutine's life is shown, a piece at a time. For any program. -/
import Derived.Test.YtbicafgmfgdckaaGreatDoorMgBb
namespace Go.Proofs.YtbicafgmfgdckaaGreatDoor
open Go Go.Conc
open Go.ConcR (KK wgBlock WgAt stA smA rd wr mk)
open Go.ConcN (sumTo upd upd_same upd_ne RelBy PermW WgLive)

section
variable {ty : TypeId} {top : Nat} {γ γ' : Gho} {p : Ph} {c : Col} {w w' : World} {i j k n : Nat} {t u : Trace} {P : Program} {Post : Value -> World -> Prop} {es : Array Event} {tag : Nat -> Tag} {x : Tag}
open Classical in
noncomputable def Gho.fork (γ : Gho) (c : Col) (Fx : Nat -> Prop) : Gho :=
 { γ with cnt := γ.cnt + 1, tag := upd (upd γ.tag 0 .coll) γ.cnt .pre, deaf := upd γ.deaf γ.cnt 0, col := some c, done := fun _ => False, bk := fun b => if Fx b then .fix 0 else γ.bk b }
structure Forks (top : Nat) (γ : Gho) (w : World) (c : Col) (Fx : Nat -> Prop) : Prop where
 ph : γ.ph = none
 col : γ.col = none
 f : c.f = γ.cnt
 dn : γ.bk c.dn = .shd 0
 dnm : w.heap[c.dn]? = some (.chan 0 #[] false 0 0 false)
 fx : ∀ b, Fx b -> b < γ.hs /\ γ.bk b = .priv 0
 H : ∀ b, Fx b -> w.heap[b]? = c.H b
 top : c.f + 1 + c.W <= top
 deaf : γ.deaf 0 = 0
theorem do_fork {Fx : Nat -> Prop} (hI : GInv ty top γ w) (B : Forks top γ w c Fx) : (crewPact P ty top Post).Spawns 0 γ w (γ.fork c Fx) := by
 obtain ⟨f1, f2, f3⟩ := hI.free B.ph B.col
 have hcnt := hI.cnt
 have hfx : ∀ b, Fx b -> (γ.fork c Fx).bk b = .fix 0 := fun b h => by simp only [Gho.fork]; rw [if_pos h]
 have hrest : ∀ b, ¬ Fx b -> (γ.fork c Fx).bk b = γ.bk b := fun b h1 => by simp only [Gho.fork]; rw [if_neg h1]
 have hshd : ∀ b s, γ.bk b = .shd s -> (γ.fork c Fx).bk b = .shd s := fun b s e => (hrest b fun q => by have := (B.fx b q).2; rw [e] at this; cases this).trans e
 have hshd2 : ∀ b s, (γ.fork c Fx).bk b = .shd s -> γ.bk b = .shd s := fun b s e => by
  by_cases q : Fx b
  ·rw [hfx b q] at e; cases e
  ·rwa [hrest b q] at e
 have tz : (γ.fork c Fx).tag 0 = .coll := by
  show upd (upd γ.tag 0 Tag.coll) γ.cnt Tag.pre 0 = _
  rw [upd_ne _ _ (by omega), upd_same]
 have tc : (γ.fork c Fx).tag γ.cnt = .pre := by show upd (upd γ.tag 0 Tag.coll) γ.cnt Tag.pre γ.cnt = _; exact upd_same _ _ _
 have tn : ∀ k, k ≠ 0 -> k ≠ γ.cnt -> (γ.fork c Fx).tag k = .gone := fun k h1 h2 => by
  show upd (upd γ.tag 0 Tag.coll) γ.cnt Tag.pre k = _
  rw [upd_ne _ _ h2, upd_ne _ _ h1]; exact f2 k h1
 have noph : ∀ {q : Prop} {p' : Ph}, (γ.fork c Fx).ph = some p' -> q := fun {_ p'} q => by have q' : γ.ph = some p' := q; rw [B.ph] at q'; cases q'
 have onlyc : ∀ {c'}, (γ.fork c Fx).col = some c' -> c = c' := fun q => Option.some.inj q
 have nomix : ∀ b, b < γ.hs -> (γ.fork c Fx).bk b ≠ .mix := fun b hb q => by
  by_cases r : Fx b
  ·rw [hfx b r] at q; cases q
  ·rw [hrest b r] at q
   rcases f3 b hb with ⟨s, e⟩ | e <;> (rw [q] at e; cases e)
 refine ⟨⟨hI.hs, Nat.le_succ_of_le hcnt, by rw [tz]; simp, fun k hk => ?_, (fun _ q => by cases q), fun p' q => noph q, fun c' hc => ?_, fun c' hc _ => ?_, fun p' c q => noph q, fun p' q => noph q, ⟨fun p' q => noph q, fun c' hc => by obtain rfl := onlyc hc; exact B.top⟩⟩, fun j' h1 h2 => ⟨(tn j' h1 h2).trans (f2 j' h1).symm, upd_ne _ _ h2, ⟨rfl, rfl⟩, fun e => absurd (f2 j' h1) e⟩, fun t x y hx hy hT => ?_, fun j' h1 hw => ?_, rfl, ?_⟩
 ·have hk' : γ.cnt + 1 <= k := hk
  exact tn k (by omega) (by omega)
 ·obtain rfl := onlyc hc
  refine ⟨tz, ⟨by rw [B.f]; omega, by rw [B.f]; exact Nat.lt_succ_self _, by rw [B.f]; show γ.cnt + 1 <= γ.cnt + 1 + c.W; omega⟩, hshd _ _ B.dn, ⟨0, by rw [B.f, tc]; exact B.dnm⟩, fun b hb q => ?_, (upd_ne _ _ (by omega)).trans B.deaf, fun k z e => ?_⟩
  ·by_cases r : Fx b
   ·exact B.H b r
   ·rw [hrest b r] at q
    rcases f3 b hb with ⟨s, e⟩ | e <;> (rw [q] at e; cases e)
  ·by_cases q : k = 0
   ·rw [q, tz] at e; cases e
   ·by_cases q2 : k = γ.cnt
    ·rw [q2, tc] at e; cases e
    ·rw [tn k q q2] at e; cases e
 ·obtain rfl := onlyc hc
  refine ⟨fun k h1 h2 => tn k h1 (by rw [<- B.f]; exact h2), .inl ⟨by rw [B.f, tc], fun _ => id⟩, nomix, fun _ => ⟨by rw [B.f]; rfl, fun b m hb q => ?_⟩⟩
  by_cases r : Fx b
  ·rw [hfx b r] at q; injection q with q; exact q.symm
  ·rw [hrest b r] at q
   rcases f3 b hb with ⟨s, e⟩ | e <;> (rw [q] at e; cases e)
 ·have hmem : ∀ op ∈ #[x, y], op.act.touch? = none /\ op.g < γ.cnt + 1 /\ ∀ m, op.act ≠ .mark m := by
   intro op hop
   simp only [List.mem_toArray, List.mem_cons, List.not_mem_nil, or_false] at hop
   rcases hop with rfl | rfl
   ·exact ⟨by rw [hx.2]; rfl, by rw [hx.1]; omega, fun m => by rw [hx.2]; simp⟩
   ·exact ⟨by rw [hy.2]; rfl, by rw [hy.1]; exact Nat.lt_succ_self _, fun m => by rw [hy.2]; simp⟩
  have hs : ∀ op ∈ #[x, y], op.act.touch? = none := fun op hop => (hmem op hop).1
  have hD : DTr γ.wh (t ++ #[x, y]) (γ.cnt + 1) := hT.d.silent (Nat.le_succ _) fun op hop => ⟨(hmem op hop).1, (hmem op hop).2.1⟩
  have habs : Deaf t γ.cnt = 0 := Go.ConcN.Deaf_absent fun m op hm e => by have := hT.d.gs m op hm; omega
  have old : ∀ {m}, (t ++ #[x, y]).counts m -> m < t.size := fun {m} hc => by
   obtain ⟨x, hx, _⟩ := hc
   obtain ⟨_, q, _⟩ := touch_of (touch_silent hs hx)
   exact lt_size_of_getElem? q
  have hma : ∀ l, (γ.fork c Fx).mixAt l = γ.mixAt l := fun l => mix_same (γ' := γ.fork c Fx) rfl l
  have nm0 : ∀ b, b < γ.hs -> γ.bk b ≠ .mix := fun b hb q => by rcases f3 b hb with ⟨s, e⟩ | e <;> (rw [q] at e; cases e)
  have nf0 : ∀ b m, b < γ.hs -> γ.bk b ≠ .fix m := fun b m hb q => by rcases f3 b hb with ⟨s, e⟩ | e <;> (rw [q] at e; cases e)
  have fresh : ∀ l, ¬ blk l < γ.hs -> ∀ i a, touchAt (t ++ #[x, y]) i = some a -> a.loc ≠ l := fun l hl i a ha e => hl (e ▸ hT.low i a (touch_silent hs ha))
  have nsh : ∀ l, ¬ (γ.fork c Fx).wh.sh l -> blk l < γ.hs -> ¬ γ.wh.sh l := fun l hs hl q => by
   rcases q with ⟨s, e⟩ | ⟨e, _⟩
   ·exact hs (.inl ⟨s, hshd _ s e⟩)
   ·exact nm0 _ hl e
  refine ⟨hD.anew (fun m op z hm hz hsh => ?_) (fun l h1 h2 => ?_) (fun l h1 h2 k hk => ?_) fun m a ha hsh => ?_, fun k => ?_, hT.nrel.app fun op hop a => (hmem op hop).2.2 _, fun m a ha => hT.low m a (touch_silent hs ha), fun p' q => noph q, fun m hc => ?_, fun c' hc _ q => ?_, fun c' hc _ q => ?_⟩
  ·have hlt := hT.low m z (touch_silent hs (by rw [touchAt_of hm]; exact hz))
   rcases hsh with ⟨s, e⟩ | ⟨e, _⟩
   ·refine .inl ⟨.inl ⟨s, hshd2 _ s e⟩, ?_⟩
    simp only [Gho.wh]; rw [e, hshd2 _ s e]
   ·exact absurd e (nomix _ hlt)
  ·by_cases hl : blk l < γ.hs
   ·have e1 := hrest (blk l) fun q => h2 ⟨0, hfx _ q⟩
    have : (γ.fork c Fx).wh.own l = γ.wh.own l := by simp only [Gho.wh, e1, hma]
    rw [this]
    exact hD.own l (nsh l h1 hl) fun ⟨m, r⟩ => nf0 _ m hl r
   ·exact Perm.fresh (fresh l hl)
  ·by_cases hl : blk l < γ.hs
   ·have hF : Fx (blk l) := Classical.byContradiction fun q => by
     obtain ⟨m, r⟩ := h2
     rw [hrest _ q] at r
     exact nf0 _ m hl r
    have hP : Perm t 0 l := by
     have := hT.d.own l (nsh l h1 hl) fun ⟨m, r⟩ => nf0 _ m hl r
     have e3 : γ.wh.own l = 0 := by simp only [Gho.wh, (B.fx _ hF).2]
     rwa [e3] at this
    by_cases q : k = γ.cnt
    ·subst q
     exact PermW.pass (PermW.of hP) hs fun m hm => forked_knows hx hy (by rw [hT.deaf]; exact B.deaf) habs hm
    ·have hk0 : k = 0 := Classical.byContradiction fun r => hk.2.1 (tn k r q)
     subst hk0
     exact PermW.of (Perm.silent (show Perm t 0 l from hP) hs)
   ·exact fun i a ha e => absurd e (fresh l hl i a ha)
  ·have hlt := hT.low m a (touch_silent hs ha)
   rcases hsh with ⟨s, e⟩ | ⟨e, _⟩
   ·exact .inl ⟨s, hshd _ s e⟩
   ·exact absurd e (nm0 _ hlt)
  ·rw [Go.ConcN.Deaf_still t k _ fun op hop => ⟨(hmem op hop).2.2 _, (hmem op hop).2.2 _⟩]
   show _ = upd γ.deaf γ.cnt 0 k
   by_cases q : k = γ.cnt
   ·rw [q, upd_same, habs]
   ·rw [upd_ne _ _ q]; exact hT.deaf k
  ·have hlt := old hc
   rcases hT.old m ((counts_old hlt).1 hc) with q | ⟨lo, q, _⟩
   ·exact .inl (q.app _)
   ·unfold Gho.lo at q; rw [B.col, B.ph] at q; cases q
  ·obtain rfl := onlyc hc
   rw [B.f, tc] at q; cases q
  ·obtain rfl := onlyc hc
   rw [B.f, tc] at q; cases q
 ·obtain ⟨p', q1, _⟩ := hw
  rw [B.ph] at q1; cases q1
 ·show γ.cnt + 1 <= top
  have := B.top
  rw [B.f] at this
  omega
def Gho.rest (γ : Gho) (f : Nat) : Gho := { γ with tag := upd γ.tag f .fin, ph := none }
theorem do_rest (hI : GInv ty top γ w) (hp : γ.ph = some p) (hc : γ.col = some c) (ht : γ.tag p.f = .thru) (hd : γ.deaf p.f = 0) (wk : Prop) : (crewPact P ty top Post).Do p.f γ w (γ.rest p.f) w wk #[mk (.acquire (stA p.wg))] := by
 have h := hI.core _ hp
 obtain ⟨hD0, hg⟩ := thru_done hI hp ht
 have hK := hI.coll c hc
 obtain ⟨m1, m2, m3, m4, _⟩ := hI.mate p c hp hc
 have hf0 := hK.f.1
 have tf : (γ.rest p.f).tag p.f = .fin := by show upd γ.tag p.f Tag.fin p.f = _; exact upd_same _ _ _
 have tn : ∀ k, k ≠ p.f -> (γ.rest p.f).tag k = γ.tag k := fun k hk => by show upd γ.tag p.f Tag.fin k = _; exact upd_ne _ _ hk
 have others : ∀ k, k ≠ p.f -> k ≠ 0 -> γ.tag k = .gone := fun k h1 h2 => by
  by_cases hb : p.b <= k
  ·exact hg k hb
  ·exact h.rest k h1 (by omega) h2
 have noph : ∀ {q : Prop} {p' : Ph}, (γ.rest p.f).ph = some p' -> q := fun q => by cases q
 have hfc : p.f < γ.cnt := by rw [m1]; exact hK.f.2.1
 refine ⟨⟨hI.hs, hI.cnt, ?_, fun k hk => ?_, fun _ q => ?_, fun p' q => noph q, fun c' hc' => ?_, fun c' hc' _ => ?_, fun p' c q => noph q, fun p' q => noph q, ⟨fun p' q => noph q, hI.top.2⟩⟩, fun j hj => ⟨tn j hj, rfl, ⟨rfl, rfl⟩, fun e => ?_⟩, fun t fn pos hT => ?_, fun _ _ _ _ _ _ _ _ => .inl rfl, .inr fun j hj hw => ?_, rfl, .refl _⟩
 ·rw [tn 0 (by omega)]; exact hI.main
 ·have hk' : γ.cnt <= k := hk
  rw [tn k (by omega)]; exact hI.un k hk'
 ·have q' : γ.col = none := q
  rw [hc] at q'; cases q'
 ·obtain rfl := same_col hc hc'
  refine hK.retag hI.hs ((tn 0 (by omega)).trans hK.tag0) (by rw [<- m1, tf, ht]; rfl) rfl rfl hK.bdn (fun _ _ q => q) rfl (fun k y e => ?_) rfl fun _ _ _ => rfl
  by_cases q : k = p.f
  ·rw [q, tf] at e; cases e
  ·rw [tn k q] at e; exact ⟨e, rfl, rfl, rfl, fun _ _ _ q => ⟨q, rfl⟩⟩
 ·obtain rfl := same_col hc hc'
  refine ⟨fun k h1 h2 => (tn k (by rw [m1]; exact h2)).trans (others k (by rw [m1]; exact h2) h1), .inr ⟨.inl (by rw [<- m1]; exact tf), fun x hx => hD0.done x ?_⟩, h.nomix (by rw [m2]; simp), fun q => ?_⟩
  ·rw [hD0.next (by rw [m2]; simp), m3]; exact hx
  ·rw [<- m1, tf] at q; cases q
 ·have hj0 : j = 0 := Classical.byContradiction fun q => e (others j hj q)
  subst hj0
  have nc : ∀ {q : Prop}, γ.nc 0 -> q := fun q => by
   rcases q with q | q
   ·exact absurd rfl q
   ·rw [hc] at q; cases q
  have no : ∀ {q : Prop} {p'}, γ.on 0 p' -> q := fun {_ p'} q => by
   obtain rfl := same_ph hp q.1
   rcases q.2 with r | r
   ·exact absurd rfl r
   ·omega
  exact ⟨Nat.le_refl _, fun _ _ _ => rfl, fun _ h1 h2 => ⟨h1, h2⟩, fun _ _ _ => rfl, rfl, fun _ q => no q, fun _ q => nc q, rfl, fun _ q => no q, (fun _ q => by rw [hc] at q; cases q), (fun q => absurd rfl q), fun _ q => no q, fun _ _ _ => Iff.rfl, fun _ q => no q⟩
 ·have e1 : MemOp.ofEvents p.f fn pos #[mk (.acquire (stA p.wg))] = #[{ g := p.f, fn, pos, act := .mark (.acquire (stA p.wg)) }] := by rw [ofEvents_eq]; simp [Go.ConcR.ofEvent_mk]
  rw [e1]
  generalize hy : ({ g := p.f, fn, pos, act := .mark (.acquire (stA p.wg)) } : MemOp) = y
  have hyg : y.g = p.f /\ y.act = .mark (.acquire (stA p.wg)) := by rw [<- hy]; exact ⟨rfl, rfl⟩
  have hmem : ∀ op ∈ #[y], op.act.touch? = none /\ op.g < γ.cnt /\ (∀ a, op.act ≠ .mark (.release a)) /\ op.act ≠ .mark .disable /\ op.act ≠ .mark .enable := fun op hop => by
   rw [one_op hop, hyg.2]
   exact ⟨rfl, by rw [hyg.1]; exact hfc, by simp, by simp, by simp⟩
  have hs : ∀ op ∈ #[y], op.act.touch? = none := fun op hop => (hmem op hop).1
  have hD : DTr γ.wh (t ++ #[y]) γ.cnt := hT.d.silent (Nat.le_refl _) fun op hop => ⟨(hmem op hop).1, (hmem op hop).2.1⟩
  have hN : NoRel (t ++ #[y]) := hT.nrel.app fun op hop => (hmem op hop).2.2.1
  have elo : γ.lo = some c.f := by unfold Gho.lo; rw [hc]
  have old : ∀ {m}, (t ++ #[y]).counts m -> m < t.size := fun {m} hc => by
   obtain ⟨x, hx, _⟩ := hc
   obtain ⟨_, q, _⟩ := touch_of (touch_silent hs hx)
   exact lt_size_of_getElem? q
  refine ⟨hD.anew (fun m op z hm hz hsh => .inl ⟨hsh, rfl⟩) (fun l h1 h2 => hD.own l h1 h2) (fun l h1 h2 k hk => hD.ro l h1 h2 k ⟨hk.1, fun q => hk.2.1 ?_, hk.2.2⟩) fun _ _ _ q => q, fun k => ?_, hN, fun m a ha => hT.low m a (touch_silent hs ha), fun p' q => noph q, fun m hcn => ?_, fun c' hc' _ _ m hcn => ?_, fun c' hc' _ q => ?_⟩
  ·by_cases e : k = p.f
   ·rw [e, ht] at q; cases q
   ·rw [tn k e]; exact q
  ·rw [Go.ConcN.Deaf_still t k _ fun op hop => (hmem op hop).2.2.2]; exact hT.deaf k
  ·have hlt := old hcn
   rcases hT.old m ((counts_old hlt).1 hcn) with q | ⟨lo, q1, k, q2, q3⟩
   ·exact .inl (q.app _)
   ·refine .inr ⟨lo, ?_, k, q2, by rw [g?_old hlt]; exact q3⟩
    rw [elo] at q1
    unfold Gho.lo
    rw [show (γ.rest p.f).col = some c from hc]
    exact q1
  ·obtain rfl := same_col hc hc'
   have hlt := old hcn
   have hcn' := (counts_old hlt).1 hcn
   rcases hT.old m hcn' with q | ⟨lo, q1, k, q2, q3⟩
   ·exact .inl (q.app _)
   ·rw [elo] at q1
    obtain rfl := Option.some.inj q1
    right
    have hkc : k < γ.cnt := by
     obtain ⟨op, ho, e⟩ := Option.map_eq_some_iff.1 q3
     rw [<- e]; exact hT.d.gs m op ho
    rw [<- m1]
    by_cases e : k = p.f
    ·obtain ⟨op, ho, e2⟩ := Option.map_eq_some_iff.1 q3
     have := knows_own ho
     rw [e2, e] at this
     exact this.app _
    ·obtain ⟨r, hr⟩ := hT.rel p hp k (by omega) hkc (by rw [hg k (by omega)]; trivial)
     exact acquired_own hr hN hyg (by rw [hT.deaf]; exact hd) q3 hcn'
  ·obtain rfl := same_col hc hc'
   rw [<- m1, tf] at q; cases q
 ·obtain ⟨p', q1, q2, _⟩ := hw
  obtain rfl := same_ph hp q1
  exact absurd q2 hj
theorem do_shut (hI : GInv ty top γ w) (hp : γ.ph = none) (hc : γ.col = some c) (ht : γ.tag c.f = .fin) (hd : γ.deaf c.f = 0) {s : Nat} (hj : w.heap[c.dn]? = some (.chan 0 #[] false s s false)) (wk : Prop) (hwk : wk) : (crewPact P ty top Post).Do c.f γ w (γ.setTag c.f .gone) (w.setChan c.dn 0 #[] true s s false) wk #[⟨.obj c.dn, false, true⟩, ⟨.obj c.dn, true, true⟩] := by
 have hK := hI.coll c hc
 have hL := hI.lull c hc hp
 have hf0 := hK.f.1
 have hlt := hK.lt hI.hs
 have tf : (γ.setTag c.f .gone).tag c.f = .gone := upd_same _ _ _
 have tn : ∀ k, k ≠ c.f -> (γ.setTag c.f .gone).tag k = γ.tag k := fun k hk => upd_ne _ _ hk
 have hsz : (w.setChan c.dn 0 #[] true s s false).heap.size = w.heap.size := by simp [World.setChan]
 have hsame : ∀ b, b ≠ c.dn -> (w.setChan c.dn 0 #[] true s s false).heap[b]? = w.heap[b]? := fun b hb => heap_setChan _ _ _ _ _ _ _ _ hb
 have noph : ∀ {q : Prop} {p' : Ph}, (γ.setTag c.f .gone).ph = some p' -> q := fun {_ p'} q => by have q' : γ.ph = some p' := q; rw [hp] at q'; cases q'
 have hdone : ∀ x, x < c.n -> γ.done x := by
  rcases hL.at_ with ⟨q, _⟩ | ⟨_, q⟩
  ·rw [ht] at q; cases q
  ·exact q
 refine ⟨⟨by rw [hsz]; exact hI.hs, hI.cnt, ?_, fun k hk => ?_, fun _ q => ?_, fun p' q => noph q, fun c' hc' => ?_, fun c' hc' _ => ?_, fun p' c q => noph q, fun p' q => noph q, hI.top⟩, fun j hj => ⟨tn j hj, rfl, ⟨rfl, rfl⟩, fun e => ?_⟩, fun t fn pos hT => ?_, fun _ _ _ _ _ _ _ _ => .inr hwk, .inl hwk, rfl, .of rfl rfl⟩
 ·rw [tn 0 (by omega)]; exact hI.main
 ·by_cases e : k = c.f
  ·rw [e, tf]
  ·rw [tn k e]; exact hI.un k hk
 ·have q' : γ.col = none := q
  rw [hc] at q'; cases q'
 ·obtain rfl := same_col hc hc'
  refine ⟨(tn 0 (by omega)).trans hK.tag0, hK.f, hK.bdn, ⟨s, ?_⟩, fun b hb q => ?_, hK.deaf, fun k y e => ?_⟩
  ·rw [heap_setChan_same _ _ _ _ _ _ _ _ (by rw [<- hI.hs]; exact hlt), tf]; rfl
  ·rw [hsame b (fun r => by have q' : γ.bk b = .fix 0 := q; rw [r, hK.bdn] at q'; cases q')]; exact hK.fix b hb q
  ·exfalso
   by_cases q : k = c.f
   ·rw [q, tf] at e; cases e
   ·rw [tn k q] at e
    by_cases q0 : k = 0
    ·rw [q0, hK.tag0] at e; cases e
    ·rw [hL.rest k q0 q] at e; cases e
 ·obtain rfl := same_col hc hc'
  exact ⟨fun k h1 h2 => (tn k h2).trans (hL.rest k h1 h2), .inr ⟨.inr tf, hdone⟩, hL.nomix, fun q => by rw [tf] at q; cases q⟩
 ·have hj0 : j = 0 := Classical.byContradiction fun q => e (hL.rest j q hj)
  subst hj0
  have nc : ∀ {q : Prop}, γ.nc 0 -> q := fun q => by
   rcases q with q | q
   ·exact absurd rfl q
   ·rw [hc] at q; cases q
  refine ⟨Nat.le_refl _, fun _ _ _ => rfl, fun _ h1 h2 => ⟨h1, h2⟩, fun b hb e => hsame b fun q => ?_, rfl, (fun _ q => by have := q.1; rw [hp] at this; cases this), fun _ q => nc q, rfl, (fun _ q => by have := q.1; rw [hp] at this; cases this), (fun _ q => by rw [hc] at q; cases q), (fun q => absurd rfl q), (fun _ q => by have := q.1; rw [hp] at this; cases this), fun _ _ _ => Iff.rfl, fun _ q => by have := q.1; rw [hp] at this; cases this⟩
  subst q; rw [hK.bdn] at e; rcases e with e | ⟨m, _, e⟩ <;> cases e
 ·have e1 : MemOp.ofEvents c.f fn pos #[⟨.obj c.dn, false, true⟩, ⟨.obj c.dn, true, true⟩] = #[{ g := c.f, fn, pos, act := .access ⟨.obj c.dn, false, true⟩ }, { g := c.f, fn, pos, act := .close c.dn }] := by rw [ofEvents_eq]; simp [MemAct.ofEvent]
  rw [e1]
  generalize hx : ({ g := c.f, fn, pos, act := .access ⟨.obj c.dn, false, true⟩ } : MemOp) = x
  generalize hy : ({ g := c.f, fn, pos, act := .close c.dn } : MemOp) = y
  have hxg : x.g = c.f /\ x.act = .access ⟨.obj c.dn, false, true⟩ := by rw [<- hx]; exact ⟨rfl, rfl⟩
  have hyg : y.g = c.f /\ y.act = .close c.dn := by rw [<- hy]; exact ⟨rfl, rfl⟩
  have hmem : ∀ op ∈ #[x, y], op.g = c.f /\ ∀ m, op.act ≠ .mark m := fun op hop => by
   simp only [List.mem_toArray, List.mem_cons, List.not_mem_nil, or_false] at hop
   rcases hop with rfl | rfl
   ·exact ⟨hxg.1, fun m => by rw [hxg.2]; simp⟩
   ·exact ⟨hyg.1, fun m => by rw [hyg.2]; simp⟩
  have touches : ∀ op ∈ #[x, y], ∀ z, op.act.touch? = some z -> z = ⟨.obj c.dn, false, .atomic⟩ := fun op hop z hz => by
   simp only [List.mem_toArray, List.mem_cons, List.not_mem_nil, or_false] at hop
   rcases hop with rfl | rfl
   ·rw [hxg.2] at hz; simpa [MemAct.touch?, eq_comm] using hz
   ·rw [hyg.2] at hz; cases hz
  have hsh : γ.wh.sh (.obj c.dn) := .inl ⟨0, hK.bdn⟩
  have hD : DTr γ.wh (t ++ #[x, y]) γ.cnt := hT.d.app hK.f.2.1 fun op hop => ⟨(hmem op hop).1, fun z hz => by
   obtain rfl := touches op hop z hz
   exact .inl ⟨hsh, by simp, fun q => by cases q⟩⟩
  have px : (t ++ #[x, y])[t.size]? = some x := by rw [Array.getElem?_append_right (Nat.le_refl _)]; simp
  have py : (t ++ #[x, y])[t.size + 1]? = some y := by rw [Array.getElem?_append_right (by omega)]; simp
  have hlive : ∀ k l, (γ.setTag c.f .gone).live k l -> γ.live k l := fun k l hk => ⟨hk.1, fun q => hk.2.1 (by
   by_cases e : k = c.f
   ·rw [e, tf]
   ·rw [tn k e]; exact q), hk.2.2⟩
  have who : ∀ {m}, ¬ m < t.size -> (t ++ #[x, y]).counts m -> m <= t.size + 1 /\ (t ++ #[x, y]).g? m = some c.f := fun {m} hm hcn => by
   obtain ⟨a, ha, _⟩ := hcn
   obtain ⟨op, ho, _⟩ := touch_of ha
   refine ⟨?_, ?_⟩
   ·have := lt_size_of_getElem? ho
    simp at this
    omega
   ·rcases getElem?_append_cases ho with ⟨q, _⟩ | ⟨_, q⟩
    ·exact absurd q hm
    ·simp [Trace.g?, ho, (hmem op q).1]
  refine ⟨hD.anew (fun m op z hm hz hs => .inl ⟨hs, rfl⟩) (fun l h1 h2 => hD.own l h1 h2) (fun l h1 h2 k hk => hD.ro l h1 h2 k (hlive k l hk)) fun _ _ _ q => q, fun k => ?_, hT.nrel.app fun op hop a => (hmem op hop).2 _, fun m a ha => ?_, fun p' q => noph q, fun m hcn => ?_, fun c' hc' _ q => ?_, fun c' hc' _ _ => ?_⟩
  ·rw [Go.ConcN.Deaf_still t k _ fun op hop => ⟨(hmem op hop).2 _, (hmem op hop).2 _⟩]; exact hT.deaf k
  ·obtain ⟨op, ho, hoa⟩ := touch_of ha
   rcases getElem?_append_cases ho with ⟨_, ho'⟩ | ⟨_, hop⟩
   ·exact hT.low m a (by rw [touchAt_of ho']; exact hoa)
   ·obtain rfl := touches op hop a hoa
    exact hlt
  ·by_cases hm : m < t.size
   ·rcases hT.old m ((counts_old hm).1 hcn) with q | ⟨lo, q1, k, q2, q3⟩
    ·exact .inl (q.app _)
    ·exact .inr ⟨lo, q1, k, q2, by rw [g?_old hm]; exact q3⟩
   ·exact .inr ⟨c.f, by unfold Gho.lo; rw [show (γ.setTag c.f .gone).col = some c from hc], c.f, Nat.le_refl _, (who hm hcn).2⟩
  ·obtain rfl := same_col hc hc'
   rw [tf] at q; cases q
  ·obtain rfl := same_col hc hc'
   refine ⟨t.size + 1, by rw [act?_of py, hyg.2], ⟨c.f, by simp [Trace.g?, py, hyg.1], ?_⟩, fun m hcn => ?_⟩
   ·rw [deaf_succ px, deaf_old (Nat.le_refl _)]
    simp only [deafStep, hxg.2]
    exact (hT.deaf c.f).trans hd
   ·by_cases hm : m < t.size
    ·rcases hT.fin c hc hp ht m ((counts_old hm).1 hcn) with q | q
     ·exact .inl (q.app _)
     ·exact .inr (.inr (q.hb_new (Nat.le_succ _) py hyg.1))
    ·obtain ⟨q1, q2⟩ := who hm hcn
     exact .inr (before_own q2 (by simp [Trace.g?, py, hyg.1]) q1)
def Gho.toGive (γ : Gho) (i x : Nat) (v : Value) (B : Option Nat) : Gho := { γ with tag := upd γ.tag i (.give x), gv := fun k => if k = i then v else γ.gv k, gb := fun k => if k = i then B else γ.gb k }
theorem do_give {y : Nat} {v : Value} {B : Option Nat} (hI : GInv ty top γ w) (hp : γ.ph = some p) (hc : γ.col = some c) (hb : p.b <= i) (hi : i < γ.cnt) (ht : γ.tag i = .busy y) (hd : γ.deaf i = 0) (hg : ∃ ob, c.good y v ob /\ match B with
  | none => ob = none
  | some B => B < γ.hs /\ γ.bk B = .priv i /\ ∃ o, w.heap[B]? = some o /\ ob = some (B, o)) (wk : Prop) : (crewPact P ty top Post).Do i γ w (γ.toGive i y v B) w wk #[] := by
 have h := hI.core _ hp
 have hK := hI.coll c hc
 obtain ⟨m1, m2, m3, m4, _⟩ := hI.mate p c hp hc
 have hfi : p.f ≠ i := by have := h.fd; omega
 have hi0 : i ≠ 0 := by have := h.fd; omega
 have tf : (γ.toGive i y v B).tag p.f = γ.tag p.f := upd_ne _ _ hfi
 have noph : ∀ {q : Prop}, γ.ph = none -> q := fun q => by rw [hp] at q; cases q
 have hcl : ∀ k z, (upd γ.tag i (.give y) k).at_ z -> (γ.tag k).at_ z := fun k z e => by
  by_cases q : k = i
  ·subst q
   rw [upd_same] at e
   rcases e with e | e
   ·cases e
   ·injection e with e; rw [<- e]; exact .inl ht
  ·rwa [upd_ne _ _ q] at e
 have hv : vcT (upd γ.tag i (.give y)) p = vcT γ.tag p := by
  have := vc_set (tag := γ.tag) (.give y) hb (by have := h.cntW; omega)
  rw [ht] at this
  simp only [Tag.cw] at this
  omega
 have hC : Core ty (γ.toGive i y v B) p w := by
  refine ⟨h.bwg, h.bjobs, h.bstop, h.ne, h.fix, h.fixm, h.fd, by rw [tf]; exact h.ftag, ?_, fun j q e => by rw [tf] at e; exact h.add j q e, fun k h1 h2 h3 => ?_, fun k hk => ?_, fun hc k h1 h2 => ?_, ?_, by rw [tf]; exact h.jobs, h.stop, h.stpk, fun z hz => ?_, h.nle, by rw [tf]; exact h.full, h.busy.of (fun k z e => hcl k z e) rfl fun _ => Iff.rfl, fun k hk => ?_, h.small, h.pos, (fun q => by rw [m2] at q; cases q), fun q => (h.seek q).elim, h.nomix⟩
  ·show γ.cnt = p.b + (γ.toGive i y v B).started p
   have := h.cnt
   unfold Gho.started at this ⊢
   rw [tf]; exact this
  ·show upd γ.tag i _ k = _; rw [upd_ne _ _ (by omega)]; exact h.rest k h1 h2 h3
  ·show (upd γ.tag i _ k).works
   by_cases q : k = i
   ·subst q; rw [upd_same]; trivial
   ·rw [upd_ne _ _ q]; exact h.wtag k hk
  ·rw [tf] at hc
   show (upd γ.tag i _ k).early
   by_cases q : k = i
   ·subst q; rw [upd_same]; trivial
   ·rw [upd_ne _ _ q]; exact h.early hc k h1 h2
  ·obtain ⟨st, sm, q1, q2⟩ := h.wgm
   refine ⟨st, sm, q1, ?_⟩
   have hlast : (∀ k, p.b <= k -> ¬ (γ.tag k).lasts) -> ∀ k, p.b <= k -> ¬ (upd γ.tag i (.give y) k).lasts := fun hnl k hk => by
    by_cases q : k = i
    ·subst q; rw [upd_same]; exact id
    ·rw [upd_ne _ _ q]; exact hnl k hk
   cases q2 with
   | opn q3 q4 =>
    have hm := WMode.opn (tag := upd γ.tag i (.give y)) (p := p) (by rw [upd_ne _ _ hfi]; exact q3) (hlast q4)
    rw [upd_ne _ _ hfi, hv] at hm
    exact hm
   | reg q3 q4 q5 =>
    have hm := WMode.reg (tag := upd γ.tag i (.give y)) (p := p) (by rw [upd_ne _ _ hfi]; exact q3) (hlast q4) (by rw [hv]; exact q5)
    rw [hv] at hm
    exact hm
   | last L k q3 q4 q5 q6 =>
    exfalso
    by_cases e : i = L
    ·subst e; rw [ht] at q5; cases q5
    ·have := q6 i hb e; rw [ht] at this; cases this
   | sema q3 q4 => have := q4 i hb; rw [ht] at this; cases this
   | fin q3 q4 => have := q4 i hb; rw [ht] at this; cases this
  ·rcases h.job z hz with q | ⟨m, q1, q2⟩
   ·exact .inl q
   ·refine .inr ⟨m, q1, ?_⟩
    show (upd γ.tag i _ m).at_ z
    by_cases q : m = i
    ·subst q
     rw [upd_same]
     rw [ht] at q2
     rcases q2 with q2 | q2
     ·injection q2 with q2; rw [q2]; exact .inr rfl
     ·cases q2
    ·rw [upd_ne _ _ q]; exact q2
  ·refine h.hear k (hk.imp (fun e => ?_) fun e => ?_) <;>
    (have e' : upd γ.tag i (.give y) k = _ := e
     by_cases q : k = i
     ·subst q; rw [upd_same] at e'; cases e'
     ·rwa [upd_ne _ _ q] at e')
 refine ⟨⟨hI.hs, hI.cnt, ?_, fun k hk => ?_, fun q => noph q, fun p' hp' => ?_, fun c' hc' => ?_, fun c _ q => noph q, hI.mate, hI.alone, hI.top⟩, fun j hj => ⟨upd_ne _ _ hj, rfl, ⟨by show (if j = i then _ else _) = _; rw [if_neg hj], by show (if j = i then _ else _) = _; rw [if_neg hj]⟩, fun _ => ⟨Nat.le_refl _, fun _ _ _ => rfl, fun _ h1 h2 => ⟨h1, h2⟩, fun _ _ _ => rfl, rfl, fun _ h => h.1, fun h _ => h, rfl, fun p' hp' _ => ⟨rfl, ?_⟩, fun _ _ q => noph q, fun _ _ _ _ q => noph q, fun _ _ => Nat.le_refl _, fun _ _ _ => Iff.rfl, fun _ _ h => h⟩⟩, fun t fn pos hT => ?_, fun _ _ _ _ _ _ _ _ => .inl rfl, .inr fun j hj hw => wait_keep hw rfl (upd_ne _ _ hj) fun _ _ => rfl, rfl, .refl _⟩
 ·show upd γ.tag i _ 0 ≠ _; rw [upd_ne _ _ (Ne.symm hi0)]; exact hI.main
 ·show upd γ.tag i _ k = _; rw [upd_ne _ _ (by have : γ.cnt <= k := hk; omega)]; exact hI.un k hk
 ·obtain rfl := same_ph hp hp'
  exact hC
 ·obtain rfl := same_col hc hc'
  refine ⟨(upd_ne _ _ (Ne.symm hi0)).trans hK.tag0, hK.f, hK.bdn, ?_, hK.fix, hK.deaf, fun k z e => ?_⟩
  ·obtain ⟨s, q⟩ := hK.dn
   exact ⟨s, by rw [<- m1, tf, m1]; exact q⟩
  ·have e' : upd γ.tag i (.give y) k = .give z := e
   by_cases q : k = i
   ·subst q
    rw [upd_same] at e'
    injection e' with e'
    subst e'
    refine ⟨hd, ?_⟩
    obtain ⟨ob, g1, g2⟩ := hg
    refine ⟨ob, ?_, ?_⟩
    ·show c.good y (if k = k then v else _) ob
     rw [if_pos rfl]; exact g1
    ·show match (if k = k then B else γ.gb k) with | none => _ | some B => _
     rw [if_pos rfl]; exact g2
   ·rw [upd_ne _ _ q] at e'
    obtain ⟨r1, ob, r2, r3⟩ := hK.give k z e'
    refine ⟨r1, ob, ?_, ?_⟩
    ·show c.good z (if k = i then v else _) ob
     rw [if_neg q]; exact r2
    ·show match (if k = i then B else γ.gb k) with | none => _ | some B => _
     rw [if_neg q]; exact r3
 ·obtain rfl := same_ph hp hp'.1
  exact Nat.le_of_eq hv
 ·rw [ofEvents_nil]
  refine ⟨hT.d.low hT.low (fun _ _ => rfl) rfl fun k l _ hk => ⟨hk.1, fun e => hk.2.1 (by
   show upd γ.tag i _ k = _
   rw [upd_ne _ _ (fun q => by subst q; rw [ht] at e; cases e)]; exact e), hk.2.2⟩, hT.deaf, hT.nrel, hT.low, fun p' hp' k hk hk2 hs => ?_, hT.old, fun _ _ q => noph q, fun _ _ q => noph q⟩
  have hs' : (upd γ.tag i (.give y) k).said := hs
  by_cases q : k = i
  ·subst q; rw [upd_same] at hs'; exact hs'.elim
  ·rw [upd_ne _ _ q] at hs'; exact hT.rel p' hp' k hk hk2 hs'
end
end Go.Proofs.YtbicafgmfgdckaaGreatDoor
namespace Go.Proofs.YtbicafgmfgdckaaGreatDoor
open Go Go.Conc
open Go.ConcR (KK wgBlock WgAt stA smA rd wr mk DC0)
open Go.ConcN (sumTo upd upd_same upd_ne RelBy PermW WgLive)

abbrev LV (P : Program) (ty : TypeId) (top : Nat) (Post : Value -> World -> Prop) : Nat -> Gho -> World -> Goroutine -> Prop := (crewPact P ty top Post).Lives
abbrev NX (P : Program) (ty : TypeId) (top : Nat) (Post : Value -> World -> Prop) : Nat -> Gho -> World -> Goroutine -> Prop := (crewPact P ty top Post).Next (crewPact P ty top Post).Lives
section
variable {ty : TypeId} {top : Nat} {γ γ' γ2 : Gho} {p : Ph} {c : Col} {w w' w2 : World} {i j k n : Nat} {P : Program} {Post : Value -> World -> Prop} {es : Array Event} {g g' : Goroutine}
theorem lives_step (hr : g.status = .running) (ht : γ.tag i ≠ .gone) (h : ∀ γ2 w2, Rel i γ w γ2 w2 -> GInv ty top γ2 w2 -> i < γ2.cnt -> NX P ty top Post i γ2 w2 g) : LV P ty top Post i γ w g :=
 Pact.Lives.step hr fun γ2 w2 hrl hI => by
  have e : γ2.tag i ≠ .gone := by rw [hrl.tag]; exact ht
  exact ⟨fun q => e q.2, h γ2 w2 hrl hI (Nat.lt_of_not_le fun q => e (hI.un i q))⟩
theorem LV.rely (h : LV P ty top Post i γ w g) (hr : Rel i γ w γ2 w2) : LV P ty top Post i γ2 w2 g := Pact.Lives.rely (crew_ok P ty top Post) h hr
theorem lives_ctl (hr : g.status = .running) (ht : γ.tag i ≠ .gone) (hs : ∀ w, stepG P (i == 0) g w = .go g' w #[]) (h : LV P ty top Post i γ w g') : LV P ty top Post i γ w g :=
 lives_step hr ht fun γ2 w2 hrl hI hi => .go g' w2 #[] γ2 (hs w2) (do_idle hI hi _) (h.rely hrl)
theorem lives_own (hr : g.status = .running) (ht : ¬ (γ.tag i).tied) (h : ∀ γ2 w2, Rel i γ w γ2 w2 -> GInv ty top γ2 w2 -> ∃ g' w' es, stepG P (i == 0) g w2 = .go g' w' es /\ Own (γ2.S i) (γ2.F i) w2 w' es /\ LV P ty top Post i (γ2.grown i w') w' g') : LV P ty top Post i γ w g :=
 lives_step hr (fun e => ht (by rw [e]; trivial)) fun γ2 w2 hrl hI hi => by
  obtain ⟨g', w', es, h1, h2, h3⟩ := h γ2 w2 hrl hI
  exact .go g' w' es _ h1 (do_own hI hi (by rw [hrl.tag]; exact ht) h2 _) h3
structure Ext (i : Nat) (γ γ' : Gho) : Prop where
 tag : γ'.tag i = γ.tag i
 deaf : γ'.deaf i = γ.deaf i
 gv : γ'.gv i = γ.gv i /\ γ'.gb i = γ.gb i
 hs : γ.hs <= γ'.hs
 bk : ∀ b, b < γ.hs -> (∀ j, j ≠ i -> γ.bk b ≠ .priv j) -> γ'.bk b = γ.bk b
 ph : ∀ p, γ.on i p -> γ'.ph = some p
 pn : γ.ph = none -> γ.nc i -> γ'.ph = none
 col : γ'.col = γ.col
 feed : ∀ p, γ.on i p -> p.f = i -> γ'.next = γ.next /\ γ'.vc p <= γ.vc p
 next : ∀ p, γ.on i p -> γ.next <= γ'.next
 done : i = 0 -> γ.col ≠ none -> ∀ x, γ'.done x ↔ γ.done x
 stp : ∀ p, γ.on i p -> γ.stp = true -> γ'.stp = true
theorem Ext.refl (i : Nat) (γ : Gho) : Ext i γ γ := ⟨rfl, rfl, ⟨rfl, rfl⟩, Nat.le_refl _, fun _ _ _ => rfl, fun _ h => h.1, fun h _ => h, rfl, fun _ _ _ => ⟨rfl, Nat.le_refl _⟩, fun _ _ => Nat.le_refl _, fun _ _ _ => Iff.rfl, fun _ _ h => h⟩
theorem Ext.trans (h : Ext i γ γ') (h' : Ext i γ' γ2) : Ext i γ γ2 := by
 refine ⟨h'.tag.trans h.tag, h'.deaf.trans h.deaf, ⟨h'.gv.1.trans h.gv.1, h'.gv.2.trans h.gv.2⟩, Nat.le_trans h.hs h'.hs, fun b hb hj => ?_, fun p q => h'.ph p ⟨h.ph p q, q.2⟩, fun q1 q => h'.pn (h.pn q1 q) (q.keep h.col), h'.col.trans h.col, fun p q e => ?_, fun p q => Nat.le_trans (h.next p q) (h'.next p ⟨h.ph p q, q.2⟩), fun e q x => (h'.done e (by rw [h.col]; exact q) x).trans (h.done e q x), fun p q e => h'.stp p ⟨h.ph p q, q.2⟩ (h.stp p q e)⟩
 ·have e1 := h.bk b hb hj
  exact (h'.bk b (Nat.lt_of_lt_of_le hb h.hs) fun j hj' => by rw [e1]; exact hj j hj').trans e1
 ·obtain ⟨q1, q2⟩ := h.feed p q e
  obtain ⟨q3, q4⟩ := h'.feed p ⟨h.ph p q, q.2⟩ e
  exact ⟨q3.trans q1, Nat.le_trans q4 q2⟩
theorem Rel.ext (h : Rel i γ w γ2 w2) (ht : γ.tag i ≠ .gone) : Ext i γ γ2 := let l := h.live ht; ⟨h.tag, h.deaf, h.gv, l.hs, l.bk, l.ph, l.pn, l.col, l.feed, l.next, l.done, l.stp⟩
theorem grown_ext (hs : γ.hs = w.heap.size) (hsz : w.heap.size <= w'.heap.size) : Ext i γ (γ.grown i w') :=
 ⟨rfl, rfl, ⟨rfl, rfl⟩, by show γ.hs <= w'.heap.size; omega, fun b hb _ => grown_bk hb, fun _ h => h.1, fun h _ => h, rfl, fun _ _ _ => ⟨rfl, Nat.le_refl _⟩, fun _ _ => Nat.le_refl _, fun _ _ _ => Iff.rfl, fun _ _ h => h⟩
theorem Rel.S (h : Rel i γ w γ2 w2) (ht : γ.tag i ≠ .gone) : γ2.S i = γ.S i := by
 have l := h.live ht
 funext b
 apply propext
 constructor
 ·rintro ⟨h1, h2⟩; exact l.bk2 b h1 h2
 ·rintro ⟨h1, h2⟩
  refine ⟨Nat.lt_of_lt_of_le h1 l.hs, (l.bk b h1 fun j hj e => ?_).trans h2⟩
  rw [h2] at e; injection e with e; exact hj e.symm
theorem Rel.rely {F : Nat -> Prop} (h : Rel i γ w γ2 w2) (ht : γ.tag i ≠ .gone) (hI : GInv ty top γ2 w2) (hs : γ.hs = w.heap.size) (hF : ∀ b, F b -> γ.F i b) : Rely (γ.S i) F w w2 := by
 have l := h.live ht
 refine ⟨by have := l.hs; have := hI.hs; omega, l.tape, fun b hb => ?_⟩
 rcases hb with ⟨h1, h2⟩ | hb
 ·exact l.keep b h1 (.inl h2)
 ·exact l.keep b (hF b hb).1 (.inr (hF b hb).2)
theorem RelL.F (l : RelL i γ w γ2 w2) {b : Nat} (h : γ.F i b) : γ2.F i b := by
 obtain ⟨h1, m, h2, h3⟩ := h
 exact ⟨Nat.lt_of_lt_of_le h1 l.hs, m, h2, (l.bk b h1 fun j _ e => by rw [h3] at e; cases e).trans h3⟩
theorem Own.mono {S F F' : Nat -> Prop} (h : Own S F w w' es) (hF : ∀ b, F b -> F' b) : Own S F' w w' es := by
 refine ⟨h.size, h.tape, h.os, h.output, h.old, fun e he => ?_⟩
 rcases h.ev e he with ⟨ad, h1, h2, h3⟩ | q | ⟨r, h1, h2, h3⟩
 ·exact .inl ⟨ad, h1, h2, h3.imp id fun q => ⟨hF _ q.1, q.2⟩⟩
 ·exact .inr (.inl q)
 ·exact .inr (.inr ⟨r, h1, h2.imp id (hF _), h3⟩)
theorem lives_way {F : Nat -> Prop} {K : (Nat -> Prop) -> Goroutine -> World -> Prop} {S : Nat -> Prop} (h : Way P (i == 0) F K S g w) : ∀ γ, S = γ.S i -> γ.hs = w.heap.size -> (∀ b, F b -> γ.F i b) -> ¬ (γ.tag i).tied ->
  (∀ S' g' w' γ', Ext i γ γ' -> γ'.S i = S' -> γ'.hs = w'.heap.size -> K S' g' w' -> LV P ty top Post i γ' w' g') -> LV P ty top Post i γ w g := by
 induction h with
 | stop h => intro γ hS hs _ _ hK; exact hK _ _ _ γ (.refl _ _) hS.symm hs h
 | @step S g w hg h k ih =>
  intro γ hS hs hF ht hK
  subst hS
  have hng : γ.tag i ≠ .gone := fun e => ht (by rw [e]; trivial)
  refine lives_own hg ht fun γ2 w2 hrl hI => ?_
  have hrely := hrl.rely hng hI hs hF
  have hF2 : ∀ b, F b -> γ2.F i b := fun b hb => (hrl.live hng).F (hF b hb)
  obtain ⟨g1, w3, es, h1, h2⟩ := h w2 hrely
  refine ⟨g1, w3, es, h1, by rw [hrl.S hng]; exact h2.mono hF2, ?_⟩
  have hS2 : grow (γ.S i) w2 w3 = (γ2.grown i w3).S i := by rw [<- hrl.S hng]; exact grow_grown hI.hs h2.size
  have hx : Ext i γ (γ2.grown i w3) := (hrl.ext hng).trans (grown_ext hI.hs h2.size)
  refine ih w2 g1 w3 es hrely h1 (γ2.grown i w3) hS2 rfl (fun b hb => ?_) (by rw [hx.tag]; exact ht) fun S' g' w' γ' hx' => hK S' g' w' γ' (hx.trans hx')
  obtain ⟨q1, m, q2, q3⟩ := hF2 b hb
  exact ⟨by show b < w3.heap.size; have := h2.size; have := hI.hs; omega, m, q2, (grown_bk q1).trans q3⟩
theorem goes_inv {s : GStep} {K : Goroutine -> World -> Array Event -> Prop} (h : s.goes K) : ∃ g w es, s = .go g w es /\ K g w es := by
 cases s <;> first | exact ⟨_, _, _, rfl, h⟩ | exact h.elim
theorem lives_goes {Stop : Goroutine -> World -> Prop} {n : Nat} : ∀ {g w γ}, Goes P (i == 0) (Rl ty p.wg) DC0 Stop n g w -> γ.on i p -> γ.tag i ≠ .gone -> GInv ty top γ w ->
  (∀ γ2 w2 g', Rel i γ w γ2 w2 -> GInv ty top γ2 w2 -> i < γ2.cnt -> Stop g' w2 -> g'.status = .running /\ NX P ty top Post i γ2 w2 g') -> LV P ty top Post i γ w g := by
 have live : ∀ {γ w}, GInv ty top γ w -> γ.ph = some p -> WgLive ty p.wg w := fun hI hp => let ⟨st, sm, h, _⟩ := (hI.core _ hp).wgm; ⟨st, sm, h⟩
 have lt : ∀ {γ w}, GInv ty top γ w -> γ.tag i ≠ .gone -> i < γ.cnt := fun hI ht => Nat.lt_of_not_le fun q => ht (hI.un i q)
 induction n with
 | zero =>
  intro g w γ h hp ht hI hS
  refine lives_step (hS γ w g (.refl _ _ _) hI (lt hI ht) (h w fun x => x)).1 ht fun γ2 w2 hrl hI2 hi => (hS γ2 w2 g hrl hI2 hi (h w2 fun _ => live hI2 ((hrl.live ht).ph _ hp))).2
 | succ n ih =>
  intro g w γ h hp ht hI hS
  rcases h with h | ⟨hg, h⟩
  ·refine lives_step (hS γ w g (.refl _ _ _) hI (lt hI ht) (h w fun x => x)).1 ht fun γ2 w2 hrl hI2 hi => (hS γ2 w2 g hrl hI2 hi (h w2 fun _ => live hI2 ((hrl.live ht).ph _ hp))).2
  ·refine lives_step hg ht fun γ2 w2 hrl hI2 hi => ?_
   have hp2 := (hrl.live ht).ph _ hp
   have := h w2 fun _ => live hI2 hp2
   obtain ⟨g', w', es, hst, ⟨e1, e2⟩, hG⟩ := goes_inv this
   subst e1
   subst e2
   exact .go g' _ #[] γ2 hst (do_idle hI2 hi _) (ih hG ⟨hp2, hp.2⟩ (by rw [hrl.tag]; exact ht) hI2 fun γ3 w3 g3 hr3 => hS γ3 w3 g3 (hrl.trans hr3))
theorem lives_goes2 {Stop : Goroutine -> World -> Prop} {n : Nat} : ∀ {g w γ}, Goes P (i == 0) (Rl ty p.wg) DC0 Stop n g w -> γ.on i p -> γ.tag i ≠ .gone -> GInv ty top γ w ->
  (∀ γ2 w2 g', Rel i γ w γ2 w2 -> GInv ty top γ2 w2 -> Stop g' w2 -> LV P ty top Post i γ2 w2 g') -> LV P ty top Post i γ w g := by
 have live : ∀ {γ w}, GInv ty top γ w -> γ.ph = some p -> WgLive ty p.wg w := fun hI hp => let ⟨st, sm, h, _⟩ := (hI.core _ hp).wgm; ⟨st, sm, h⟩
 induction n with
 | zero => exact fun {g w γ} h hp ht hI hS => hS γ w g (.refl _ _ _) hI (h w fun x => x)
 | succ n ih =>
  intro g w γ h hp ht hI hS
  rcases h with h | ⟨hg, h⟩
  ·exact hS γ w g (.refl _ _ _) hI (h w fun x => x)
  ·refine lives_step hg ht fun γ2 w2 hrl hI2 hi => ?_
   have hp2 := (hrl.live ht).ph _ hp
   have := h w2 fun _ => live hI2 hp2
   obtain ⟨g', w', es, hst, ⟨e1, e2⟩, hG⟩ := goes_inv this
   subst e1
   subst e2
   exact .go g' _ #[] γ2 hst (do_idle hI2 hi _) (ih hG ⟨hp2, hp.2⟩ (by rw [hrl.tag]; exact ht) hI2 fun γ3 w3 g3 hr3 => hS γ3 w3 g3 (hrl.trans hr3))
end
end Go.Proofs.YtbicafgmfgdckaaGreatDoor
