/- The crew's pact: main by itself, lone calls and the rest of a function. For any program. What main holds by itself: rows in its own blocks, as the company's world has them and as a lone call sees them. -/
import Derived.Test.YtbicafgmfgdckaaDoorMgLiB
import Derived.Test.YtbicafgmfgdckaaDoorMgCoD
import Derived.Test.YtbicafgmfgdckaaDoorMgTxA
namespace Go.Proofs.YtbicafgmfgdckaaDoor
open Go Go.Conc
open Go.ConcR (KK wgBlock WgAt stA smA rd wr mk DC0)
open Go.ConcN (sumTo upd upd_same upd_ne RelBy PermW WgLive)
section
variable {ty : TypeId} {top : Nat} {γ γ' γ2 : Gho} {p : Ph} {w w' w2 : World} {i j n : Nat} {P : Program} {Post : Value → World → Prop} {es : Array Event} {g g' : Goroutine} {c b : Frame} {rest : List Frame} {F T : Nat → Prop}
theorem lives_wayA {K : (Nat → Prop) → Goroutine → World → Prop} {S : Nat → Prop} (h : WayA P F K S g w) : ∀ γ, Solo γ w → (∀ b, S b → γ.S 0 b) → (∀ b, F b → γ.S 0 b) →
    (∀ S' g' w' γ', Solo γ' w' → Later2 γ γ' → (∀ b, γ.hs ≤ b → b < γ'.hs → γ'.bk b = .priv 0) → (∀ b, b < γ.hs → ¬ S b → w'.heap[b]? = w.heap[b]?) → w'.tape = w.tape → (∀ b, S' b → S b ∨ γ.hs ≤ b) → K S' g' w' → LV P ty top Post 0 γ' w' g') → LV P ty top Post 0 γ w g := by
  induction h with
  | stop h => intro γ s _ _ hK; exact hK _ _ _ γ s (.refl _) (fun b h1 h2 => by omega) (fun _ _ _ => rfl) rfl (fun _ q => .inl q) h
  | @step S g w hg h k ih =>
    intro γ s hS hF hK
    refine solo_own s hg fun w2 e1 e2 => ?_
    obtain ⟨g1, w3, es, h1, h2⟩ := h w2 ⟨e1, e2⟩
    refine ⟨g1, w3, es, h1, ⟨h2.size, h2.tape, h2.os, h2.output, fun b hb hn => h2.old b hb fun q => hn (hS b q), fun e he => ?_⟩, fun γ' s' l hnew => ?_⟩
    · have hgr : ∀ b, grow S w2 w3 b → grow (γ.S 0) w2 w3 b := fun b hb => hb.imp (hS b) id
      rcases h2.ev e he with ⟨ad, q1, q2, q3⟩ | q | ⟨r, q1, q2, q3⟩
      · exact .inl ⟨ad, q1, q2, .inl (q3.elim (hgr _) fun q => .inl (hF _ q.1))⟩
      · exact .inr (.inl q)
      · exact .inr (.inr ⟨r, q1, .inl (q2.elim (hgr _) fun q => .inl (hF _ q)), q3⟩)
    · have hs2 : γ.hs = w2.heap.size := by rw [e1]; exact s.hs
      refine ih w2 g1 w3 es ⟨e1, e2⟩ h1 γ' s' (fun b hb => ?_) (fun b hb => ?_) fun S' g' w' γ'' s'' l' hnew' hold htp hS' hk => hK S' g' w' γ'' s'' (l.trans l') (fun b h3 h4 => ?_) (fun b h3 h4 => ?_) (htp.trans (h2.tape.trans e2)) (fun b q => ?_) hk
      · rcases hb with hb | ⟨h3, h4⟩
        · obtain ⟨q1, q2⟩ := hS b hb
          exact ⟨Nat.lt_of_lt_of_le q1 l.hs, (l.bk b q1).trans q2⟩
        · exact ⟨by rw [s'.hs]; exact h4, hnew b (by omega) h4⟩
      · obtain ⟨q1, q2⟩ := hF b hb
        exact ⟨Nat.lt_of_lt_of_le q1 l.hs, (l.bk b q1).trans q2⟩
      · by_cases q : b < γ'.hs
        · rw [l'.bk b q]; exact hnew b h3 (by rw [← s'.hs]; exact q)
        · exact hnew' b (by omega) h4
      · have h5 : b < w2.heap.size := by omega
        refine (hold b (by have := l.hs; omega) fun q => q.elim h4 fun q => by omega).trans ?_
        rw [h2.old b h5 h4, e1]
      · rcases hS' b q with (q | ⟨q, _⟩) | q
        · exact .inl q
        · exact .inr (by omega)
        · exact .inr (Nat.le_trans l.hs q)
/-- What comes back: alike to the lone run's end, under the same numbers. -/
structure SameN (T : Nat → Prop) (n : Nat) (ρ : Ren) (w1 w' : World) : Prop where
  id : ∀ a b, ρ a b → a = b
  where_ : ∀ a b, ρ a b → T b ∨ n ≤ b
  cell : ∀ (a : Addr) v, ρ a.block a.block → w1.cell? a = some v → ∃ v', w'.cell? a = some v' ∧ VR ρ v v'
  obj : ∀ b cs t fr, ρ b b → w1.heap[b]? = some (.cells cs t fr) → ∃ cs' fr', w'.heap[b]? = some (.cells cs' t fr') ∧ (n ≤ b → fr' = (0, 0))
theorem same_of {gs : Nat} {ρ1 : Ren} {w1 W : World} {S : Nat → Prop} (hw : WR gs T ρ1 (re w1 W.tape W.drawn) W) (hid : ∀ a b, ρ1 a b → a = b) (hS : ∀ a b, ρ1 a b → S b ∨ T b) (hn : ∀ b, S b → n ≤ b) (hT : ∀ b, T b → b < n) : SameN T n ρ1 w1 W := by
  refine ⟨hid, fun a b h => (hS a b h).elim (fun q => .inr (hn b q)) .inl, fun a v h hc => ?_, fun b cs t fr h hc => ?_⟩
  · rcases hw.cell (a := a) (a' := a) ⟨h, rfl, rfl⟩ with ⟨e1, _⟩ | ⟨u, u', e1, e2, e3⟩
    · have : w1.cell? a = none := e1
      rw [this] at hc; cases hc
    · have e1 : w1.cell? a = some u := e1
      rw [e1] at hc
      injection hc with hc
      subst hc
      exact ⟨u', e2, e3⟩
  · obtain ⟨o, o', h1, h2, h3⟩ := hw.block b b h
    have h1' : w1.heap[b]? = some o := h1
    rw [hc] at h1'
    injection h1' with h1'
    subst h1'
    cases o' with
    | cells cs' t' fr' =>
      obtain ⟨rfl, h4, h5, h6⟩ := h3
      exact ⟨_, _, h2, fun q => (h6 fun q2 => by have := hT b q2; omega).2⟩
    | _ => exact h3.elim
theorem SameN.cell_of {ρ : Ren} {w1 : World} (h : SameN T n ρ w1 w') {b o : Nat} {v : Value} (hb : ρ b b) (hc : w1.cell? ⟨b, o, none⟩ = some v) : ∃ v', w'.cell? ⟨b, o, none⟩ = some v' ∧ VR ρ v v' := h.cell ⟨b, o, none⟩ v hb hc
theorem SameN.int {ρ : Ren} {w1 : World} (h : SameN T n ρ w1 w') {b o : Nat} {k : IntKind} {x : Int} (hb : ρ b b) (hc : w1.cell? ⟨b, o, none⟩ = some (.int k x)) : w'.cell? ⟨b, o, none⟩ = some (.int k x) := by
  obtain ⟨v', e, hv⟩ := h.cell_of hb hc
  cases hv
  exact e
theorem SameN.slice {ρ : Ren} {w1 : World} (h : SameN T n ρ w1 w') {a : Option Addr} {l cp : Nat} {v' : Value} (hsp : ∀ ad, a = some ad → ad.spot = none) (hv : VR ρ (.slice a l cp) v') : v' = .slice a l cp ∧ ∀ ad, a = some ad → ρ ad.block ad.block := by
  cases hv with
  | snil => exact ⟨rfl, fun _ e => by cases e⟩
  | slz q => rw [hsp _ rfl] at q; cases q
  | @slice a a' _ _ q =>
    have e : a' = a := by
      obtain ⟨q1, q2, q3⟩ := q
      have := h.id _ _ q1
      obtain ⟨a1, a2, a3⟩ := a
      obtain ⟨b1, b2, b3⟩ := a'
      dsimp only at *
      subst this q2 q3
      rfl
    subst e
    exact ⟨rfl, fun ad e => by cases e; exact q.block⟩
theorem SameN.slice_cell {ρ : Ren} {w1 : World} (h : SameN T n ρ w1 w') {b o : Nat} {a : Option Addr} {l cp : Nat} (hsp : ∀ ad, a = some ad → ad.spot = none) (hb : ρ b b) (hc : w1.cell? ⟨b, o, none⟩ = some (.slice a l cp)) : w'.cell? ⟨b, o, none⟩ = some (.slice a l cp) ∧ ∀ ad, a = some ad → ρ ad.block ad.block := by
  obtain ⟨v', e, hv⟩ := h.cell_of hb hc
  obtain ⟨rfl, q⟩ := h.slice hsp hv
  exact ⟨e, q⟩
theorem vr_bool {ρ : Ren} {x : Bool} {v' : Value} (h : VR ρ (.bool x) v') : v' = .bool x := by cases h; rfl
/-- The lone world that a lone call sees: T alone. -/
theorem lone_wr {T : Nat → Prop} (s : Solo γ w) (hgl : P.globals.size ≤ γ.hs) (hT : ∀ b, T b → γ.S 0 b ∧ ∃ cs t fr, w.heap[b]? = some (.cells cs t fr)) : WR P.globals.size T (diag T) (re (loneW (diag T) T w) w.tape w.drawn) w :=
  wr_lone (F := T) (T := T) (fun b hb => by have := (hT b hb).1.1; rw [← s.hs]; exact this) (by rw [← s.hs]; exact hgl) fun b hb => by
    obtain ⟨_, cs, t, fr, e⟩ := hT b hb
    exact ⟨cs, t, fr, e, fun q => absurd hb q⟩
/-- A LONE CALL. -/
theorem lives_call0 {G : Nat → Bool} {fs : List Nat} (hfs : ∀ f, fs.contains f = true → okBody P G fs f = true) {f : Nat} (hf : fs.contains f = true) (s : Solo γ w) (hgl : P.globals.size ≤ γ.hs) (T : Nat → Prop) (hT : ∀ b, T b → γ.S 0 b ∧ ∃ cs t fr, w.heap[b]? = some (.cells cs t fr))
    {args : Array Value} (ha : VsR (diag T) args args) (hG : ∀ g, G g = true → T g) (R : Value → World → Prop)
    (hc : ∀ (Tp : Tape) (d : Nat), Calls P f args (re (loneW (diag T) T w) Tp d) (fun e w' => ∃ v, e = .returned v ∧ R v w'))
    (hK : ∀ γ' w' v v' ρ w1, Solo γ' w' → Later2 γ γ' → (∀ b, γ.hs ≤ b → b < γ'.hs → γ'.bk b = .priv 0) → (∀ b, b < γ.hs → w'.heap[b]? = w.heap[b]?) → w'.tape = w.tape → R v w1 → VR ρ v v' → SameN T γ.hs ρ w1 w' → LV P ty top Post 0 γ' w' (Conc.G (c.finish v') rest)) :
    LV P ty top Post 0 γ w (Conc.G (Frame.enter P f args .normal) (c :: rest)) := by
  have h1 := wayA_call (P := P) (G := G) (fs := fs) (F := T) (S := fun _ => False) (ρ := diag T) (c := c) (rest := rest) (R := R) hfs hf (w0 := loneW (diag T) T w) (lone_wr s hgl hT) ha (fun g hg => ⟨rfl, hG g hg⟩) (fun a b h => .inr (by obtain ⟨rfl, h⟩ := h; exact h)) (fun a b h => h.1) (lone_size) hc
  refine lives_wayA h1 γ s (fun _ q => q.elim) (fun b hb => (hT b hb).1) fun S' g' w' γ' s' l hnew hold htp hS' hk => ?_
  obtain ⟨v, v', ρ1, w1, rfl, hv, ⟨Tp, d, hR⟩, hw, hS, _, hid⟩ := hk
  refine hK γ' w' v v' ρ1 (re w1 Tp d) s' l hnew (fun b hb => hold b hb fun q => q) htp hR hv ?_
  exact same_of (gs := P.globals.size) (w1 := re w1 Tp d) (S := S') hw hid hS (fun b q => (hS' b q).elim (fun q => q.elim) id) fun b q => (hT b q).1.1
/-- THE REST OF A FUNCTION, a lone run. -/
theorem lives_code0 {G : Nat → Bool} {fs : List Nat} (hfs : ∀ f, fs.contains f = true → okBody P G fs f = true) {f : Nat} {fn : Func} (hf : P.funcs[f]? = some fn) (hfi : (P.inits.idxOf? f).isNone = true) {code : Code} (hok : okCode P G fs code = true) (hbf : b.fn = f) (hbk : b.kind = .normal)
    (s : Solo γ w) (hgl : P.globals.size ≤ γ.hs) (T : Nat → Prop) (hT : ∀ b, T b → γ.S 0 b ∧ ∃ cs t fr, w.heap[b]? = some (.cells cs t fr))
    {ts : Array Value} (ha : VsR (diag T) ts ts) (hG : ∀ g, G g = true → T g) (R : Value → World → Prop)
    (hc : ∀ (Tp : Tape) (d : Nat), code.wp P (bodyPost P fn (fun e w' => ∃ v, e = .returned v ∧ R v w')) ⟨ts, []⟩ (re (loneW (diag T) T w) Tp d))
    (hK : ∀ γ' w' v v' ρ w1, Solo γ' w' → Later2 γ γ' → (∀ b, γ.hs ≤ b → b < γ'.hs → γ'.bk b = .priv 0) → (∀ b, b < γ.hs → w'.heap[b]? = w.heap[b]?) → w'.tape = w.tape → R v w1 → VR ρ v v' → SameN T γ.hs ρ w1 w' → LV P ty top Post 0 γ' w' (Conc.G (c.finish v') rest)) :
    LV P ty top Post 0 γ w (Conc.G (b.at ⟨ts, []⟩ [.code code]) (c :: rest)) := by
  have h1 := wayA_code (P := P) (G := G) (fs := fs) (F := T) (S := fun _ => False) (ρ := diag T) (c := c) (rest := rest) (R := R) hfs hf hfi hok hbf hbk (w0 := loneW (diag T) T w) (lone_wr s hgl hT) ha (fun g hg => ⟨rfl, hG g hg⟩) (fun a b h => .inr (by obtain ⟨rfl, h⟩ := h; exact h)) (fun a b h => h.1) (lone_size) hc
  refine lives_wayA h1 γ s (fun _ q => q.elim) (fun b hb => (hT b hb).1) fun S' g' w' γ' s' l hnew hold htp hS' hk => ?_
  obtain ⟨v, v', ρ1, w1, rfl, hv, ⟨Tp, d, hR⟩, hw, hS, _, hid⟩ := hk
  refine hK γ' w' v v' ρ1 (re w1 Tp d) s' l hnew (fun b hb => hold b hb fun q => q) htp hR hv ?_
  exact same_of (gs := P.globals.size) (w1 := re w1 Tp d) (S := S') hw hid hS (fun b q => (hS' b q).elim (fun q => q.elim) id) fun b q => (hT b q).1.1
end
end Go.Proofs.YtbicafgmfgdckaaDoor
namespace Go.Proofs.YtbicafgmfgdckaaDoor
open Go Go.RowKit Go.Conc
section
variable {γ γ' γ2 : Gho} {w w' w2 w1 : World} {a : Option Addr} {cap : Nat} {ls : Txts} {Tp : Tape} {d : Nat} {ρ : Ren}
/-- Main's own rows of cells. -/
def ownT (γ : Gho) (w : World) : Nat → Prop := fun b => γ.S 0 b ∧ ∃ cs t fr, w.heap[b]? = some (.cells cs t fr)
/-- The world of a lone call. -/
noncomputable abbrev LW (γ : Gho) (w : World) (Tp : Tape) (d : Nat) : World := re (loneW (diag (ownT γ w)) (ownT γ w) w) Tp d
theorem lw_size : (LW γ w Tp d).heap.size = w.heap.size := lone_size
def Held (γ : Gho) (w : World) (a : Option Addr) : Prop := ∀ ad, a = some ad → ad.spot = none ∧ ownT γ w ad.block
theorem held_none : Held γ w none := fun ad e => by cases e
theorem Held.vr {n c : Nat} (h : Held γ w a) : VR (diag (ownT γ w)) (.slice a n c) (.slice a n c) := by
  cases a with
  | none => exact .snil _ _
  | some ad => exact .slice _ _ ⟨⟨rfl, (h ad rfl).2⟩, rfl, rfl⟩
theorem lw_cell {ad : Addr} {v : Value} (h : w.cell? ad = some v) (hv : VR (diag (ownT γ w)) v v) : (LW γ w Tp d).cell? ad = some v := lone_cell (ρ := diag (ownT γ w)) (F := ownT γ w) h hv
theorem lw_int {ad : Addr} {k : IntKind} {n : Int} (h : w.cell? ad = some (.int k n)) : (LW γ w Tp d).cell? ad = some (.int k n) := lw_cell h (.int k n)
theorem lw_reads {l : List (BitVec 8)} (h : Reads w a cap l) : Reads (LW γ w Tp d) a cap l := ⟨h.fits, h.room, h.null, h.bytes.imp id fun ⟨b, off, e, h⟩ => ⟨b, off, e, fun i hi => lw_int (h i hi)⟩⟩
structure TextsH (γ : Gho) (w : World) (a : Option Addr) (cap : Nat) (ls : Txts) : Prop where
  txts : Texts w a cap ls
  held : Held γ w a
  rows : ∀ b off i x n c, a = some ⟨b, off, none⟩ → i < ls.length → w.cell? ⟨b, off + i, none⟩ = some (.slice x n c) → Held γ w x ∧ ∀ ad, x = some ad → 0 < n
theorem TextsH.lone (h : TextsH γ w a cap ls) : Texts (LW γ w Tp d) a cap ls := by
  refine ⟨h.txts.fits, h.txts.room, ?_⟩
  rcases h.txts.rows with e | ⟨b, off, e, hb⟩
  · exact .inl e
  · refine .inr ⟨b, off, e, fun i hi => ?_⟩
    obtain ⟨x, c, h1, h2⟩ := hb i hi
    exact ⟨x, c, lw_cell h1 (h.rows b off i x _ c e hi h1).1.vr, lw_reads h2⟩
structure RowsH {α : Type} (enc : α → List Value) (K : Nat) (γ : Gho) (w : World) (a : Option Addr) (cap : Nat) (l : List α) : Prop where
  rows : RowsC enc K w a cap l
  held : Held γ w a
section
variable {α : Type} {enc : α → List Value} {K : Nat} {l : List α}
theorem RowsH.lone (h : RowsH enc K γ w a cap l) (hi : ∀ x ∈ l, ∀ v ∈ enc x, ∃ k n, v = .int k n) : RowsC enc K (LW γ w Tp d) a cap l := by
  refine ⟨h.rows.fits, h.rows.room, ?_⟩
  rcases h.rows.rows with e | ⟨b, off, e, hb⟩
  · exact .inl e
  · refine .inr ⟨b, off, e, fun i hlt j v hv => ?_⟩
    obtain ⟨k, n, rfl⟩ := hi l[i] (List.getElem_mem hlt) v (List.mem_of_getElem? hv)
    exact lw_int (hb i hlt j _ hv)
end
/-- What main held it holds. -/
structure Stays (γ : Gho) (w : World) (γ' : Gho) (w' : World) : Prop where
  hs : γ.hs ≤ γ'.hs
  bk : ∀ b, b < γ.hs → γ'.bk b = γ.bk b
  heap : ∀ b, b < γ.hs → γ.bk b = .priv 0 → w'.heap[b]? = w.heap[b]?
theorem Stays.refl (γ : Gho) (w : World) : Stays γ w γ w := ⟨Nat.le_refl _, fun _ _ => rfl, fun _ _ _ => rfl⟩
theorem Stays.trans (h : Stays γ w γ' w') (h' : Stays γ' w' γ2 w2) : Stays γ w γ2 w2 :=
  ⟨Nat.le_trans h.hs h'.hs, fun b hb => (h'.bk b (Nat.lt_of_lt_of_le hb h.hs)).trans (h.bk b hb), fun b hb hp => (h'.heap b (Nat.lt_of_lt_of_le hb h.hs) ((h.bk b hb).trans hp)).trans (h.heap b hb hp)⟩
theorem Stays.of (l : Later2 γ γ') (h : ∀ b, b < γ.hs → w'.heap[b]? = w.heap[b]?) : Stays γ w γ' w' := ⟨l.hs, l.bk, fun b hb _ => h b hb⟩
theorem Stays.own (h : Stays γ w γ' w') {b : Nat} (k : ownT γ w b) : ownT γ' w' b := by
  obtain ⟨⟨h1, h2⟩, cs, t, fr, h3⟩ := k
  exact ⟨⟨Nat.lt_of_lt_of_le h1 h.hs, (h.bk b h1).trans h2⟩, cs, t, fr, (h.heap b h1 h2).trans h3⟩
theorem Stays.cell (h : Stays γ w γ' w') {ad : Addr} (k : ownT γ w ad.block) : w'.cell? ad = w.cell? ad := by
  obtain ⟨⟨h1, h2⟩, _⟩ := k
  unfold World.cell?
  rw [h.heap _ h1 h2]
theorem Held.stays (h : Held γ w a) (k : Stays γ w γ' w') : Held γ' w' a := fun ad e => ⟨(h ad e).1, k.own (h ad e).2⟩
theorem Held.reads {l : List (BitVec 8)} (h : Held γ w a) (k : Stays γ w γ' w') (hr : Reads w a cap l) : Reads w' a cap l :=
  ⟨hr.fits, hr.room, hr.null, hr.bytes.imp id fun ⟨b, off, e, hb⟩ => ⟨b, off, e, fun i hi => (k.cell (ad := ⟨b, off + i, none⟩) (h _ e).2).trans (hb i hi)⟩⟩
theorem TextsH.stays (h : TextsH γ w a cap ls) (k : Stays γ w γ' w') : TextsH γ' w' a cap ls := by
  refine ⟨⟨h.txts.fits, h.txts.room, ?_⟩, h.held.stays k, fun b off i x n c e hi hc => ?_⟩
  · rcases h.txts.rows with e | ⟨b, off, e, hb⟩
    · exact .inl e
    · refine .inr ⟨b, off, e, fun i hi => ?_⟩
      obtain ⟨x, c, h1, h2⟩ := hb i hi
      have hx := h.rows b off i x _ c e hi h1
      exact ⟨x, c, (k.cell (ad := ⟨b, off + i, none⟩) (h.held _ e).2).trans h1, hx.1.reads k h2⟩
  · rw [k.cell (ad := ⟨b, off + i, none⟩) (h.held _ e).2] at hc
    obtain ⟨q1, q2⟩ := h.rows b off i x n c e hi hc
    exact ⟨q1.stays k, q2⟩
theorem RowsH.stays {α : Type} {enc : α → List Value} {K : Nat} {l : List α} (h : RowsH enc K γ w a cap l) (k : Stays γ w γ' w') : RowsH enc K γ' w' a cap l := by
  refine ⟨⟨h.rows.fits, h.rows.room, ?_⟩, h.held.stays k⟩
  rcases h.rows.rows with e | ⟨b, off, e, hb⟩
  · exact .inl e
  · refine .inr ⟨b, off, e, fun i hi j v hv => ?_⟩
    have := hb i hi j v hv
    rw [← this]
    exact k.cell (ad := ⟨b, off + i * K + j, none⟩) (h.held _ e).2
/-- What a lone call gave is main's own. -/
theorem own_of_same (sm : SameN (ownT γ w) γ.hs ρ w1 w') (st : Stays γ w γ' w') (hs' : γ'.hs = w'.heap.size) (hnew : ∀ b, γ.hs ≤ b → b < γ'.hs → γ'.bk b = .priv 0) {b : Nat} (hb : ρ b b) {cs : Array Value} {t : TypeId} {fr : Nat × Nat} (hc : w1.heap[b]? = some (.cells cs t fr)) : ownT γ' w' b := by
  rcases sm.where_ b b hb with h | h
  · exact st.own h
  · obtain ⟨cs', fr', e, _⟩ := sm.obj b cs t fr hb hc
    have hlt : b < γ'.hs := by rw [hs']; exact (Array.getElem?_eq_some_iff.1 e).1
    exact ⟨⟨hlt, hnew b h hlt⟩, cs', t, fr', e⟩
theorem cells_of_cell {ad : Addr} {v : Value} (h : w.cell? ad = some v) : ∃ cs t fr, w.heap[ad.block]? = some (.cells cs t fr) := by
  unfold World.cell? at h
  cases hb : w.heap[ad.block]? with
  | none => rw [hb] at h; cases h
  | some o =>
    cases o with
    | cells cs t fr => exact ⟨cs, t, fr, rfl⟩
    | _ => rw [hb] at h; cases h
theorem rows_of_lone {α : Type} {enc : α → List Value} {K B : Nat} {E : TypeId} {l : List α} {v v' : Value} (sm : SameN (ownT γ w) γ.hs ρ w1 w') (st : Stays γ w γ' w') (hs' : γ'.hs = w'.heap.size) (hnew : ∀ b, γ.hs ≤ b → b < γ'.hs → γ'.bk b = .priv 0)
    (ho : OwnsC enc K w1 B E v l) (hi : ∀ x ∈ l, ∀ v ∈ enc x, ∃ k n, v = .int k n) (hv : VR ρ v v') : ∃ a c, v' = .slice a l.length c ∧ RowsH enc K γ' w' a c l := by
  obtain ⟨a, c, rfl, hr, hp⟩ := ho.form
  have hsp : ∀ ad, a = some ad → ad.spot = none := fun ad e => by
    rcases hp with ⟨_, e2, _⟩ | ⟨g, e2, _⟩ <;> (rw [e] at e2; cases e2)
    rfl
  obtain ⟨rfl, hρ⟩ := sm.slice hsp hv
  refine ⟨a, c, rfl, ⟨hr.fits, hr.room, ?_⟩, fun ad e => ⟨hsp ad e, ?_⟩⟩
  · rcases hr.rows with e | ⟨b, off, e, hb⟩
    · exact .inl e
    · refine .inr ⟨b, off, e, fun i hlt j u hu => ?_⟩
      obtain ⟨k, n, rfl⟩ := hi l[i] (List.getElem_mem hlt) u (List.mem_of_getElem? hu)
      exact sm.int (hρ _ e) (hb i hlt j _ hu)
  · rcases ho.row.2 with ⟨e2, _⟩ | ⟨g, cap, cur, e2, _, hg, _⟩
    · injection e2 with e2; rw [e] at e2; cases e2
    · injection e2 with e2
      rw [e] at e2
      injection e2 with e2
      subst e2
      exact own_of_same sm st hs' hnew (hρ _ e) hg
theorem texts_of_lone {B : Nat} {E : TypeId} {v v' : Value} {vs : List Value} (sm : SameN (ownT γ w) γ.hs ρ w1 w') (st : Stays γ w γ' w') (hs' : γ'.hs = w'.heap.size) (hnew : ∀ b, γ.hs ≤ b → b < γ'.hs → γ'.bk b = .priv 0)
    (ho : OwnsRows (fun _ => False) w1 B E v vs ls) (hf : Firm vs) (hv : VR ρ v v') : ∃ a c, v' = .slice a ls.length c ∧ TextsH γ' w' a c ls := by
  obtain ⟨a, c, rfl, hnil, h1, h2⟩ := ho.form
  rcases ho.row.2 with ⟨e2, hl0⟩ | ⟨g, cap, cur, e2, _, hg, _⟩
  · injection e2 with e2 e3 e4
    subst e2 e4
    have hl : ls = [] := List.eq_nil_of_length_eq_zero hl0
    subst hl
    obtain ⟨rfl, _⟩ := sm.slice (fun ad e => by cases e) hv
    exact ⟨none, 0, rfl, ⟨h1, h2, .inl rfl⟩, held_none, fun b off i x n c e => by cases e⟩
  · injection e2 with e2 e3 e4
    subst e2 e4
    obtain ⟨rfl, hρ⟩ := sm.slice (fun ad e => by cases e; rfl) hv
    have hρg := hρ _ rfl
    have each : ∀ i, i < ls.length → ∃ x c, w1.cell? ⟨g, i, none⟩ = some (.slice x (txt ls i).length c) ∧ Reads w1 x c (txt ls i) ∧ ∀ ad, x = some ad → 0 < (txt ls i).length := fun i hi => by
      obtain ⟨g', cap', x, c, e5, h5, h6, _⟩ := ho.at_ hi
      injection e5 with e5
      injection e5 with e5
      injection e5 with e5
      subst e5
      refine ⟨x, c, h5, h6, fun ad e => ?_⟩
      subst e
      have hvs : vs.getD i undef = .slice (some ad) (txt ls i).length c := by
        have := ho.row.cells (g := g) rfl i (vs.getD i undef) (by rw [List.getElem?_eq_getElem (by rw [ho.len]; exact hi), List.getD_eq_getElem?_getD, List.getElem?_eq_getElem (by rw [ho.len]; exact hi)]; rfl)
        rw [Addr.add_lit, Nat.zero_add] at this
        rw [this] at h5
        injection h5
      exact hf i ad _ c (by rw [ho.len]; exact hi) hvs
    have hsp : ∀ i x c, i < ls.length → Reads w1 x c (txt ls i) → (∀ ad, x = some ad → 0 < (txt ls i).length) → ∀ ad, x = some ad → ad.spot = none := fun i x c hi hr hp ad e => by
      obtain ⟨b, off, e2, _⟩ := hr.bytes.resolve_left fun q => by have := hp ad e; rw [q] at this; simp at this
      rw [e] at e2; injection e2 with e2; rw [e2]
    refine ⟨_, _, rfl, ⟨h1, h2, .inr ⟨g, 0, rfl, fun i hi => ?_⟩⟩, fun ad e => ?_, fun b off i x n c e hi hc => ?_⟩
    · obtain ⟨x, c, h5, h6, h7⟩ := each i hi
      obtain ⟨q1, q2⟩ := sm.slice_cell (hsp i x c hi h6 h7) hρg h5
      refine ⟨x, c, by rw [Nat.zero_add]; exact q1, h6.fits, h6.room, h6.null, h6.bytes.imp id fun ⟨b, off, e, hb⟩ => ⟨b, off, e, fun j hj => sm.int (q2 _ e) (hb j hj)⟩⟩
    · injection e with e
      subst e
      exact ⟨rfl, own_of_same sm st hs' hnew hρg hg⟩
    · injection e with e
      injection e with e e' _
      subst e e'
      rw [Nat.zero_add] at hc
      obtain ⟨x', c', h5, h6, h7⟩ := each i hi
      obtain ⟨q1, q2⟩ := sm.slice_cell (hsp i x' c' hi h6 h7) hρg h5
      rw [q1] at hc
      injection hc with hc
      injection hc with e1 e2 e3
      subst e1 e2 e3
      refine ⟨fun ad e => ⟨hsp i _ _ hi h6 h7 ad e, ?_⟩, h7⟩
      obtain ⟨b, off, e2, hb⟩ := h6.bytes.resolve_left fun q => by have := h7 ad e; rw [q] at this; simp at this
      have hρb := q2 _ e
      have h8 := hb 0 (h7 ad e)
      obtain ⟨cs, t, fr, h9⟩ := cells_of_cell h8
      rw [e] at e2
      injection e2 with e2
      subst e2
      exact own_of_same sm st hs' hnew hρb h9
end
end Go.Proofs.YtbicafgmfgdckaaDoor
