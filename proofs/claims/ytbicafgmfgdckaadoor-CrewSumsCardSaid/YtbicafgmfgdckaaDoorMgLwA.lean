/- The law's own functions and the references pass the test of transfer. Main by itself: the law's own lone calls. crew.Wrong, main's part. The law's 'lives', main's part. -/
import Derived.Test.YtbicafgmfgdckaaDoorMgCoD
import Derived.Test.YtbicafgmfgdckaaDoorMgHeA
import Derived.Test.YtbicafgmfgdckaaDoorMgSuA
import Derived.Test.YtbicafgmfgdckaaDoorMgTxA
import Derived.Test.YtbicafgmfgdckaaDoorProg
import Derived.KernelRfl
namespace Go.Proofs.YtbicafgmfgdckaaDoor
open Go Go.Conc
def refFs : List Nat := [5, 8, 10, 11, 12, 13, 16, 17, 18, 22, 35, 36, 37, 38, 66, 67, 68]
def gNone : Nat → Bool := fun _ => false
theorem okRef : ∀ f, refFs.contains f = true → okBody Tryd.prog gNone refFs f = true := by
  have h : refFs.all (fun f => okBody Tryd.prog gNone refFs f) = true := by kernel_rfl
  intro f hf
  exact List.all_eq_true.1 h f (by simpa using hf)
end Go.Proofs.YtbicafgmfgdckaaDoor
namespace Go.Proofs.YtbicafgmfgdckaaDoor
open Go Go.RowKit Go.Conc
section
variable {top : Nat} {γ γ' γ2 : Gho} {w w' w2 w1 : World} {Post : Value → World → Prop} {c b : Frame} {rest : List Frame} {n m : Nat}
/-- Main goes on by itself: what it held it holds. -/
structure After (γ : Gho) (w : World) (γ' : Gho) (w' : World) : Prop where
  solo : Solo γ' w'
  later : Later2 γ γ'
  stays : Stays γ w γ' w'
  tape : w'.tape = w.tape
  new : ∀ b, γ.hs ≤ b → b < γ'.hs → γ'.bk b = .priv 0
/-- .. while others may have come and gone. -/
structure Goes2 (γ : Gho) (w : World) (γ' : Gho) (w' : World) : Prop where
  solo : Solo γ' w'
  stays : Stays γ w γ' w'
  tape : w'.tape = w.tape
  cnt : γ'.cnt ≤ γ.cnt + 16
theorem After.goes (h : After γ w γ' w') : Goes2 γ w γ' w' := ⟨h.solo, h.stays, h.tape, by have := h.later.cnt; omega⟩
theorem lives_lone {G : Nat → Bool} {fs : List Nat} (hfs : ∀ f, fs.contains f = true → okBody Tryd.prog G fs f = true) {f : Nat} (hf : fs.contains f = true) (s : Solo γ w) (hgl : Tryd.prog.globals.size ≤ γ.hs)
    {args : Array Value} (ha : VsR (diag (ownT γ w)) args args) (hG : ∀ g, G g = true → ownT γ w g) (R : Value → World → Prop)
    (hc : ∀ (Tp : Tape) (d : Nat), Calls Tryd.prog f args (LW γ w Tp d) (fun e w' => ∃ v, e = .returned v ∧ R v w'))
    (hK : ∀ γ' w' v v' ρ w1, After γ w γ' w' → R v w1 → VR ρ v v' → SameN (ownT γ w) γ.hs ρ w1 w' → LV Tryd.prog wgLink.tWg top Post 0 γ' w' (Conc.G (c.finish v') rest)) :
    LV Tryd.prog wgLink.tWg top Post 0 γ w (Conc.G (Frame.enter Tryd.prog f args .normal) (c :: rest)) :=
  lives_call0 hfs hf s hgl (ownT γ w) (fun b hb => ⟨hb.1, hb.2⟩) ha hG R hc fun γ' w' v v' ρ w1 s' l hnew hold htp hR hv sm => hK γ' w' v v' ρ w1 ⟨s', l, .of l hold, htp, hnew⟩ hR hv sm
theorem lives_rest {G : Nat → Bool} {fs : List Nat} (hfs : ∀ f, fs.contains f = true → okBody Tryd.prog G fs f = true) {f : Nat} {fn : Func} (hf : Tryd.prog.funcs[f]? = some fn) (hfi : (Tryd.prog.inits.idxOf? f).isNone = true) {code : Code} (hok : okCode Tryd.prog G fs code = true) (hbf : b.fn = f) (hbk : b.kind = .normal) (s : Solo γ w) (hgl : Tryd.prog.globals.size ≤ γ.hs)
    {ts : Array Value} (ha : VsR (diag (ownT γ w)) ts ts) (hG : ∀ g, G g = true → ownT γ w g) (R : Value → World → Prop)
    (hc : ∀ (Tp : Tape) (d : Nat), code.wp Tryd.prog (bodyPost Tryd.prog fn (fun e w' => ∃ v, e = .returned v ∧ R v w')) ⟨ts, []⟩ (LW γ w Tp d))
    (hK : ∀ γ' w' v v' ρ w1, After γ w γ' w' → R v w1 → VR ρ v v' → SameN (ownT γ w) γ.hs ρ w1 w' → LV Tryd.prog wgLink.tWg top Post 0 γ' w' (Conc.G (c.finish v') rest)) :
    LV Tryd.prog wgLink.tWg top Post 0 γ w (Conc.G (b.at ⟨ts, []⟩ [.code code]) (c :: rest)) :=
  lives_code0 hfs hf hfi hok hbf hbk s hgl (ownT γ w) (fun b hb => ⟨hb.1, hb.2⟩) ha hG R hc fun γ' w' v v' ρ w1 s' l hnew hold htp hR hv sm => hK γ' w' v v' ρ w1 ⟨s', l, .of l hold, htp, hnew⟩ hR hv sm
theorem vs_nil {ρ : Ren} : VsR ρ #[] #[] := VsR.empty
theorem vs_cons {ρ : Ren} {v : Value} {l : List Value} (h : VR ρ v v) (k : VsR ρ l.toArray l.toArray) : VsR ρ (v :: l).toArray (v :: l).toArray := by
  refine ⟨rfl, fun i h1 h2 => ?_⟩
  cases i with
  | zero => exact h
  | succ i =>
    have q := k.at_ i (by simpa using h1) (by simpa using h1)
    rw [List.getElem_toArray] at q ⊢
    exact q
theorem keyC_ints (k : List (BitVec 8)) : ∀ v ∈ keyC k, ∃ kd n, v = .int kd n := fun v hv => by
  obtain ⟨y, _, rfl⟩ := List.mem_map.1 hv
  exact ⟨_, _, rfl⟩
theorem keysC_ints (l : Txts) : ∀ x ∈ l, ∀ v ∈ keyC x, ∃ kd n, v = .int kd n := fun x _ => keyC_ints x
theorem intsC_ints (l : List Nat) : ∀ x ∈ l, ∀ v ∈ intC x, ∃ kd n, v = .int kd n := fun x _ v hv => by
  simp only [intC, List.mem_singleton] at hv
  exact ⟨_, _, hv⟩
/-- The user's texts. -/
structure UserTexts (γ : Gho) (w : World) (a : Option Addr) (cap : Nat) (ls : Txts) : Prop where
  txts : Texts w a cap ls
  held : Held γ w a
  rows : ∀ b off i x n c, a = some ⟨b, off, none⟩ → i < ls.length → w.cell? ⟨b, off + i, none⟩ = some (.slice x n c) → Held γ w x ∨ (n = 0 ∧ c = 0)
theorem UserTexts.lone {a : Option Addr} {cap : Nat} {ls : Txts} {Tp : Tape} {d : Nat} (h : UserTexts γ w a cap ls) : Texts (LW γ w Tp d) a cap ls := by
  refine ⟨h.txts.fits, h.txts.room, ?_⟩
  rcases h.txts.rows with e | ⟨b, off, e, hb⟩
  · exact .inl e
  · refine .inr ⟨b, off, e, fun i hi => ?_⟩
    obtain ⟨x, c, h1, h2⟩ := hb i hi
    rcases h.rows b off i x _ c e hi h1 with hh | ⟨h0, hc0⟩
    · exact ⟨x, c, lw_cell h1 hh.vr, lw_reads h2⟩
    · subst hc0
      rw [h0] at h1
      have h3 : (LW γ w Tp d).cell? ⟨b, off + i, none⟩ = some (tameV (diag (ownT γ w)) (.slice x 0 0)) := lone_cell_tame h1
      have ht : txt ls i = [] := List.eq_nil_of_length_eq_zero h0
      cases x with
      | none =>
        rw [tame_self (.snil _ _)] at h3
        exact ⟨none, 0, by rw [h0]; exact h3, by rw [ht]; exact reads_nil _⟩
      | some ad =>
        obtain ⟨ad', e2⟩ := tame_void (ρ := diag (ownT γ w)) ad
        rw [e2] at h3
        exact ⟨some ad', 0, by rw [h0]; exact h3, by rw [ht]; exact ⟨by simp, by omega, fun e => (by cases e), .inl rfl⟩⟩
theorem lives_few {a : Option Addr} {cap : Nat} {ls : Txts} (s : Solo γ w) (hgl : Tryd.prog.globals.size ≤ γ.hs) (hu : UserTexts γ w a cap ls)
    (hK : ∀ γ' w' x cx, After γ w γ' w' → TextsH γ' w' x cx (fewOf ls) → LV Tryd.prog wgLink.tWg top Post 0 γ' w' (Conc.G (c.finish (.slice x (fewOf ls).length cx)) rest)) :
    LV Tryd.prog wgLink.tWg top Post 0 γ w (Conc.G (Frame.enter Tryd.prog 5 #[.slice a ls.length cap] .normal) (c :: rest)) := by
  refine lives_lone okRef (by decide) s hgl (vs_cons hu.held.vr vs_nil) (fun g hg => by cases hg) (fun v w1 => ∃ B vs, OwnsRows (fun _ => False) w1 B 44 v vs (fewOf ls) ∧ Firm vs) (fun Tp d => (few_any a cap ls _ hu.lone).mono fun e w' ⟨v, vs, e1, h1, h2, _⟩ => ⟨v, e1, _, vs, h1, h2⟩) fun γ' w' v v' ρ w1 A ⟨B, vs, h1, h2⟩ hv sm => ?_
  obtain ⟨x, cx, rfl, hx⟩ := texts_of_lone sm A.stays A.solo.hs A.new h1 h2 hv
  exact hK γ' w' x cx A hx
theorem refRight_any (m : Int) (w : World) : Calls Tryd.prog 8 #[.int .i64 m] w fun e w' => e = .returned (.bool (decide (1 ≤ m) && decide (m ≤ 16))) ∧ w' = w := by
  by_cases h1 : 1 ≤ m
  · by_cases h2 : m ≤ 16
    · go_enter Tryd.func8, Tryd.ntmps8
      go_wp2
      go_ret
      exact ⟨ret_bool (by simp [h1, h2]), rfl⟩
    · go_enter Tryd.func8, Tryd.ntmps8
      go_wp2
      go_ret
      exact ⟨ret_bool (by simp [h1, h2]), rfl⟩
  · go_enter Tryd.func8, Tryd.ntmps8
    go_wp2
    go_ret
    exact ⟨ret_bool (by have q : decide (1 ≤ m) = false := decide_eq_false (by omega); rw [q]; rfl), rfl⟩
theorem lives_refRight {m : Int} (s : Solo γ w) (hgl : Tryd.prog.globals.size ≤ γ.hs)
    (hK : ∀ γ' w', After γ w γ' w' → LV Tryd.prog wgLink.tWg top Post 0 γ' w' (Conc.G (c.finish (.bool (decide (1 ≤ m) && decide (m ≤ 16)))) rest)) :
    LV Tryd.prog wgLink.tWg top Post 0 γ w (Conc.G (Frame.enter Tryd.prog 8 #[.int .i64 m] .normal) (c :: rest)) := by
  refine lives_lone okRef (by decide) s hgl (vs_cons (.int _ _) vs_nil) (fun g hg => by cases hg) (fun v w1 => v = .bool (decide (1 ≤ m) && decide (m ≤ 16))) (fun Tp d => (refRight_any m _).mono fun e w' h => ⟨_, h.1, rfl⟩) fun γ' w' v v' ρ w1 A h hv sm => ?_
  subst h
  rw [vr_bool hv]
  exact hK γ' w' A
theorem lives_refSums {a : Option Addr} {cap : Nat} {ls : Txts} (s : Solo γ w) (hgl : Tryd.prog.globals.size ≤ γ.hs) (hu : TextsH γ w a cap ls) (hn : ls.length ≤ 100000) (hl : ∀ r ∈ ls, r.length ≤ 1000000)
    (hK : ∀ γ' w' x cx, After γ w γ' w' → RowsH keyC 32 γ' w' x cx (ls.map Sha.sum) → LV Tryd.prog wgLink.tWg top Post 0 γ' w' (Conc.G (c.finish (.slice x (ls.map Sha.sum).length cx)) rest)) :
    LV Tryd.prog wgLink.tWg top Post 0 γ w (Conc.G (Frame.enter Tryd.prog 11 #[.slice a ls.length cap] .normal) (c :: rest)) := by
  refine lives_lone okRef (by decide) s hgl (vs_cons hu.held.vr vs_nil) (fun g hg => by cases hg) (fun v w1 => ∃ B, OwnsC keyC 32 w1 B 39 v (ls.map Sha.sum)) (fun Tp d => (refSums_any a cap ls _ hu.lone hn hl).mono fun e w' ⟨v, e1, h1, _⟩ => ⟨v, e1, _, h1⟩) fun γ' w' v v' ρ w1 A ⟨B, h1⟩ hv sm => ?_
  obtain ⟨x, cx, rfl, hx⟩ := rows_of_lone sm A.stays A.solo.hs A.new h1 (keysC_ints _) hv
  exact hK γ' w' x cx A hx
theorem lives_sameKeys {a a2 : Option Addr} {cap cap2 : Nat} {L : Txts} (s : Solo γ w) (hgl : Tryd.prog.globals.size ≤ γ.hs) (hk : ∀ k ∈ L, k.length = 32) (h1 : RowsH keyC 32 γ w a cap L) (h2 : RowsH keyC 32 γ w a2 cap2 L)
    (hK : ∀ γ' w', After γ w γ' w' → LV Tryd.prog wgLink.tWg top Post 0 γ' w' (Conc.G (c.finish (.bool true)) rest)) :
    LV Tryd.prog wgLink.tWg top Post 0 γ w (Conc.G (Frame.enter Tryd.prog 10 #[.slice a L.length cap, .slice a2 L.length cap2] .normal) (c :: rest)) := by
  refine lives_lone okRef (by decide) s hgl (vs_cons h1.held.vr (vs_cons h2.held.vr vs_nil)) (fun g hg => by cases hg) (fun v w1 => v = .bool true) (fun Tp d => (sameKeys_any _ a a2 cap cap2 L hk (h1.lone (keysC_ints _)) (h2.lone (keysC_ints _))).mono fun e w' h => ⟨_, h.1, rfl⟩) fun γ' w' v v' ρ w1 A h hv sm => ?_
  subst h
  rw [vr_bool hv]
  exact hK γ' w' A
theorem lives_refWrong {a a2 : Option Addr} {cap cap2 : Nat} {ls I : Txts} (s : Solo γ w) (hgl : Tryd.prog.globals.size ≤ γ.hs) (hu : TextsH γ w a cap ls) (h2 : RowsH keyC 32 γ w a2 cap2 I) (hk : ∀ k ∈ I, k.length = 32) (hlen : I.length = ls.length) (hn : ls.length ≤ 100000) (hl : ∀ r ∈ ls, r.length ≤ 1000000)
    (hK : ∀ γ' w' x cx, After γ w γ' w' → RowsH intC 1 γ' w' x cx (wrongs (ls.map Sha.sum) I ls.length) → LV Tryd.prog wgLink.tWg top Post 0 γ' w' (Conc.G (c.finish (.slice x (wrongs (ls.map Sha.sum) I ls.length).length cx)) rest)) :
    LV Tryd.prog wgLink.tWg top Post 0 γ w (Conc.G (Frame.enter Tryd.prog 13 #[.slice a ls.length cap, .slice a2 I.length cap2] .normal) (c :: rest)) := by
  refine lives_lone okRef (by decide) s hgl (vs_cons hu.held.vr (vs_cons h2.held.vr vs_nil)) (fun g hg => by cases hg) (fun v w1 => ∃ B, OwnI w1 B v (wrongs (ls.map Sha.sum) I ls.length)) (fun Tp d => (refWrong_any a a2 cap cap2 ls I _ hu.lone (h2.lone (keysC_ints _)) hk hlen hn hl).mono fun e w' ⟨v, e1, h1, _⟩ => ⟨v, e1, _, h1⟩) fun γ' w' v v' ρ w1 A ⟨B, h1⟩ hv sm => ?_
  obtain ⟨x, cx, rfl, hx⟩ := rows_of_lone sm A.stays A.solo.hs A.new h1 (intsC_ints _) hv
  exact hK γ' w' x cx A hx
theorem lives_sameInts {a a2 : Option Addr} {cap cap2 : Nat} {L : List Nat} (s : Solo γ w) (hgl : Tryd.prog.globals.size ≤ γ.hs) (h1 : RowsH intC 1 γ w a cap L) (h2 : RowsH intC 1 γ w a2 cap2 L)
    (hK : ∀ γ' w', After γ w γ' w' → LV Tryd.prog wgLink.tWg top Post 0 γ' w' (Conc.G (c.finish (.bool true)) rest)) :
    LV Tryd.prog wgLink.tWg top Post 0 γ w (Conc.G (Frame.enter Tryd.prog 12 #[.slice a L.length cap, .slice a2 L.length cap2] .normal) (c :: rest)) := by
  refine lives_lone okRef (by decide) s hgl (vs_cons h1.held.vr (vs_cons h2.held.vr vs_nil)) (fun g hg => by cases hg) (fun v w1 => v = .bool true) (fun Tp d => (sameInts_any _ a a2 cap cap2 L (h1.lone (intsC_ints _)) (h2.lone (intsC_ints _))).mono fun e w' h => ⟨_, h.1, rfl⟩) fun γ' w' v v' ρ w1 A h hv sm => ?_
  subst h
  rw [vr_bool hv]
  exact hK γ' w' A
/-- What stands in the block that Sums filled. -/
theorem rows_of_sums {rows : Txts} {out : Nat} (hn : n = rows.length) (hn2 : n ≤ 1000) (hout : ∃ cells, w.heap[out]? = some (.cells cells 39 (0, 0)) ∧ cells.size = 32 * n ∧ ∀ x, x < n → ∀ o, o < 32 → cells[32 * x + o]? = some (sumVal rows x o)) (hS : γ.S 0 out) : RowsH keyC 32 γ w (some ⟨out, 0, none⟩) n (rows.map Sha.sum) := by
  obtain ⟨cells, h1, h2, h3⟩ := hout
  refine ⟨⟨by rw [List.length_map]; omega, by omega, .inr ⟨out, 0, rfl, fun i hi j v hv => ?_⟩⟩, fun ad e => by injection e with e; subst e; exact ⟨rfl, hS, _, _, _, h1⟩⟩
  rw [List.length_map] at hi
  rw [List.getElem_map] at hv
  have hj : j < 32 := by
    have := (List.getElem?_eq_some_iff.1 hv).1
    simp only [keyC, List.length_map, sum_length] at this
    exact this
  have h4 := h3 i (by omega) j hj
  unfold World.cell?
  rw [h1]
  simp only [Option.isSome_none, Bool.false_eq_true, if_false]
  rw [show 0 + i * 32 + j = 32 * i + j by omega, h4]
  unfold sumVal
  rw [List.getD_eq_getElem?_getD, List.getElem?_eq_getElem hi, Option.getD_some, ← hv]
  simp [keyC, byteAt, List.getD_eq_getElem?_getD, List.getElem?_eq_getElem (show j < (Sha.sum rows[i]).length by rw [sum_length]; exact hj)]
/-- Main's own texts, in a snapshot. -/
theorem TextsH.mem {a : Option Addr} {cap : Nat} {ls : Txts} (h : TextsH γ w a cap ls) (hs : γ.hs = w.heap.size) (hn : n = ls.length) (hl : ∀ r ∈ ls, r.length ≤ 1048576) (hk : KTab w) (hkS : γ.bk 0 = .priv 0) : RowsMem (snapW γ γ.hs w) a n ls := by
  have low : ∀ b, ownT γ w b → γ.bk b = .priv 0 ∧ b ≠ γ.hs := fun b q => ⟨q.1.2, by have := q.1.1; omega⟩
  refine ⟨hn, ?_, fun i hi => snap_cell_of hkS (fun q => ?_) (hk i hi)⟩
  · rcases h.txts.rows with rfl | ⟨b, off, e, hb⟩
    · exact ⟨0, 0, fun q => absurd rfl q, fun x row hx => by simp at hx⟩
    · refine ⟨b, off, fun _ => e, fun x row hx => ?_⟩
      obtain ⟨hlt, e2⟩ := List.getElem?_eq_some_iff.1 hx
      obtain ⟨x', c, h1, h2⟩ := hb x hlt
      rw [txt_lt hlt, e2] at h1 h2
      obtain ⟨hx1, hx2⟩ := h.rows b off x x' _ c e hlt h1
      obtain ⟨p1, p2⟩ := low b (h.held _ e).2
      refine ⟨hl row (by rw [← e2]; exact List.getElem_mem hlt), x', c, snap_cell_of p1 p2 h1, ⟨h2.fits, h2.room, h2.null, h2.bytes.imp id fun ⟨b3, off3, e3, hb3⟩ => ⟨b3, off3, e3, fun i hi => ?c1⟩⟩, fun ad e3 => ?c2⟩
      case c1 =>
        obtain ⟨q1, q2⟩ := low b3 (hx1 _ e3).2
        exact snap_cell_of q1 q2 (hb3 i hi)
      case c2 =>
        obtain ⟨b4, off4, e4, hb4⟩ := h2.bytes.resolve_left fun q => by have := hx2 ad e3; rw [q] at this; simp at this
        obtain ⟨q1, q2⟩ := low ad.block (hx1 _ e3).2
        rw [e3] at e4
        injection e4 with e4
        subst e4
        exact ⟨off4 + 0, _, snap_cell_of q1 q2 (hb4 0 (hx2 _ e3))⟩
  · have h0 := hk 0 (by decide)
    have := World.block_lt_of_cell? w _ h0
    dsimp only at this
    omega
end
end Go.Proofs.YtbicafgmfgdckaaDoor
namespace Go.Proofs.YtbicafgmfgdckaaDoor
open Go Go.RowKit Go.Conc Go.Conc.Lib Go.ConcR.Gen
section
variable {top : Nat} {γ γ' γ2 : Gho} {w w' w2 w1 : World} {Post : Value → World → Prop} {c : Frame} {cs : List Frame} {n : Nat} {rows I : Txts} {la ia : Option Addr} {lc ic : Nat}
theorem vr_tuple2 {ρ : Ren} {x y v' : Value} (h : VR ρ (.tuple #[x, y]) v') : ∃ x' y', v' = .tuple #[x', y'] ∧ VR ρ x x' ∧ VR ρ y y' := by
  cases h with
  | @tuple cs cs' hs h =>
    have h2 : cs'.size = 2 := hs.symm
    obtain ⟨l⟩ := cs'
    match l, h2 with
    | [x', y'], _ =>
      have h0 := h 0 (by simp) (by simp)
      have h1 := h 1 (by simp) (by simp)
      exact ⟨x', y', rfl, by simpa using h0, by simpa using h1⟩
theorem ts7_vr {ρ : Ren} {la ia : Option Addr} {n lc k ic : Nat} {m : Int} {sv e : Value} (h1 : VR ρ (.slice la n lc) (.slice la n lc)) (h2 : VR ρ (.slice ia k ic) (.slice ia k ic)) (h3 : VR ρ sv sv) (h4 : VR ρ e e) : VsR ρ (ts7 la n lc ia k ic m sv e) (ts7 la n lc ia k ic m sv e) := by
  have ht : VR ρ (.tuple #[sv, e]) (.tuple #[sv, e]) := .tuple rfl (vs_cons h3 (vs_cons h4 vs_nil)).at_
  refine VsR.append (vs_cons h1 (vs_cons h2 (vs_cons (.int _ _) (vs_cons vr_undef (vs_cons vr_undef (vs_cons vr_undef (vs_cons (.snil _ _) (vs_cons (.int _ _) (vs_cons h3 (vs_cons h4 (vs_cons vr_undef (vs_cons vr_undef (vs_cons vr_undef (vs_cons ht (vs_cons h1 (vs_cons (.int _ _) (vs_cons ht (vs_cons h3 (vs_cons h4 vs_nil))))))))))))))))))) ⟨rfl, fun i h1 h2 => ?_⟩
  simp only [Array.getElem_replicate]
  exact vr_undef
set_option maxRecDepth 100000 in
set_option maxHeartbeats 8000000 in
theorem lives_wrong {m : Int} (s0 : Solo γ w) (hgl : Tryd.prog.globals.size ≤ γ.hs) (hcnt : γ.cnt + 16 ≤ top) (hn : rows.length ≤ 1000) (hl : ∀ r ∈ rows, r.length ≤ 1000000) (hk : KTab w) (hkS : γ.bk 0 = .priv 0)
    (ht : TextsH γ w la lc rows) (hi : RowsH keyC 32 γ w ia ic I) (hkey : ∀ k ∈ I, k.length = 32)
    (hGood : 1 ≤ m ∧ m ≤ 16 → I.length = rows.length → ∀ γ' w' x cx, Goes2 γ w γ' w' → RowsH intC 1 γ' w' x cx (wrongs (rows.map Sha.sum) I rows.length) → LV Tryd.prog wgLink.tWg top Post 0 γ' w' (G (c.finish (.tuple #[.slice x (wrongs (rows.map Sha.sum) I rows.length).length cx, .int .i64 0])) cs))
    (hOrder : 1 ≤ m ∧ m ≤ 16 → I.length ≠ rows.length → ∀ γ' w', Goes2 γ w γ' w' → LV Tryd.prog wgLink.tWg top Post 0 γ' w' (G (c.finish (.tuple #[.slice none 0 0, .int .i64 18])) cs))
    (hBad : ¬ (1 ≤ m ∧ m ≤ 16) → ∀ γ' w', Goes2 γ w γ' w' → LV Tryd.prog wgLink.tWg top Post 0 γ' w' (G (c.finish (.tuple #[.slice none 0 0, .int .i64 2])) cs)) :
    LV Tryd.prog wgLink.tWg top Post 0 γ w (G ((base 7).at ⟨#[.slice la rows.length lc, .slice ia I.length ic, .int .i64 m] ++ Array.replicate 45 undef, []⟩ [.code (Tryd.f7.body.getD .skip)]) (c :: cs)) := by
  have hg : γ.tag 0 ≠ .gone := s0.ng
  simp only [Tryd.f7, Option.getD_some]
  walk_nrm
  refine lives_ctl rfl hg (fun _ => stepG_seq) ?_
  refine lives_ctl rfl hg (fun _ => stepG_region) ?_
  simp only [List.size_toArray, List.length_cons, List.length_nil, Nat.reduceAdd, Nat.zero_add, List.range, List.range.loop]
  refine lives_pure rfl hg (fun wV => ?_)
  refine goes_oper_k rfl rfl (by k_ne) (fun W hW => ?_)
  go_simp
  refine hW _ _ ⟨⟨rfl, no_listed (by simp [go_sem])⟩, ?_⟩
  clear hW
  clear W wV
  try walk_nrm
  refine lives_pure rfl hg (fun wV => ?_)
  refine goes_oper_k rfl rfl (by k_ne) (fun W hW => ?_)
  go_simp
  refine hW _ _ ⟨⟨rfl, no_listed (by simp [go_sem])⟩, ?_⟩
  clear hW
  clear W wV
  try walk_nrm
  refine lives_ctl rfl hg (fun _ => stepG_region_end) ?_
  refine lives_ctl rfl hg (fun _ => stepG_seq) ?_
  refine lives_ctl rfl hg (fun _ => stepG_region) ?_
  simp only [List.size_toArray, List.length_cons, List.length_nil, Nat.reduceAdd, Nat.zero_add, List.range, List.range.loop]
  refine lives_pure rfl hg (fun wV => ?_)
  refine goes_oper_k rfl rfl (by k_ne) (fun W hW => ?_)
  go_simp
  refine hW _ _ ⟨⟨rfl, no_listed (by simp [go_sem])⟩, ?_⟩
  clear hW
  clear W wV
  try walk_nrm
  refine lives_pure rfl hg (fun wV => ?_)
  refine goes_oper_k rfl rfl (by k_ne) (fun W hW => ?_)
  go_simp
  refine hW _ _ ⟨⟨rfl, no_listed (by simp [go_sem])⟩, ?_⟩
  clear hW
  clear W wV
  try walk_nrm
  refine lives_ctl rfl hg (fun _ => stepG_callv (first := #[]) (caps := #[]) (vs := #[.slice la rows.length lc, .int .i64 m]) rfl rfl (by k_ne) rfl rfl (by simp [Act.eval]) Tryd.func6 (by kernel_rfl) rfl) ?_
  refine lives_sums (n := rows.length) (rows := rows) s0 hn (ht.mem s0.hs rfl (fun r hr => by have := hl r hr; omega) hk hkS) hgl hcnt (fun W0 hW0 h1 h16 γ1 w1 out s1 e1 e2 e3 e4 e5 e6 e7 e8 => ?_) (fun hm γ1 w1 s1 l1 e1 e2 => ?_)
  · rw [Frame.finish_at]
    have st : Stays γ w γ1 w1 := ⟨by omega, e5, e6⟩
    clear hg
    have hg : γ1.tag 0 ≠ .gone := s1.ng
    walk_nrm
    refine lives_pure rfl hg (fun wV => ?_)
    refine goes_oper_k rfl rfl (by k_ne) (fun W hW => ?_)
    go_simp
    refine hW _ _ ⟨⟨rfl, no_listed (by simp [go_sem])⟩, ?_⟩
    clear hW
    clear W wV
    try walk_nrm
    refine lives_pure rfl hg (fun wV => ?_)
    refine goes_oper_k rfl rfl (by k_ne) (fun W hW => ?_)
    go_simp
    refine hW _ _ ⟨⟨rfl, no_listed (by simp [go_sem])⟩, ?_⟩
    clear hW
    clear W wV
    try walk_nrm
    refine lives_pure rfl hg (fun wV => ?_)
    refine goes_oper_k rfl rfl (by k_ne) (fun W hW => ?_)
    go_simp
    refine hW _ _ ⟨⟨rfl, no_listed (by simp [go_sem])⟩, ?_⟩
    clear hW
    clear W wV
    try walk_nrm
    refine lives_pure rfl hg (fun wV => ?_)
    refine goes_oper_k rfl rfl (by k_ne) (fun W hW => ?_)
    go_simp
    refine hW _ _ ⟨⟨rfl, no_listed (by simp [go_sem])⟩, ?_⟩
    clear hW
    clear W wV
    try walk_nrm
    refine lives_pure rfl hg (fun wV => ?_)
    refine goes_oper_k rfl rfl (by k_ne) (fun W hW => ?_)
    go_simp
    refine hW _ _ ⟨⟨rfl, no_listed (by simp [go_sem])⟩, ?_⟩
    clear hW
    clear W wV
    try walk_nrm
    refine lives_ctl rfl hg (fun _ => stepG_region_end) ?_
    have hS1 : γ1.S 0 out := ⟨e2, e3⟩
    have hout := rows_of_sums (γ := γ1) rfl hn e8 hS1
    have ht1 := ht.stays st
    have hi1 := hi.stays st
    have hgl1 : Tryd.prog.globals.size ≤ γ1.hs := Nat.le_trans hgl st.hs
    have hlen : (rows.map Sha.sum).length = rows.length := List.length_map _
    by_cases hq : I.length = rows.length
    · have hT := fun Tp d => wrongTail_good la ia (some ⟨out, 0, none⟩) lc ic rows.length W0 (rows.map Sha.sum) I (LW γ1 w1 Tp d) (hout.lone (keysC_ints _)) (hi1.lone (keysC_ints _)) (fun k hk => by obtain ⟨r, _, rfl⟩ := List.mem_map.1 hk; exact sum_length r) hkey (by rw [hlen]; exact hq) (by rw [hlen]; omega)
      have hV := ts7_vr (n := rows.length) (k := I.length) (m := W0) (e := .int .i64 0) (ht1.held.vr (n := rows.length) (c := lc)) (hi1.held.vr (n := I.length) (c := ic)) (hout.held.vr (n := rows.length) (c := rows.length)) (.int _ _)
      rw [hlen] at hT
      simp only [tail7, ts7, Tryd.f7, Option.getD_some, Array.replicate_succ, Array.replicate_zero, List.push_toArray, List.append_toArray, List.nil_append, List.cons_append] at hT hV
      refine lives_rest okRef Tryd.func7 (by kernel_rfl) (by kernel_rfl) rfl rfl s1 hgl1 hV (fun g hg => by cases hg) _ hT (fun γ2 w2 v v' ρ w3 A hR hv sm => ?_)
      obtain ⟨x, rfl, B, hx⟩ := hR
      obtain ⟨x', y', rfl, hv1, hv2⟩ := vr_tuple2 hv
      obtain rfl := vr_int hv2
      obtain ⟨xa, xc, rfl, hX⟩ := rows_of_lone sm A.stays A.solo.hs A.new hx (intsC_ints _) hv1
      exact hGood ⟨by omega, by omega⟩ hq γ2 w2 xa xc ⟨A.solo, st.trans A.stays, A.tape.trans e7, by have := A.later.cnt; omega⟩ hX
    · have hT := fun Tp d => wrongTail_order la ia (some ⟨out, 0, none⟩) rows.length lc I.length ic rows.length rows.length W0 (LW γ1 w1 Tp d) hq
      have hV := ts7_vr (n := rows.length) (k := I.length) (m := W0) (e := .int .i64 0) (ht1.held.vr (n := rows.length) (c := lc)) (hi1.held.vr (n := I.length) (c := ic)) (hout.held.vr (n := rows.length) (c := rows.length)) (.int _ _)
      simp only [tail7, ts7, Tryd.f7, Option.getD_some, Array.replicate_succ, Array.replicate_zero, List.push_toArray, List.append_toArray, List.nil_append, List.cons_append] at hT hV
      refine lives_rest okRef Tryd.func7 (by kernel_rfl) (by kernel_rfl) rfl rfl s1 hgl1 hV (fun g hg => by cases hg) _ hT (fun γ2 w2 v v' ρ w3 A hR hv sm => ?_)
      subst hR
      obtain ⟨x', y', rfl, hv1, hv2⟩ := vr_tuple2 hv
      obtain rfl := vr_int hv2
      obtain ⟨rfl, _⟩ := sm.slice (fun ad e => by cases e) hv1
      exact hOrder ⟨by omega, by omega⟩ hq γ2 w2 ⟨A.solo, st.trans A.stays, A.tape.trans e7, by have := A.later.cnt; omega⟩
  · rw [Frame.finish_at]
    have st : Stays γ w γ1 w1 := .of l1 e1
    clear hg
    have hg : γ1.tag 0 ≠ .gone := s1.ng
    walk_nrm
    refine lives_pure rfl hg (fun wV => ?_)
    refine goes_oper_k rfl rfl (by k_ne) (fun W hW => ?_)
    go_simp
    refine hW _ _ ⟨⟨rfl, no_listed (by simp [go_sem])⟩, ?_⟩
    clear hW
    clear W wV
    try walk_nrm
    refine lives_pure rfl hg (fun wV => ?_)
    refine goes_oper_k rfl rfl (by k_ne) (fun W hW => ?_)
    go_simp
    refine hW _ _ ⟨⟨rfl, no_listed (by simp [go_sem])⟩, ?_⟩
    clear hW
    clear W wV
    try walk_nrm
    refine lives_pure rfl hg (fun wV => ?_)
    refine goes_oper_k rfl rfl (by k_ne) (fun W hW => ?_)
    go_simp
    refine hW _ _ ⟨⟨rfl, no_listed (by simp [go_sem])⟩, ?_⟩
    clear hW
    clear W wV
    try walk_nrm
    refine lives_pure rfl hg (fun wV => ?_)
    refine goes_oper_k rfl rfl (by k_ne) (fun W hW => ?_)
    go_simp
    refine hW _ _ ⟨⟨rfl, no_listed (by simp [go_sem])⟩, ?_⟩
    clear hW
    clear W wV
    try walk_nrm
    refine lives_pure rfl hg (fun wV => ?_)
    refine goes_oper_k rfl rfl (by k_ne) (fun W hW => ?_)
    go_simp
    refine hW _ _ ⟨⟨rfl, no_listed (by simp [go_sem])⟩, ?_⟩
    clear hW
    clear W wV
    try walk_nrm
    refine lives_ctl rfl hg (fun _ => stepG_region_end) ?_
    have ht1 := ht.stays st
    have hi1 := hi.stays st
    have hgl1 : Tryd.prog.globals.size ≤ γ1.hs := Nat.le_trans hgl st.hs
    have hT := fun Tp d => wrongTail_bad la ia rows.length lc I.length ic m (LW γ1 w1 Tp d)
    have hV := ts7_vr (n := rows.length) (k := I.length) (m := m) (e := .int .i64 2) (ht1.held.vr (n := rows.length) (c := lc)) (hi1.held.vr (n := I.length) (c := ic)) (.snil 0 0) (.int _ _)
    simp only [tail7, ts7, Tryd.f7, Option.getD_some, Array.replicate_succ, Array.replicate_zero, List.push_toArray, List.append_toArray, List.nil_append, List.cons_append] at hT hV
    refine lives_rest okRef Tryd.func7 (by kernel_rfl) (by kernel_rfl) rfl rfl s1 hgl1 hV (fun g hg => by cases hg) _ hT (fun γ2 w2 v v' ρ w3 A hR hv sm => ?_)
    subst hR
    obtain ⟨x', y', rfl, hv1, hv2⟩ := vr_tuple2 hv
    obtain rfl := vr_int hv2
    obtain ⟨rfl, _⟩ := sm.slice (fun ad e => by cases e) hv1
    exact hBad hm γ2 w2 ⟨A.solo, st.trans A.stays, A.tape.trans e2, by have := A.later.cnt; have := l1.cnt; omega⟩
end
end Go.Proofs.YtbicafgmfgdckaaDoor
namespace Go.Proofs.YtbicafgmfgdckaaDoor
open Go Go.RowKit Go.Conc Go.Conc.Lib Go.ConcR.Gen
def abc : List (BitVec 8) := [97, 98, 99]
theorem abc_sum : byteAt (Sha.sum abc) 0 = 186 := by kernel_rfl
noncomputable def tail9 : Code := match Tryd.f9.body.getD .skip with
  | .seq _ (.seq _ c) => c
  | _ => .skip
/-- The slots there. -/
def ts9 (x y sv e : Value) : Array Value := #[.bool false, sv, e, .tuple #[sv, e], x, x, y, .tuple #[sv, e], sv, e] ++ Array.replicate 14 undef
theorem ts9_vr {ρ : Ren} {x y sv e : Value} (h1 : VR ρ x x) (h2 : VR ρ y y) (h3 : VR ρ sv sv) (h4 : VR ρ e e) : VsR ρ (ts9 x y sv e) (ts9 x y sv e) := by
  have ht : VR ρ (.tuple #[sv, e]) (.tuple #[sv, e]) := .tuple rfl (vs_cons h3 (vs_cons h4 vs_nil)).at_
  refine VsR.append (vs_cons (.bool _) (vs_cons h3 (vs_cons h4 (vs_cons ht (vs_cons h1 (vs_cons h1 (vs_cons h2 (vs_cons ht (vs_cons h3 (vs_cons h4 vs_nil)))))))))) ⟨rfl, fun i h1 h2 => ?_⟩
  simp only [Array.getElem_replicate]
  exact vr_undef
theorem livesTail_any (x y : Value) (oa : Option Addr) (oc : Nat) (w : World) (hS : RowsC keyC 32 w oa oc [Sha.sum abc]) :
    tail9.wp Tryd.prog (bodyPost Tryd.prog Tryd.f9 fun e w' => ∃ v, e = .returned v ∧ v = .bool true) ⟨ts9 x y (.slice oa 1 oc) (.int .i64 0), []⟩ w := by
  have hcap := hS.fits
  have hroom := hS.room
  obtain ⟨b, off, rfl, hrow⟩ := hS.rows.resolve_left (by simp)
  have h0 := hrow 0 (by simp)
  have hc : w.cell? ⟨b, off + 0 * 32 + 0, none⟩ = some (.int .u8 186) := by
    refine h0 0 _ ?_
    show (keyC (Sha.sum abc))[0]? = _
    have h1 := abc_sum
    have h2 : 0 < (Sha.sum abc).length := by rw [sum_length]; decide
    rw [byteAt_lt h2] at h1
    simp [keyC, List.getElem?_eq_getElem h2, h1, U8]
  simp only [Nat.zero_mul, Nat.add_zero] at hc
  clear hrow h0 hS
  obtain ⟨fn, hfn⟩ : ∃ fn, fn = Tryd.f9 := ⟨_, rfl⟩
  rw [← hfn]
  have HFN := Lib.hid hfn
  clear hfn
  simp only [tail9, ts9, Tryd.f9, Option.getD_some, Array.replicate_succ, Array.replicate_zero, List.push_toArray, List.append_toArray, List.nil_append, List.cons_append]
  go_wp2
  obtain rfl := HFN.out
  go_ret
  exact ⟨_, rfl, rfl⟩
theorem conv_at {P : Program} (W : World) (t e : TypeId) (A : Array Obj) (cs : Array Value) (E : TypeId) (len cap : Nat) (hW : W.heap = A.push (.cells cs E)) (hs : P.underlying t = some (.slice e)) (he : P.underlying e = some (.int .u8)) :
    (convert t t (.slice (some ⟨A.size, 0, none⟩) len cap)).run P W = .ok (.slice (some ⟨A.size, 0, none⟩) len cap) { W with heap := A.push (.cells cs E (cs.size, cs.size + 1)) } := by
  have hsh : W.shape? A.size = some (E, cs.size) := by
    unfold World.shape?; rw [hW]; simp
  have hf : W.freeze ⟨A.size, cs.size, none⟩ 1 = { W with heap := A.push (.cells cs E (cs.size, cs.size + 1)) } := by
    have : W.heap.modify A.size (fun | .cells c elem (lo, hi) => .cells c elem (if lo == hi then (cs.size, cs.size + 1) else (min lo cs.size, max hi (cs.size + 1))) | o => o) = A.push (.cells cs E (cs.size, cs.size + 1)) := by
      rw [hW]
      apply Array.ext_getElem?
      intro i
      rw [Array.getElem?_modify, Array.getElem?_push, Array.getElem?_push]
      by_cases h : i = A.size
      · subst h; simp
      · simp [h, Ne.symm h]
    unfold World.freeze
    rw [if_neg (by decide)]
    exact congrArg (fun h => ({ W with heap := h } : World)) this
  simp [convert, run_underlying hs, run_underlying he, markStringish, hsh, hf]
theorem conv_ev {P : Program} (W : World) (t e : TypeId) (A : Array Obj) (cs : Array Value) (E : TypeId) (len cap : Nat) (hW : W.heap = A.push (.cells cs E)) (hs : P.underlying t = some (.slice e)) (he : P.underlying e = some (.int .u8)) :
    (convert t t (.slice (some ⟨A.size, 0, none⟩) len cap)).events P W #[] = #[] := by
  have hsh : W.shape? A.size = some (E, cs.size) := by
    unfold World.shape?; rw [hW]; simp
  simp [convert, run_underlying hs, run_underlying he, markStringish, hsh]
theorem own_last {S F : Nat → Prop} {w w' : World} {A : Array Obj} {o o' : Obj} {es : Array Event} (h : w.heap = A.push o) (h' : w'.heap = A.push o') (et : w'.tape = w.tape) (eo : w'.os = w.os) (eu : w'.output = w.output) (hS : S A.size) (he : ∀ e ∈ es, False) : Own S F w w' es :=
  ⟨by rw [h, h']; simp, et, eo, eu, fun b hb hn => by
    have hne : b ≠ A.size := fun q => hn (by rw [q]; exact hS)
    rw [h, h', Array.getElem?_push, Array.getElem?_push, if_neg hne, if_neg hne], fun e h => (he e h).elim⟩
section
variable {top : Nat} {γ γ' γ2 : Gho} {w w' w2 w1 : World} {Post : Value → World → Prop} {c : Frame} {cs : List Frame}
set_option maxRecDepth 100000 in
set_option maxHeartbeats 8000000 in
theorem lives_lives (s0 : Solo γ w) (hgl : Tryd.prog.globals.size ≤ γ.hs) (hcnt : γ.cnt + 16 ≤ top) (hk : KTab w) (hkS : γ.bk 0 = .priv 0)
    (hK : ∀ γ' w', Goes2 γ w γ' w' → LV Tryd.prog wgLink.tWg top Post 0 γ' w' (G (c.finish (.bool true)) cs)) :
    LV Tryd.prog wgLink.tWg top Post 0 γ w (G ((base 9).at ⟨#[] ++ Array.replicate 24 undef, []⟩ [.code (Tryd.f9.body.getD .skip)]) (c :: cs)) := by
  have hg : γ.tag 0 ≠ .gone := s0.ng
  simp only [Tryd.f9, Option.getD_some]
  walk_nrm
  refine lives_ctl rfl hg (fun _ => stepG_seq) ?_
  refine lives_ctl rfl hg (fun _ => stepG_region) ?_
  simp only [List.size_toArray, List.length_cons, List.length_nil, Nat.reduceAdd, Nat.zero_add, List.range, List.range.loop]
  refine lives_pure rfl hg (fun wV => ?_)
  refine goes_oper_k rfl rfl (by k_ne) (fun W hW => ?_)
  go_simp
  refine hW _ _ ⟨⟨rfl, no_listed (by simp [go_sem])⟩, ?_⟩
  clear hW
  clear W wV
  try walk_nrm
  refine lives_ctl rfl hg (fun _ => stepG_region_end) ?_
  refine lives_ctl rfl hg (fun _ => stepG_seq) ?_
  refine lives_ctl rfl hg (fun _ => stepG_region) ?_
  simp only [List.size_toArray, List.length_cons, List.length_nil, Nat.reduceAdd, Nat.zero_add, List.range, List.range.loop]
  refine solo_goes s0 rfl fun wV eV eT => ?_
  refine goes_oper_k rfl rfl (by k_ne) (fun W hW => ?_)
  go_simp
  refine hW _ _ ⟨own_push (w := wV) rfl rfl rfl rfl (no_listed (by simp [go_sem])), fun γ1 w1 h1 t1 s1 l1 b1 => ?_⟩
  replace h1 : w1.heap = (w.heap).push (Obj.cells #[Value.int .u8 97, Value.int .u8 98, Value.int .u8 99] 5) := by rw [h1]; show wV.heap.push _ = _; rw [eV]; try rfl
  replace t1 : w1.tape = w.tape := t1.trans eT
  replace b1 : γ1.bk (w.heap.size) = .priv 0 := b1 _ (by rw [s0.hs]; simp [Nat.add_assoc]) (by show _ < (wV.heap.push _).size; rw [eV]; simp [Nat.add_assoc])
  clear hW
  clear W eV eT
  clear wV
  have hg : γ1.tag 0 ≠ .gone := s1.ng
  try walk_nrm
  refine solo_goes s1 rfl fun wV eV eT => ?_
  refine goes_oper_k rfl rfl (by k_ne) (fun W hW => ?_)
  have hcv := conv_at (P := Tryd.prog) wV 44 5 w.heap #[Value.int .u8 97, Value.int .u8 98, Value.int .u8 99] 5 3 3 (eV.trans h1) (by kernel_rfl) (by kernel_rfl)
  have hev := conv_ev (P := Tryd.prog) wV 44 5 w.heap #[Value.int .u8 97, Value.int .u8 98, Value.int .u8 99] 5 3 3 (eV.trans h1) (by kernel_rfl) (by kernel_rfl)
  go_simp
  refine hW _ _ ⟨own_last (S := γ1.S 0) (eV.trans h1) rfl (by first | exact (eT.trans t1).symm | exact eT.symm) rfl rfl (show γ1.S 0 w.heap.size from ⟨by rw [s1.hs, h1]; simp, b1⟩) (no_listed (by simp [go_sem]; exact hev)), fun γ2 w2 h2 t2 s2 l2 bX => ?_⟩
  replace h2 : w2.heap = w.heap.push (Obj.cells #[Value.int .u8 97, Value.int .u8 98, Value.int .u8 99] 5 (3, 4)) := h2
  replace t2 : w2.tape = w1.tape := by first | exact t2.trans eT | exact t2.trans t1.symm | exact t2
  have b2 : γ2.bk w.heap.size = .priv 0 := (l2.bk _ (by rw [s1.hs, h1]; simp)).trans b1
  clear hW hcv hev bX
  clear W eV eT
  clear wV
  rw [t1] at t2
  have m2 := l2
  replace l2 := l1.trans l2
  have hg : γ2.tag 0 ≠ .gone := s2.ng
  try walk_nrm
  refine solo_goes s2 rfl fun wV eV eT => ?_
  refine goes_oper_k rfl rfl (by k_ne) (fun W hW => ?_)
  go_simp
  refine hW _ _ ⟨own_push (w := wV) rfl rfl rfl rfl (no_listed (by simp [go_sem])), fun γ3 w3 h3 t3 s3 l3 b3 => ?_⟩
  replace h3 : w3.heap = (w.heap.push (Obj.cells #[Value.int .u8 97, Value.int .u8 98, Value.int .u8 99] 5 (3, 4))).push (Obj.cells #[Value.slice (some ⟨w.heap.size, 0, none⟩) 3 3] 44) := by rw [h3]; show wV.heap.push _ = _; rw [eV, h2]; try rfl
  replace t3 : w3.tape = w2.tape := t3.trans eT
  replace b3 : γ3.bk (w.heap.size + 1) = .priv 0 := b3 _ (by rw [s2.hs, h2]; simp [Nat.add_assoc]) (by show _ < (wV.heap.push _).size; rw [eV, h2]; simp [Nat.add_assoc])
  clear hW
  clear W eV eT
  clear wV
  rw [t2] at t3
  have m3 := l3
  replace l3 := l2.trans l3
  have hg : γ3.tag 0 ≠ .gone := s3.ng
  try walk_nrm
  have hN : γ.hs = w.heap.size := s0.hs
  have hs3 : γ3.hs = w.heap.size + 2 := by rw [s3.hs, h3]; simp
  have H0 : w3.heap[w.heap.size]? = some (.cells #[Value.int .u8 97, Value.int .u8 98, Value.int .u8 99] 5 (3, 4)) := by
    rw [h3]
    simp only [Array.getElem?_push, Array.size_push]
    rw [if_neg (by omega)]
    try simp
  have H1 : w3.heap[w.heap.size + 1]? = some (.cells #[Value.slice (some ⟨w.heap.size, 0, none⟩) 3 3] 44 (0, 0)) := by
    rw [h3]
    simp only [Array.getElem?_push, Array.size_push]
    try simp
  have d0 : γ3.bk w.heap.size = .priv 0 := (m3.bk _ (by rw [s2.hs, h2]; simp)).trans b2
  have T0 : ownT γ3 w3 w.heap.size := ⟨⟨by omega, d0⟩, _, _, _, H0⟩
  have T1 : ownT γ3 w3 (w.heap.size + 1) := ⟨⟨by omega, b3⟩, _, _, _, H1⟩
  have c0 : ∀ i (h : i < 3), w3.cell? ⟨w.heap.size, i, none⟩ = some (U8 (byteAt abc i)) := fun i hi => by
    unfold World.cell?
    rw [H0]
    match i, hi with
    | 0, _ => rfl
    | 1, _ => rfl
    | 2, _ => rfl
  have c1 : w3.cell? ⟨w.heap.size + 1, 0, none⟩ = some (.slice (some ⟨w.heap.size, 0, none⟩) 3 3) := by
    unfold World.cell?
    rw [H1]
    rfl
  have rd : Reads w3 (some ⟨w.heap.size, 0, none⟩) 3 abc := ⟨by decide, by decide, (fun e => by cases e), .inr ⟨w.heap.size, 0, rfl, fun i hi => by rw [Nat.zero_add]; exact c0 i hi⟩⟩
  have tx : TextsH γ3 w3 (some ⟨w.heap.size + 1, 0, none⟩) 1 [abc] := by
    refine ⟨⟨by simp, by omega, .inr ⟨_, 0, rfl, fun i hi => ?_⟩⟩, fun ad e => by injection e with e; subst e; exact ⟨rfl, T1⟩, fun b off i x n cx e hi hc => ?_⟩
    · obtain rfl : i = 0 := by simpa using hi
      exact ⟨_, _, c1, rd⟩
    · obtain rfl : i = 0 := by simpa using hi
      injection e with e
      injection e with e e' _
      subst e e'
      have hc' : w3.cell? ⟨w.heap.size + 1, 0, none⟩ = some (.slice x n cx) := hc
      rw [c1] at hc'
      injection hc' with hc'
      injection hc' with e1 e2 e3
      subst e1 e2 e3
      exact ⟨fun ad e => by injection e with e; subst e; exact ⟨rfl, T0⟩, fun _ _ => by decide⟩
  have st3 : Stays γ w γ3 w3 := .of l3 fun b hb => by
    rw [h3]
    simp only [Array.getElem?_push, Array.size_push]
    rw [if_neg (by omega), if_neg (by omega)]
  have hk3 : KTab w3 := fun i hi => by
    have h := hk i hi
    have hlt := World.block_lt_of_cell? w _ h
    rw [← h]
    unfold World.cell?
    rw [st3.heap _ (by dsimp only at hlt; omega) hkS]
  have hkS3 : γ3.bk 0 = .priv 0 := by
    have hlt := World.block_lt_of_cell? w _ (hk 0 (by decide))
    dsimp only at hlt
    exact (st3.bk _ (by omega)).trans hkS
  refine lives_ctl rfl hg (fun _ => stepG_callv (first := #[]) (caps := #[]) (vs := #[.slice (some ⟨w.heap.size + 1, 0, none⟩) 1 1, .int .i64 2]) rfl rfl (by k_ne) rfl rfl (by simp [Act.eval]) Tryd.func6 (by kernel_rfl) rfl) ?_
  refine lives_sums (n := 1) (rows := [abc]) s3 (by decide) (tx.mem s3.hs rfl (fun r hr => by simp at hr; subst hr; decide) hk3 hkS3) (Nat.le_trans hgl st3.hs) (by rw [l3.cnt]; exact hcnt) (fun W0 hW0 q1 q16 γ4 w4 out s4 e1 e2 e3 e4 e5 e6 e7 e8 => ?_) (fun hm => absurd (by decide) hm)
  rw [Frame.finish_at]
  have st4 : Stays γ w γ4 w4 := st3.trans ⟨by omega, e5, e6⟩
  clear hg
  have hg : γ4.tag 0 ≠ .gone := s4.ng
  walk_nrm
  refine lives_pure rfl hg (fun wV => ?_)
  refine goes_oper_k rfl rfl (by k_ne) (fun W hW => ?_)
  go_simp
  refine hW _ _ ⟨⟨rfl, no_listed (by simp [go_sem])⟩, ?_⟩
  clear hW
  clear W wV
  try walk_nrm
  refine lives_pure rfl hg (fun wV => ?_)
  refine goes_oper_k rfl rfl (by k_ne) (fun W hW => ?_)
  go_simp
  refine hW _ _ ⟨⟨rfl, no_listed (by simp [go_sem])⟩, ?_⟩
  clear hW
  clear W wV
  try walk_nrm
  refine lives_pure rfl hg (fun wV => ?_)
  refine goes_oper_k rfl rfl (by k_ne) (fun W hW => ?_)
  go_simp
  refine hW _ _ ⟨⟨rfl, no_listed (by simp [go_sem])⟩, ?_⟩
  clear hW
  clear W wV
  try walk_nrm
  refine lives_pure rfl hg (fun wV => ?_)
  refine goes_oper_k rfl rfl (by k_ne) (fun W hW => ?_)
  go_simp
  refine hW _ _ ⟨⟨rfl, no_listed (by simp [go_sem])⟩, ?_⟩
  clear hW
  clear W wV
  try walk_nrm
  refine lives_pure rfl hg (fun wV => ?_)
  refine goes_oper_k rfl rfl (by k_ne) (fun W hW => ?_)
  go_simp
  refine hW _ _ ⟨⟨rfl, no_listed (by simp [go_sem])⟩, ?_⟩
  clear hW
  clear W wV
  try walk_nrm
  refine lives_ctl rfl hg (fun _ => stepG_region_end) ?_
  have hS4 : γ4.S 0 out := ⟨e2, e3⟩
  have hout := rows_of_sums (γ := γ4) (rows := [abc]) rfl (by decide) e8 hS4
  have hgl4 : Tryd.prog.globals.size ≤ γ4.hs := Nat.le_trans hgl st4.hs
  have hx : Held γ4 w4 (some ⟨w.heap.size, 0, none⟩) := fun ad e => by injection e with e; subst e; exact ⟨rfl, Stays.own ⟨by omega, e5, e6⟩ T0⟩
  have hy : Held γ4 w4 (some ⟨w.heap.size + 1, 0, none⟩) := fun ad e => by injection e with e; subst e; exact ⟨rfl, Stays.own ⟨by omega, e5, e6⟩ T1⟩
  have hT := fun Tp d => livesTail_any (.slice (some ⟨w.heap.size, 0, none⟩) 3 3) (.slice (some ⟨w.heap.size + 1, 0, none⟩) 1 1) (some ⟨out, 0, none⟩) 1 (LW γ4 w4 Tp d) (hout.lone (keysC_ints _))
  have hV := ts9_vr (e := .int .i64 0) (hx.vr (n := 3) (c := 3)) (hy.vr (n := 1) (c := 1)) (hout.held.vr (n := 1) (c := 1)) (.int _ _)
  simp only [tail9, ts9, Tryd.f9, Option.getD_some, Array.replicate_succ, Array.replicate_zero, List.push_toArray, List.append_toArray, List.nil_append, List.cons_append] at hT hV
  refine lives_rest okRef Tryd.func9 (by kernel_rfl) (by kernel_rfl) rfl rfl s4 hgl4 hV (fun g hg => by cases hg) _ hT (fun γ5 w5 v v' ρ wl A hR hv sm => ?_)
  subst hR
  rw [vr_bool hv]
  exact hK γ5 w5 ⟨A.solo, st4.trans A.stays, A.tape.trans (e7.trans t3), by have := A.later.cnt; have := l3.cnt; have e9 : (2 : Int) = (W0 : Int) := hW0; omega⟩
end
end Go.Proofs.YtbicafgmfgdckaaDoor
