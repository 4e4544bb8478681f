/- The library's WaitGroup under this program's numbers. Feed, in the crew. A worker's life. each, main's own part. -/
import Derived.Test.YtbicafgmfgdckaaDoorMgLiB
import Derived.Test.YtbicafgmfgdckaaDoorProg
import Derived.Conc.WgLib
import Derived.KernelRfl
import Derived.Conc.WgGenW
import Derived.Walk
namespace Go.Proofs.YtbicafgmfgdckaaDoor
open Go
abbrev wgLink : Go.Conc.Lib.WgLink := { add := 25, done := 27, wait := 31, relMerge := 41, disable := 42, enable := 43, inBubble := 44, associate := 45, fatal := 46, uOr := 47, uAdd := 48, raceRead := 49, uLoad := 50, uStore := 51, disassociate := 52, semrelease := 53, acquire := 56, isAssociated := 57, uCas := 58, raceWrite := 59, semacquire := 60, orU64 := 71, addU64 := 72, loadU64 := 73, storeU64 := 74, casU64 := 77, tWgP := 83, tUP := 85, tAssoc := 86, tWg := 72, tAU := 70, tU64 := 68, tUint := 90, tU32 := 52, tPU32 := 91, tPAU := 113, tPU64 := 115, tNoCopy := 51, tANoCopy := 62, tAlign64 := 67 }
theorem wgLib : Go.Conc.Lib.WgLib Tryd.prog wgLink :=
  ⟨Tryd.func25, Tryd.func27, Tryd.func31, Tryd.func41, Tryd.func42, Tryd.func43, Tryd.func44, Tryd.func45, Tryd.func46, Tryd.func47, Tryd.func48, Tryd.func49, Tryd.func50, Tryd.func51, Tryd.func52, Tryd.func53, Tryd.func56, Tryd.func57, Tryd.func58, Tryd.func59, Tryd.func60, Tryd.func71, Tryd.func72, Tryd.func73, Tryd.func74, Tryd.func77, Tryd.underlying83, Tryd.runUnderlying83, Tryd.sizeOf83, Tryd.isAgg83, Tryd.zeroValue83, Tryd.underlying85, Tryd.runUnderlying85, Tryd.sizeOf85, Tryd.isAgg85, Tryd.zeroValue85, Tryd.underlying86, Tryd.runUnderlying86, Tryd.sizeOf86, Tryd.isAgg86, Tryd.zeroValue86, Tryd.underlying72, Tryd.runUnderlying72, Tryd.sizeOf72, Tryd.isAgg72, Tryd.zeroValue72, Tryd.underlying70, Tryd.runUnderlying70, Tryd.sizeOf70, Tryd.isAgg70, Tryd.zeroValue70, Tryd.underlying68, Tryd.runUnderlying68, Tryd.sizeOf68, Tryd.isAgg68, Tryd.zeroValue68, Tryd.underlying90, Tryd.runUnderlying90, Tryd.sizeOf90, Tryd.isAgg90, Tryd.zeroValue90, Tryd.underlying52, Tryd.runUnderlying52, Tryd.sizeOf52, Tryd.isAgg52, Tryd.zeroValue52, Tryd.underlying91, Tryd.runUnderlying91, Tryd.sizeOf91, Tryd.isAgg91, Tryd.zeroValue91, Tryd.underlying113, Tryd.runUnderlying113, Tryd.sizeOf113, Tryd.isAgg113, Tryd.zeroValue113, Tryd.underlying115, Tryd.runUnderlying115, Tryd.sizeOf115, Tryd.isAgg115, Tryd.zeroValue115, Tryd.underlying0, Tryd.runUnderlying0, Tryd.sizeOf0, Tryd.isAgg0, Tryd.zeroValue0, Tryd.underlying3, Tryd.runUnderlying3, Tryd.sizeOf3, Tryd.isAgg3, Tryd.zeroValue3, Tryd.underlying4, Tryd.runUnderlying4, Tryd.sizeOf4, Tryd.isAgg4, Tryd.zeroValue4, Tryd.underlying9, Tryd.runUnderlying9, Tryd.sizeOf9, Tryd.isAgg9, Tryd.zeroValue9, Tryd.underlying20, Tryd.runUnderlying20, Tryd.sizeOf20, Tryd.isAgg20, Tryd.zeroValue20, Tryd.underlying21, Tryd.runUnderlying21, Tryd.sizeOf21, Tryd.isAgg21, Tryd.zeroValue21, (by kernel_rfl), (by kernel_rfl)⟩
end Go.Proofs.YtbicafgmfgdckaaDoor
namespace Go.Proofs.YtbicafgmfgdckaaDoor
open Go Go.Conc Go.Conc.Lib Go.ConcR.Gen
open Go.ConcR (KK wgBlock WgAt stA smA rd wr mk DC0)
open Go.ConcN (sumTo upd upd_same upd_ne RelBy PermW WgLive)
section
variable {ty : TypeId} {top : Nat} {γ γ' γ2 : Gho} {p : Ph} {w w' w2 : World} {i j k n : Nat} {Post : Value → World → Prop} {es : Array Event} {g g' : Goroutine}
/-- At the head of feed's loop. -/
def FeedAt (p : Ph) (i : Nat) (γ0 : Gho) (w0 : World) (m : Nat) (tm : Array Value) (γ : Gho) (w : World) : Prop :=
  ∃ x : Nat, ∃ v6 v10 v11 v12 v13 v14 v15 v16 v17 v18 v19 v20 v21 v22 v23 : Value, m = p.n - x ∧ x ≤ p.n ∧ tm = #[.int .i64 p.n, .chan (some p.jobs), .chan (some p.stop), undef, undef, undef, v6, .chan (some p.jobs), .int .i64 p.n, .int .i64 x, v10, v11, v12, v13, v14, v15, v16, v17, v18, v19, v20, v21, v22, v23] ∧ γ.ph = some p ∧ γ.tag i = .feed ∧ γ.deaf i = 0 ∧ γ.next = x ∧ Kept i γ0 w0 γ w
set_option maxRecDepth 100000 in
set_option maxHeartbeats 4000000 in
theorem lives_feed {c : Frame} {cs : List Frame} (hp : γ.ph = some p) (hf : p.f = i) (ht : γ.tag i = .feed) (hd : γ.deaf i = 0) (h0 : γ.next = 0) (hb : p.n ≤ 1000000)
    (hK : ∀ γ' w', Kept i γ w γ' w' → γ'.ph = some p → γ'.tag i = .shut → γ'.deaf i = 0 → GInv ty top γ' w' → LV Tryd.prog ty top Post i γ' w' (G (c.finish (.tuple #[])) cs)) :
    LV Tryd.prog ty top Post i γ w (G ((base 30).at ⟨#[.int .i64 p.n, .chan (some p.jobs), .chan (some p.stop)] ++ Array.replicate 21 undef, []⟩ [.code (Tryd.f30.body.getD .skip)]) (c :: cs)) := by
  have hg : γ.tag i ≠ .gone := by rw [ht]; simp
  simp only [Tryd.f30, Option.getD_some]
  walk_nrm
  refine lives_ctl rfl hg (fun _ => stepG_seq) ?_
  refine lives_ctl rfl hg (fun _ => stepG_region) ?_
  simp only [List.size_toArray, List.length_cons, List.length_nil, Nat.reduceAdd, Nat.zero_add, List.range, List.range.loop]
  refine lives_pure rfl hg (fun wV => ?_)
  refine goes_oper_k rfl rfl (by k_ne) (fun W hW => ?_)
  go_simp
  refine hW _ _ ⟨⟨rfl, no_listed (by simp [go_sem])⟩, ?_⟩
  clear hW
  clear W wV
  try walk_nrm
  refine lives_ctl rfl hg (fun _ => stepG_defer_close rfl rfl (by k_ne) rfl) ?_
  try walk_nrm
  refine lives_ctl rfl hg (fun _ => stepG_region_end) ?_
  refine lives_ctl rfl hg (fun _ => stepG_seq) ?_
  refine lives_ctl rfl hg (fun _ => stepG_region) ?_
  simp only [List.size_toArray, List.length_cons, List.length_nil, Nat.reduceAdd, Nat.zero_add, List.range, List.range.loop]
  refine lives_pure rfl hg (fun wV => ?_)
  refine goes_oper_k rfl rfl (by k_ne) (fun W hW => ?_)
  go_simp
  refine hW _ _ ⟨⟨rfl, no_listed (by simp [go_sem])⟩, ?_⟩
  clear hW
  clear W wV
  try walk_nrm
  refine lives_pure rfl hg (fun wV => ?_)
  refine goes_oper_k rfl rfl (by k_ne) (fun W hW => ?_)
  go_simp
  refine hW _ _ ⟨⟨rfl, no_listed (by simp [go_sem])⟩, ?_⟩
  clear hW
  clear W wV
  try walk_nrm
  refine lives_ctl rfl hg (fun _ => stepG_region_end) ?_
  refine lives_ctl rfl hg (fun _ => stepG_block) ?_
  refine lives_ctl rfl hg (fun _ => stepG_loop) ?_
  refine lives_loop (FeedAt p i γ w) (m := p.n) ⟨0, _, _, _, _, _, _, _, _, _, _, _, _, _, _, _, by omega, by omega, rfl, hp, ht, hd, h0, .refl _ _ _⟩ fun m ih tm γ1 w1 h => ?_
  clear ht hg hp hd h0
  obtain ⟨x, v6, v10, v11, v12, v13, v14, v15, v16, v17, v18, v19, v20, v21, v22, v23, rfl, hx, rfl, hp, ht, hd, hnx, hkp⟩ := h
  have hg : γ1.tag i ≠ .gone := by rw [ht]; simp
  refine lives_ctl rfl hg (fun _ => stepG_seq) ?_
  refine lives_ctl rfl hg (fun _ => stepG_region) ?_
  simp only [List.size_toArray, List.length_cons, List.length_nil, Nat.reduceAdd, Nat.zero_add, List.range, List.range.loop]
  refine lives_pure rfl hg (fun wV => ?_)
  refine goes_oper_k rfl rfl (by k_ne) (fun W hW => ?_)
  go_simp
  refine hW _ _ ⟨⟨rfl, no_listed (by simp [go_sem])⟩, ?_⟩
  clear hW
  clear W wV
  try walk_nrm
  refine lives_ctl rfl hg (fun _ => stepG_region_end) ?_
  by_cases hxn : x < p.n
  · simp only [hxn, decide_true]
    refine lives_ctl rfl hg (fun _ => stepG_seq) ?_
    refine lives_ctl rfl hg (fun _ => stepG_cond (t := true) rfl) ?_
    simp only [if_true, if_false, Bool.false_eq_true, ↓reduceIte]
    refine lives_ctl rfl hg (fun _ => stepG_skip) ?_
    refine lives_ctl rfl hg (fun _ => stepG_seq) ?_
    refine lives_ctl rfl hg (fun _ => stepG_block) ?_
    refine lives_ctl rfl hg (fun _ => stepG_seq) ?_
    refine lives_ctl rfl hg (fun _ => stepG_region) ?_
    simp only [List.size_toArray, List.length_cons, List.length_nil, Nat.reduceAdd, Nat.zero_add, List.range, List.range.loop]
    refine lives_pure rfl hg (fun wV => ?_)
    refine goes_oper_k rfl rfl (by k_ne) (fun W hW => ?_)
    go_simp
    refine hW _ _ ⟨⟨rfl, no_listed (by simp [go_sem])⟩, ?_⟩
    clear hW
    clear W wV
    try walk_nrm
    refine lives_pure rfl hg (fun wV => ?_)
    refine goes_oper_k rfl rfl (by k_ne) (fun W hW => ?_)
    go_simp
    refine hW _ _ ⟨⟨rfl, no_listed (by simp [go_sem])⟩, ?_⟩
    clear hW
    clear W wV
    try walk_nrm
    refine lives_ctl rfl hg (fun _ => stepG_region_end) ?_
    refine lives_ctl rfl hg (fun _ => stepG_seq) ?_
    refine lives_ctl rfl hg (fun _ => stepG_seq) ?_
    refine lives_ctl rfl hg (fun _ => stepG_region) ?_
    simp only [List.size_toArray, List.length_cons, List.length_nil, Nat.reduceAdd, Nat.zero_add, List.range, List.range.loop]
    refine lives_pure rfl hg (fun wV => ?_)
    refine goes_oper_k rfl rfl (by k_ne) (fun W hW => ?_)
    go_simp
    refine hW _ _ ⟨⟨rfl, no_listed (by simp [go_sem])⟩, ?_⟩
    clear hW
    clear W wV
    try walk_nrm
    refine lives_ctl rfl hg (fun _ => stepG_region_end) ?_
    refine lives_ctl rfl hg (fun _ => stepG_seq) ?_
    refine lives_ctl rfl hg (fun _ => stepG_region) ?_
    simp only [List.size_toArray, List.length_cons, List.length_nil, Nat.reduceAdd, Nat.zero_add, List.range, List.range.loop]
    refine lives_comm (cases := #[rcase p.stop (.agg #[])]) (blocking := false) (shape := .select) rfl rfl (by k_ne) hg (fun _ => by kernel_rfl) (fun _ => by kernel_rfl) (fun γ2 w2 hrl hI => ⟨p, (hrl.live hg).ph.trans hp, .inr ⟨hf.symm, hrl.tag.trans ht, .inl ⟨rfl, _, rfl⟩⟩⟩) fun γ2 w2 hrl hI kk v ok γ3 w3 hR hI3 => ?_
    have l := hrl.live hg
    have hp2 := l.ph.trans hp
    have ht2 := hrl.tag.trans ht
    have hd2 := hrl.deaf.trans hd
    have hnx2 : γ2.next = x := (l.feed (by unfold Gho.fd; rw [hp]; exact hf)).1.trans hnx
    have hkp2 := hkp.trans l.kept
    obtain ⟨rfl, rfl, rfl, rfl, rfl⟩ := peek_result hR hp2 hf ht2
    clear hR hrl l hp ht hd hnx hkp hg hI
    have hg : γ3.tag i ≠ .gone := by rw [ht2]; simp
    rw [show commResult #[rcase p.stop (.agg #[])] .select (-1) undef false = .tuple #[.int .i64 (-1), .bool false, .agg #[]] from by kernel_rfl]
    walk_nrm
    refine lives_pure rfl hg (fun wV => ?_)
    refine goes_oper_k rfl rfl (by k_ne) (fun W hW => ?_)
    go_simp
    refine hW _ _ ⟨⟨rfl, no_listed (by simp [go_sem])⟩, ?_⟩
    clear hW
    clear W wV
    try walk_nrm
    refine lives_pure rfl hg (fun wV => ?_)
    refine goes_oper_k rfl rfl (by k_ne) (fun W hW => ?_)
    go_simp
    refine hW _ _ ⟨⟨rfl, no_listed (by simp [go_sem])⟩, ?_⟩
    clear hW
    clear W wV
    try walk_nrm
    refine lives_ctl rfl hg (fun _ => stepG_region_end) ?_
    refine lives_ctl rfl hg (fun _ => stepG_block) ?_
    refine lives_ctl rfl hg (fun _ => stepG_cond (t := false) rfl) ?_
    simp only [if_true, if_false, Bool.false_eq_true, ↓reduceIte]
    refine lives_ctl rfl hg (fun _ => stepG_skip) ?_
    refine lives_ctl rfl hg (fun _ => stepG_inBlock) ?_
    refine lives_ctl rfl hg (fun _ => stepG_seq) ?_
    refine lives_ctl rfl hg (fun _ => stepG_seq) ?_
    refine lives_ctl rfl hg (fun _ => stepG_seq) ?_
    refine lives_ctl rfl hg (fun _ => stepG_region) ?_
    simp only [List.size_toArray, List.length_cons, List.length_nil, Nat.reduceAdd, Nat.zero_add, List.range, List.range.loop]
    refine lives_pure rfl hg (fun wV => ?_)
    refine goes_oper_k rfl rfl (by k_ne) (fun W hW => ?_)
    go_simp
    refine hW _ _ ⟨⟨rfl, no_listed (by simp [go_sem])⟩, ?_⟩
    clear hW
    clear W wV
    try walk_nrm
    refine lives_ctl rfl hg (fun _ => stepG_region_end) ?_
    refine lives_ctl rfl hg (fun _ => stepG_region) ?_
    simp only [List.size_toArray, List.length_cons, List.length_nil, Nat.reduceAdd, Nat.zero_add, List.range, List.range.loop]
    refine lives_pure rfl hg (fun wV => ?_)
    refine goes_oper_k rfl rfl (by k_ne) (fun W hW => ?_)
    go_simp
    refine hW _ _ ⟨⟨rfl, no_listed (by simp [go_sem])⟩, ?_⟩
    clear hW
    clear W wV
    try walk_nrm
    refine lives_ctl rfl hg (fun _ => stepG_region_end) ?_
    refine lives_ctl rfl hg (fun _ => stepG_region) ?_
    simp only [List.size_toArray, List.length_cons, List.length_nil, Nat.reduceAdd, Nat.zero_add, List.range, List.range.loop]
    refine lives_pure rfl hg (fun wV => ?_)
    refine goes_oper_k rfl rfl (by k_ne) (fun W hW => ?_)
    go_simp
    refine hW _ _ ⟨⟨rfl, no_listed (by simp [go_sem])⟩, ?_⟩
    clear hW
    clear W wV
    try walk_nrm
    refine lives_ctl rfl hg (fun _ => stepG_region_end) ?_
    refine lives_ctl rfl hg (fun _ => stepG_seq) ?_
    refine lives_ctl rfl hg (fun _ => stepG_region) ?_
    simp only [List.size_toArray, List.length_cons, List.length_nil, Nat.reduceAdd, Nat.zero_add, List.range, List.range.loop]
    refine lives_comm (cases := #[scase p.jobs (.int .i64 x) (.int .i64 0), rcase p.stop (.agg #[])]) (blocking := true) (shape := .select) rfl rfl (by k_ne) hg (fun _ => by kernel_rfl) (fun _ => by kernel_rfl) (fun γ4 w4 hrl hI => ?_) fun γ4 w4 hrl hI kk v ok γ5 w5 hR hI5 => ?_
    · have l := hrl.live hg
      have e : γ4.next = x := (l.feed (by unfold Gho.fd; rw [hp2]; exact hf)).1.trans hnx2
      exact ⟨p, l.ph.trans hp2, .inr ⟨hf.symm, hrl.tag.trans ht2, .inr ⟨rfl, by rw [e]; exact hxn, _, _, by rw [e]⟩⟩⟩
    have l := hrl.live hg
    have hp4 := l.ph.trans hp2
    have ht4 := hrl.tag.trans ht2
    have hd4 := hrl.deaf.trans hd2
    have hnx4 : γ4.next = x := (l.feed (by unfold Gho.fd; rw [hp2]; exact hf)).1.trans hnx2
    have hkp4 := hkp2.trans l.kept
    obtain ⟨rfl, rfl, rfl, h, s, hbh, hidle, rfl, rfl⟩ := feed_result hR hp4 hf ht4
    replace hkp4 := hkp4.trans (kept_pass hI hp4 h s)
    have hne : i ≠ h := fun e => by subst e; rw [ht4] at hidle; cases hidle
    have ht5 : (γ4.pass p h).tag i = .feed := (upd_ne _ _ hne).trans ht4
    have hd5 : (γ4.pass p h).deaf i = 0 := hd4
    have hnx5 : (γ4.pass p h).next = x + 1 := by show γ4.next + 1 = _; rw [hnx4]
    have hp6 : (γ4.pass p h).ph = some p := hp4
    generalize γ4.pass p h = γ6, w4.setChan p.jobs 0 #[] false s s false = w6 at hkp4 ht5 hd5 hnx5 hp6 hI5 ⊢
    clear hR hrl l hp2 ht2 hd2 hnx2 hkp2 hg hI hp4 ht4 hd4 hnx4
    have hg : γ6.tag i ≠ .gone := by rw [ht5]; simp
    rw [show commResult #[scase p.jobs (.int .i64 x) (.int .i64 0), rcase p.stop (.agg #[])] .select 0 undef false = .tuple #[.int .i64 0, .bool false, .agg #[]] from by kernel_rfl]
    walk_nrm
    refine lives_pure rfl hg (fun wV => ?_)
    refine goes_oper_k rfl rfl (by k_ne) (fun W hW => ?_)
    go_simp
    refine hW _ _ ⟨⟨rfl, no_listed (by simp [go_sem])⟩, ?_⟩
    clear hW
    clear W wV
    try walk_nrm
    refine lives_pure rfl hg (fun wV => ?_)
    refine goes_oper_k rfl rfl (by k_ne) (fun W hW => ?_)
    go_simp
    refine hW _ _ ⟨⟨rfl, no_listed (by simp [go_sem])⟩, ?_⟩
    clear hW
    clear W wV
    try walk_nrm
    refine lives_pure rfl hg (fun wV => ?_)
    refine goes_oper_k rfl rfl (by k_ne) (fun W hW => ?_)
    go_simp
    refine hW _ _ ⟨⟨rfl, no_listed (by simp [go_sem])⟩, ?_⟩
    clear hW
    clear W wV
    try walk_nrm
    refine lives_ctl rfl hg (fun _ => stepG_region_end) ?_
    refine lives_ctl rfl hg (fun _ => stepG_block) ?_
    refine lives_ctl rfl hg (fun _ => stepG_cond (t := true) rfl) ?_
    simp only [if_true, if_false, Bool.false_eq_true, ↓reduceIte]
    refine lives_ctl rfl hg (fun _ => stepG_skip) ?_
    refine lives_ctl rfl hg (fun _ => stepG_inBlock) ?_
    refine lives_ctl rfl hg (fun _ => stepG_inBlock) ?_
    refine lives_ctl rfl hg (fun _ => stepG_region) ?_
    simp only [List.size_toArray, List.length_cons, List.length_nil, Nat.reduceAdd, Nat.zero_add, List.range, List.range.loop]
    refine lives_pure rfl hg (fun wV => ?_)
    refine goes_oper_k rfl rfl (by k_ne) (fun W hW => ?_)
    go_simp
    refine hW _ _ ⟨⟨rfl, no_listed (by simp [go_sem])⟩, ?_⟩
    clear hW
    clear W wV
    try walk_nrm
    refine lives_pure rfl hg (fun wV => ?_)
    refine goes_oper_k rfl rfl (by k_ne) (fun W hW => ?_)
    go_simp
    refine hW _ _ ⟨⟨rfl, no_listed (by simp [go_sem])⟩, ?_⟩
    clear hW
    clear W wV
    try walk_nrm
    refine lives_ctl rfl hg (fun _ => stepG_region_end) ?_
    refine lives_ctl rfl hg (fun _ => stepG_inLoop) ?_
    rw [show IntKind.i64.wrap ((x : Int) + 1) = ((x + 1 : Nat) : Int) from by rw [IntKind.wrap_i64]; omega]
    refine ih (p.n - (x + 1)) (by omega) _ _ _ ⟨x + 1, _, _, _, _, _, _, _, _, _, _, _, _, _, _, _, rfl, by omega, rfl, hp6, ht5, hd5, hnx5, hkp4⟩
  · simp only [hxn, decide_false]
    refine lives_ctl rfl hg (fun _ => stepG_seq) ?_
    refine lives_ctl rfl hg (fun _ => stepG_cond (t := false) rfl) ?_
    simp only [if_true, if_false, Bool.false_eq_true, ↓reduceIte]
    refine lives_ctl rfl hg (fun _ => stepG_exit rfl) ?_
    refine lives_ctl rfl hg (fun _ => stepG_end) ?_
    refine lives_close rfl hp hf ht (by omega) fun γ' w' hr1 hp1 ht1 hd1 hI1 => ?_
    refine lives_ctl rfl (by rw [ht1]; simp) (fun w2 => stepG_leave rfl rfl Tryd.func30 (results_none rfl _ _ _) (by kernel_rfl)) ?_
    exact hK γ' w' (hkp.trans hr1.kept) hp1 ht1 (hd1.trans hd) hI1
end
end Go.Proofs.YtbicafgmfgdckaaDoor
namespace Go.Proofs.YtbicafgmfgdckaaDoor
open Go Go.Conc Go.Conc.Lib Go.ConcR.Gen
open Go.ConcR (KK wgBlock WgAt stA smA rd wr mk DC0)
open Go.ConcN (sumTo upd upd_same upd_ne RelBy PermW WgLive)
section
variable {top : Nat} {γ γ' γ2 : Gho} {p : Ph} {w w' w2 : World} {i j k n : Nat} {Post : Value → World → Prop} {es : Array Event} {g g' : Goroutine}
/-- The bottom of a goroutine. -/
noncomputable def bot : Frame := { (default : Frame) with fn := Tryd.prog.funcs.size, defers := [], mode := .panicking [goexitEntry] }
theorem idle_result {kk : Int} {v : Value} {ok : Bool} (h : GResult i γ w true kk v ok γ' w') (hp : γ.ph = some p) (hI : GInv wgLink.tWg top γ w) (ht : γ.tag i = .idle) :
    (ok = true ∧ v = .int .i64 γ.next ∧ γ' = γ.pass p i ∧ γ.next < p.n ∧ ∃ s, w' = w.setChan p.jobs 0 #[] false s s false) ∨ (ok = false ∧ γ' = γ.setTag i .out ∧ w' = w) := by
  obtain ⟨p', hp', h⟩ := h
  rw [hp] at hp'
  obtain rfl := Option.some.inj hp'
  rcases h with ⟨_, _, q⟩ | ⟨_, _, q⟩ | ⟨_, q, _⟩ | ⟨_, q, _⟩
  · exact .inl q
  · exact .inr q
  · rw [ht] at q; cases q
  · rw [ht] at q; cases q
/-- What a job is. -/
def Job (p : Ph) (top : Nat) (Post : Value → World → Prop) (i : Nat) (γ : Gho) (w : World) (f : FuncId) (caps : Array Value) : Prop :=
  ∀ x γ1 w1 c cs fn cd, Tryd.prog.funcs[f]? = some fn → fn.body = some cd → Kw i γ γ1 → γ1.ph = some p → γ1.tag i = .busy x → γ1.deaf i = 0 → x < p.n → GInv wgLink.tWg top γ1 w1 →
    (∀ γ2 w2, Kw i γ1 γ2 → γ2.ph = some p → γ2.tag i = .idle → γ2.deaf i = 0 → LV Tryd.prog wgLink.tWg top Post i γ2 w2 (G (c.finish (.bool true)) cs)) →
    LV Tryd.prog wgLink.tWg top Post i γ1 w1 (G ((base f).at ⟨#[.int .i64 x] ++ caps ++ Array.replicate (fn.ntmps - (#[Value.int .i64 (x : Int)] ++ caps).size) undef, []⟩ [.code cd]) (c :: cs))
/-- At the head of the worker's loop. -/
def WorkAt (p : Ph) (J D i : Nat) (oc sb : Value) (γ0 : Gho) (w0 : World) (m : Nat) (tm : Array Value) (γ : Gho) (w : World) : Prop :=
  ∃ v5 v7 v8 v9 v10 v11 v12 v13 v14 v15 : Value, m = p.n - γ.next ∧ tm = #[.pointer (some ⟨p.wg, 0, none⟩), .pointer (some ⟨J, 0, none⟩), .pointer (some ⟨D, 0, none⟩), oc, sb, v5, .chan (some p.jobs), v7, v8, v9, v10, v11, v12, v13, v14, v15] ∧ γ.ph = some p ∧ γ.tag i = .idle ∧ γ.deaf i = 0 ∧ Kw i γ0 γ
/-- The literal's own way out, once Done has left: it only leaves. -/
theorem quitsTail (T : Array Value) (todo : List Item) : QuitsD Tryd.prog 2 0 (G { (baseD 26).at ⟨T, []⟩ todo with mode := .returning } [bot]) := by
  refine QuitsD.ctl (g' := G bot []) rfl (fun w => ?_) ?_
  · simp [G, stepG, unwind, doReturn, results, Frame.at, baseD, bot, Tryd.func26, Tryd.f26, seen, GStep.after, goexitEntry]
  refine QuitsD.ctl (g' := { G bot [] with status := .finished }) rfl (fun w => ?_) ⟨rfl, rfl⟩
  simp [G, stepG, unwind, bot, goexitEntry, Frame.catches]
  rfl
set_option maxRecDepth 100000 in
set_option maxHeartbeats 4000000 in
theorem lives_worker {J D : Nat} {f : FuncId} {fn : Func} {cd : Code} {caps : Array Value} {oc sb : Value} {tJ tD : TypeId} {mJ mD : Nat × Nat} (hff : Tryd.prog.funcs[f]? = some fn) (hfb : fn.body = some cd) (hfn : (fn.name == "runtime.NumGoroutine") = false)
    (hp : γ.ph = some p) (hbi : p.b ≤ i) (ht : γ.tag i = .idle) (hd : γ.deaf i = 0) (hJ : γ.F J) (hJH : p.H J = some (.cells #[.chan (some p.jobs)] tJ mJ)) (hD : γ.F D) (hDH : p.H D = some (.cells #[.func (.func f) #[] caps] tD mD)) (hdo : Job p top Post i γ w f caps) :
    LV Tryd.prog wgLink.tWg top Post i γ w (G ((baseD 26).at ⟨#[.pointer (some ⟨p.wg, 0, none⟩), .pointer (some ⟨J, 0, none⟩), .pointer (some ⟨D, 0, none⟩), oc, sb] ++ Array.replicate 11 undef, []⟩ [.code (Tryd.f26.body.getD .skip)]) [bot]) := by
  have hg : γ.tag i ≠ .gone := by rw [ht]; simp
  have hs : ¬ (γ.tag i).said := by rw [ht]; exact fun h => h
  simp only [Tryd.f26, Option.getD_some]
  walk_nrm
  refine lives_ctl rfl hg (fun _ => stepG_seq) ?_
  refine lives_ctl rfl hg (fun _ => stepG_region) ?_
  simp only [List.size_toArray, List.length_cons, List.length_nil, Nat.reduceAdd, Nat.zero_add, List.range, List.range.loop]
  refine lives_ctl rfl hg (fun _ => stepG_defer rfl rfl (by k_ne) rfl) ?_
  try walk_nrm
  refine lives_ctl rfl hg (fun _ => stepG_region_end) ?_
  refine lives_ctl rfl hg (fun _ => stepG_seq) ?_
  refine lives_ctl rfl hg (fun _ => stepG_region) ?_
  simp only [List.size_toArray, List.length_cons, List.length_nil, Nat.reduceAdd, Nat.zero_add, List.range, List.range.loop]
  have hFix := hJ
  refine lives_read rfl hs (fun γV wV hrl hIV => ?_)
  have hcell : wV.cell? ⟨J, 0, none⟩ = some (.chan (some p.jobs)) := fix_cell hIV ((hrl.live hg).ph.trans hp) ((hrl.live hg).kw.F hJ) hJH
  refine goes_oper_k rfl rfl (by k_ne) (fun W hW => ?_)
  go_simp
  refine hW _ _ ⟨⟨rfl, fun e he => ?_⟩, ?_⟩
  · have hm := mem_listed he
    simp [go_sem, hcell] at hm
    subst hm
    exact .inl ⟨_, rfl, rfl, .inr ⟨(hrl.live hg).kw.F hFix, rfl⟩⟩
  clear hW hcell
  clear W
  clear hrl hIV
  clear γV wV
  try walk_nrm
  clear hFix
  refine lives_ctl rfl hg (fun _ => stepG_region_end) ?_
  refine lives_ctl rfl hg (fun _ => stepG_block) ?_
  refine lives_ctl rfl hg (fun _ => stepG_loop) ?_
  refine lives_loop (WorkAt p J D i oc sb γ w) (m := p.n - γ.next) ⟨_, _, _, _, _, _, _, _, _, _, rfl, rfl, hp, ht, hd, .refl _ _⟩ fun m ih tm γ1 w1 h => ?_
  clear ht hg hs hp hd
  obtain ⟨v5, v7, v8, v9, v10, v11, v12, v13, v14, v15, rfl, rfl, hp, ht, hd, hkp⟩ := h
  have hg : γ1.tag i ≠ .gone := by rw [ht]; simp
  refine lives_ctl rfl hg (fun _ => stepG_seq) ?_
  refine lives_ctl rfl hg (fun _ => stepG_region) ?_
  simp only [List.size_toArray, List.length_cons, List.length_nil, Nat.reduceAdd, Nat.zero_add, List.range, List.range.loop]
  refine lives_comm (cases := #[rcase p.jobs (.int .i64 0)]) (blocking := true) (shape := .recv true) rfl rfl (by k_ne) hg (fun _ => by kernel_rfl) (fun _ => by kernel_rfl) (fun γ2 w2 hrl hI => ⟨p, (hrl.live hg).ph.trans hp, .inl ⟨hbi, hrl.tag.trans ht, rfl, _, rfl⟩⟩) fun γ2 w2 hrl hI kk v ok γ3 w3 hR hI3 => ?_
  have hp2 := (hrl.live hg).ph.trans hp
  have ht2 := hrl.tag.trans ht
  have hd2 := hrl.deaf.trans hd
  have hkp2 := hkp.trans (hrl.live hg).kw
  have hnx2 : γ1.next ≤ γ2.next := (hrl.live hg).next
  rw [show commResult #[rcase p.jobs (.int .i64 0)] (.recv true) kk v ok = .tuple #[v, .bool ok] from rfl]
  rcases idle_result hR hp2 hI ht2 with ⟨rfl, rfl, rfl, hlt, s, rfl⟩ | ⟨rfl, rfl, rfl⟩
  · obtain ⟨x, hx⟩ : ∃ x, γ2.next = x := ⟨_, rfl⟩
    have ht3 : (γ2.pass p i).tag i = .busy x := by rw [← hx]; exact upd_same _ _ _
    have hd3 : (γ2.pass p i).deaf i = 0 := hd2
    have hnx3 : (γ2.pass p i).next = x + 1 := by show γ2.next + 1 = _; rw [hx]
    have hkp3 := hkp2.trans (kw_pass γ2 p i)
    have hp3 : (γ2.pass p i).ph = some p := hp2
    rw [hx] at hlt hnx2 ⊢
    generalize γ2.pass p i = γ4, w2.setChan p.jobs 0 #[] false s s false = w4 at hkp3 ht3 hd3 hnx3 hp3 hI3 ⊢
    clear hR hrl hp2 ht2 hd2 hkp2 hI hx hg hp ht hd hkp
    have hg : γ4.tag i ≠ .gone := by rw [ht3]; simp
    have hs : ¬ (γ4.tag i).said := by rw [ht3]; exact fun h => h
    walk_nrm
    refine lives_pure rfl hg (fun wV => ?_)
    refine goes_oper_k rfl rfl (by k_ne) (fun W hW => ?_)
    go_simp
    refine hW _ _ ⟨⟨rfl, no_listed (by simp [go_sem])⟩, ?_⟩
    clear hW
    clear W wV
    try walk_nrm
    refine lives_ctl rfl hg (fun _ => stepG_region_end) ?_
    refine lives_ctl rfl hg (fun _ => stepG_seq) ?_
    refine lives_ctl rfl hg (fun _ => stepG_cond (t := true) rfl) ?_
    simp only [if_true, if_false, Bool.false_eq_true, ↓reduceIte]
    refine lives_ctl rfl hg (fun _ => stepG_skip) ?_
    refine lives_ctl rfl hg (fun _ => stepG_block) ?_
    refine lives_ctl rfl hg (fun _ => stepG_seq) ?_
    refine lives_ctl rfl hg (fun _ => stepG_region) ?_
    simp only [List.size_toArray, List.length_cons, List.length_nil, Nat.reduceAdd, Nat.zero_add, List.range, List.range.loop]
    refine lives_pure rfl hg (fun wV => ?_)
    refine goes_oper_k rfl rfl (by k_ne) (fun W hW => ?_)
    go_simp
    refine hW _ _ ⟨⟨rfl, no_listed (by simp [go_sem])⟩, ?_⟩
    clear hW
    clear W wV
    try walk_nrm
    refine lives_pure rfl hg (fun wV => ?_)
    refine goes_oper_k rfl rfl (by k_ne) (fun W hW => ?_)
    go_simp
    refine hW _ _ ⟨⟨rfl, no_listed (by simp [go_sem])⟩, ?_⟩
    clear hW
    clear W wV
    try walk_nrm
    refine lives_ctl rfl hg (fun _ => stepG_region_end) ?_
    refine lives_ctl rfl hg (fun _ => stepG_seq) ?_
    refine lives_ctl rfl hg (fun _ => stepG_region) ?_
    simp only [List.size_toArray, List.length_cons, List.length_nil, Nat.reduceAdd, Nat.zero_add, List.range, List.range.loop]
    have hFix := hkp3.F hD
    refine lives_read rfl hs (fun γV wV hrl hIV => ?_)
    have hcell : wV.cell? ⟨D, 0, none⟩ = some (.func (.func f) #[] caps) := fix_cell hIV ((hrl.live hg).ph.trans hp3) ((hrl.live hg).kw.F hFix) hDH
    refine goes_oper_k rfl rfl (by k_ne) (fun W hW => ?_)
    go_simp
    refine hW _ _ ⟨⟨rfl, fun e he => ?_⟩, ?_⟩
    · have hm := mem_listed he
      simp [go_sem, hcell] at hm
      subst hm
      exact .inl ⟨_, rfl, rfl, .inr ⟨(hrl.live hg).kw.F hFix, rfl⟩⟩
    clear hW hcell
    clear W
    clear hrl hIV
    clear γV wV
    try walk_nrm
    refine lives_pure rfl hg (fun wV => ?_)
    refine goes_oper_k rfl rfl (by k_ne) (fun W hW => ?_)
    go_simp
    refine hW _ _ ⟨⟨rfl, no_listed (by simp [go_sem])⟩, ?_⟩
    clear hW
    clear W wV
    try walk_nrm
    refine lives_ctl rfl hg (fun _ => stepG_callv (vs := #[.int .i64 x] ++ caps) rfl rfl (by k_ne) rfl rfl (by simp [Act.eval]) hff hfn hfb) ?_
    refine hdo x γ4 w4 _ _ fn cd hff hfb hkp3 hp3 ht3 hd3 hlt hI3 fun γ5 w5 hkp5 hp5 ht5 hd5 => ?_
    have hlt5 : p.n - γ5.next < p.n - γ1.next := by have := hkp5.next; omega
    replace hkp5 := hkp3.trans hkp5
    clear hg hs hkp3 hp3 ht3 hd3 hI3 hnx3 hFix
    have hg : γ5.tag i ≠ .gone := by rw [ht5]; simp
    rw [Frame.finish_at]
    walk_nrm
    refine lives_pure rfl hg (fun wV => ?_)
    refine goes_oper_k rfl rfl (by k_ne) (fun W hW => ?_)
    go_simp
    refine hW _ _ ⟨⟨rfl, no_listed (by simp [go_sem])⟩, ?_⟩
    clear hW
    clear W wV
    try walk_nrm
    refine lives_ctl rfl hg (fun _ => stepG_region_end) ?_
    refine lives_ctl rfl hg (fun _ => stepG_cond (t := false) rfl) ?_
    simp only [if_true, if_false, Bool.false_eq_true, ↓reduceIte]
    refine lives_ctl rfl hg (fun _ => stepG_skip) ?_
    refine lives_ctl rfl hg (fun _ => stepG_inBlock) ?_
    refine lives_ctl rfl hg (fun _ => stepG_inLoop) ?_
    exact ih _ hlt5 _ _ _ ⟨_, _, _, _, _, _, _, _, _, _, rfl, rfl, hp5, ht5, hd5, hkp5⟩
  · have ht3 : (γ2.setTag i .out).tag i = .out := upd_same _ _ _
    have hd3 : (γ2.setTag i .out).deaf i = 0 := hd2
    have hkp3 := hkp2.trans (kw_tag γ2 i .out)
    have hp3 : (γ2.setTag i .out).ph = some p := hp2
    generalize γ2.setTag i .out = γ4 at hkp3 ht3 hd3 hp3 hI3 ⊢
    clear hR hrl hp2 ht2 hd2 hkp2 hI hg hp ht hd hkp hnx2 ih hdo
    have hg : γ4.tag i ≠ .gone := by rw [ht3]; simp
    walk_nrm
    refine lives_pure rfl hg (fun wV => ?_)
    refine goes_oper_k rfl rfl (by k_ne) (fun W hW => ?_)
    go_simp
    refine hW _ _ ⟨⟨rfl, no_listed (by simp [go_sem])⟩, ?_⟩
    clear hW
    clear W wV
    try walk_nrm
    refine lives_ctl rfl hg (fun _ => stepG_region_end) ?_
    refine lives_ctl rfl hg (fun _ => stepG_seq) ?_
    refine lives_ctl rfl hg (fun _ => stepG_cond (t := false) rfl) ?_
    simp only [if_true, if_false, Bool.false_eq_true, ↓reduceIte]
    refine lives_ctl rfl hg (fun _ => stepG_exit rfl) ?_
    refine lives_ctl rfl hg (fun _ => stepG_end) ?_
    refine lives_ctl rfl hg (fun _ => stepG_unwind_enter rfl Tryd.func27 (nm_done wgLink) rfl) ?_
    have hJ4 := hkp3.F hJ
    exact lives_done (qt := 2) wgLib hp3 hbi ht3 hd3 hI3 hJ4 (fix_cell hI3 hp3 hJ4 hJH) rfl (quitsTail _ _)
end
end Go.Proofs.YtbicafgmfgdckaaDoor
namespace Go.Proofs.YtbicafgmfgdckaaDoor
open Go Go.RowKit Go.Conc Go.Conc.Lib Go.ConcR.Gen
open Go.ConcR (KK wgBlock WgAt stA smA rd wr mk DC0)
open Go.ConcN (sumTo upd upd_same upd_ne RelBy PermW WgLive)
section
variable {top : Nat} {γ γ' γ2 : Gho} {p : Ph} {w w' w2 : World} {i j k n W0 : Nat} {Post : Value → World → Prop} {es : Array Event} {g g' : Goroutine}
/-- A worker's first step. -/
theorem born_step (caps : Array Value) (w : World) (h : caps.size = 5) : stepG Tryd.prog false (born Tryd.prog { target := .fn (.func 26) caps, args := #[] }) w =
    .go (G ((baseD 26).at ⟨caps ++ Array.replicate 11 undef, []⟩ [.code (Tryd.f26.body.getD .skip)]) [bot]) w #[] := by
  simp [born, stepG, unwind, callDeferred, invoke, callFunc, Tryd.func26, Tryd.f26, seen, GStep.after, G, Frame.enter, Frame.at, baseD, bot, h]
set_option maxRecDepth 100000 in
set_option maxHeartbeats 8000000 in
theorem lives_each {f : FuncId} {fn : Func} {cd : Code} {caps : Array Value} {c : Frame} {cs : List Frame} {out : Nat} {oty : TypeId} {val : Nat → Nat → Value} (s0 : Solo γ w) (hff : Tryd.prog.funcs[f]? = some fn) (hfb : fn.body = some cd) (hfn : (fn.name == "runtime.NumGoroutine") = false)
    (hn : n ≤ 1000) (hW : 1 ≤ W0) (hW2 : W0 ≤ 1000) (hcnt : γ.cnt + W0 ≤ top) (ho : out < γ.hs ∧ γ.bk out = .priv 0) (hoc : ∃ cells, w.heap[out]? = some (.cells cells oty (0, 0)) ∧ cells.size = 32 * n)
    (hjob : ∀ p γ' w' i, p.b ≤ i → p.n = n → p.out = out → p.oty = oty → p.val = val → (∀ b, b < γ.hs → γ.bk b = .priv 0 → b ≠ out → γ'.F b ∧ p.H b = w.heap[b]?) → γ.hs ≤ γ'.hs → Job p top Post i γ' w' f caps)
    (hK : ∀ γ' w', Solo γ' w' → γ.hs ≤ γ'.hs → γ'.cnt = γ.cnt + W0 → (∀ b, b < γ.hs → γ'.bk b = γ.bk b) → (∀ b, b < γ.hs → γ.bk b = .priv 0 → b ≠ out → w'.heap[b]? = w.heap[b]?) → w'.tape = w.tape →
      (∃ cells, w'.heap[out]? = some (.cells cells oty (0, 0)) ∧ cells.size = 32 * n ∧ ∀ x, x < n → ∀ o, o < 32 → cells[32 * x + o]? = some (val x o)) → LV Tryd.prog wgLink.tWg top Post 0 γ' w' (G (c.finish (.tuple #[])) cs)) :
    LV Tryd.prog wgLink.tWg top Post 0 γ w (G ((base 19).at ⟨#[.int .i64 n, .int .i64 W0, .func (.func f) #[] caps] ++ Array.replicate 20 undef, []⟩ [.code (Tryd.f19.body.getD .skip)]) (c :: cs)) := by
  have hg : γ.tag 0 ≠ .gone := s0.ng
  simp only [Tryd.f19, Option.getD_some]
  walk_nrm
  refine lives_ctl rfl hg (fun _ => stepG_seq) ?_
  refine lives_ctl rfl hg (fun _ => stepG_region) ?_
  simp only [List.size_toArray, List.length_cons, List.length_nil, Nat.reduceAdd, Nat.zero_add, List.range, List.range.loop]
  refine solo_goes s0 rfl fun wV eV eT => ?_
  refine goes_oper_k rfl rfl (by k_ne) (fun W hW => ?_)
  go_simp
  refine hW _ _ ⟨own_push (w := wV) (by rw [eV]) eT.symm rfl rfl (no_listed (by simp [go_sem])), fun γ1 w1 h1 t1 s1 l1 b1 => ?_⟩
  dsimp only at h1 t1 b1
  replace b1 : γ1.bk (w.heap.size) = .priv 0 := b1 _ (by rw [s0.hs]; simp [Nat.add_assoc]) (by simp [Nat.add_assoc])
  clear hW
  clear W eV eT
  clear wV
  have hg : γ1.tag 0 ≠ .gone := s1.ng
  try walk_nrm
  refine lives_ctl rfl hg (fun _ => stepG_region_end) ?_
  refine lives_ctl rfl hg (fun _ => stepG_seq) ?_
  refine lives_ctl rfl hg (fun _ => stepG_region) ?_
  simp only [List.size_toArray, List.length_cons, List.length_nil, Nat.reduceAdd, Nat.zero_add, List.range, List.range.loop]
  refine solo_goes_share s1 rfl fun wV eV eT => ?_
  refine goes_oper_k rfl rfl (by k_ne) (fun W hW => ?_)
  go_simp
  refine hW _ _ ⟨⟨⟨_, rfl⟩, rfl, rfl, no_listed (by simp [go_sem]; kernel_rfl)⟩, fun γ2 w2 h2 t2 s2 l2 b2 => ?_⟩
  replace h2 : w2.heap = (w.heap.push (Obj.cells #[Value.func (Fn.func f) #[] caps] 31)).push (Obj.chan 0 #[] false 0 0 false) := by rw [h2]; show wV.heap.push _ = _; rw [eV, h1]; try rfl
  replace t2 : w2.tape = w1.tape := t2.trans eT
  rw [eV, h1]
  simp only [Array.size_push]
  replace b2 : γ2.bk (w.heap.size + 1) = .shd 0 := by rw [← b2, s1.hs, h1]; simp [Nat.add_assoc]
  clear hW
  clear W eV eT
  clear wV
  rw [t1] at t2
  have m2 := l2
  replace l2 := l1.trans l2
  have hg : γ2.tag 0 ≠ .gone := s2.ng
  try walk_nrm
  refine solo_goes s2 rfl fun wV eV eT => ?_
  refine goes_oper_k rfl rfl (by k_ne) (fun W hW => ?_)
  go_simp
  refine hW _ _ ⟨own_push (w := wV) rfl rfl rfl rfl (no_listed (by simp [go_sem])), fun γ3 w3 h3 t3 s3 l3 b3 => ?_⟩
  replace h3 : w3.heap = ((w.heap.push (Obj.cells #[Value.func (Fn.func f) #[] caps] 31)).push (Obj.chan 0 #[] false 0 0 false)).push (Obj.cells #[Value.chan none] 60) := by rw [h3]; show wV.heap.push _ = _; rw [eV, h2]; try rfl
  replace t3 : w3.tape = w2.tape := t3.trans eT
  replace b3 : γ3.bk (w.heap.size + 2) = .priv 0 := b3 _ (by rw [s2.hs, h2]; simp [Nat.add_assoc]) (by show _ < (wV.heap.push _).size; rw [eV, h2]; simp [Nat.add_assoc])
  clear hW
  clear W eV eT
  clear wV
  rw [t2] at t3
  have m3 := l3
  replace l3 := l2.trans l3
  have hg : γ3.tag 0 ≠ .gone := s3.ng
  try walk_nrm
  have H3 : w3.heap[w.heap.size + 1 + 1]? = some (.cells #[Value.chan none] 60 (0, 0)) := by rw [h3, Array.getElem?_push]; simp
  have hS3 : γ3.S 0 (w.heap.size + 1 + 1) := ⟨by rw [s3.hs, h3]; simp, b3⟩
  refine solo_goes s3 rfl fun wV eV eT => ?_
  refine goes_oper_k rfl rfl (by k_ne) (fun W hW => ?_)
  have hcell : wV.cell? ⟨w.heap.size + 1 + 1, 0, none⟩ = some (Value.chan none) := by simp [World.cell?, eV, H3]
  have hfro : wV.frozen? ⟨w.heap.size + 1 + 1, 0, none⟩ = false := by simp [World.frozen?, eV, H3]
  go_simp
  refine hW _ _ ⟨own_set wV _ _ hS3 (fun e he => by have hm := mem_listed he; simp [go_sem, hcell, hfro] at hm; first | exact hm | (rw [events_store _ _ _ _ _ _ rfl, hcell] at hm; simp [hfro] at hm; exact hm)), fun γ4 w4 h4 t4 s4 l4 bX => ?_⟩
  replace h4 : w4.heap = ((w.heap.push (Obj.cells #[Value.func (Fn.func f) #[] caps] 31)).push (Obj.chan 0 #[] false 0 0 false)).push (.cells #[Value.chan (some (w.heap.size + 1))] 60) := by
    have hq := heap_set_last (w := wV) (v := Value.chan (some (w.heap.size + 1))) (A := (w.heap.push (Obj.cells #[Value.func (Fn.func f) #[] caps] 31)).push (Obj.chan 0 #[] false 0 0 false)) (u := Value.chan none) (t := 60) (by rw [eV, h3])
    simp only [Array.size_push] at hq
    rw [h4]; exact hq
  replace t4 : w4.tape = w3.tape := t4.trans eT
  clear hW bX
  clear W hcell hfro eV eT
  clear wV
  rw [t3] at t4
  have b4 : γ4.bk (w.heap.size + 2) = .priv 0 := (l4.bk _ hS3.1).trans b3
  have m4 := l4
  replace l4 := l3.trans l4
  have hg : γ4.tag 0 ≠ .gone := s4.ng
  try walk_nrm
  refine lives_ctl rfl hg (fun _ => stepG_region_end) ?_
  refine lives_ctl rfl hg (fun _ => stepG_seq) ?_
  refine lives_ctl rfl hg (fun _ => stepG_region) ?_
  simp only [List.size_toArray, List.length_cons, List.length_nil, Nat.reduceAdd, Nat.zero_add, List.range, List.range.loop]
  refine solo_goes_share s4 rfl fun wV eV eT => ?_
  refine goes_oper_k rfl rfl (by k_ne) (fun W hW => ?_)
  go_simp
  refine hW _ _ ⟨⟨⟨_, rfl⟩, rfl, rfl, no_listed (by simp [go_sem]; kernel_rfl)⟩, fun γ5 w5 h5 t5 s5 l5 b5 => ?_⟩
  replace h5 : w5.heap = (((w.heap.push (Obj.cells #[Value.func (Fn.func f) #[] caps] 31)).push (Obj.chan 0 #[] false 0 0 false)).push (Obj.cells #[Value.chan (some (w.heap.size + 1))] 60)).push (Obj.chan 0 #[] false 0 0 false) := by rw [h5]; show wV.heap.push _ = _; rw [eV, h4]; try rfl
  replace t5 : w5.tape = w4.tape := t5.trans eT
  rw [eV, h4]
  simp only [Array.size_push]
  replace b5 : γ5.bk (w.heap.size + 3) = .shd 0 := by rw [← b5, s4.hs, h4]; simp [Nat.add_assoc]
  clear hW
  clear W eV eT
  clear wV
  rw [t4] at t5
  have m5 := l5
  replace l5 := l4.trans l5
  have hg : γ5.tag 0 ≠ .gone := s5.ng
  try walk_nrm
  refine solo_goes s5 rfl fun wV eV eT => ?_
  refine goes_oper_k rfl rfl (by k_ne) (fun W hW => ?_)
  go_simp
  refine hW _ _ ⟨own_push (w := wV) rfl rfl rfl rfl (no_listed (by simp [go_sem])), fun γ6 w6 h6 t6 s6 l6 b6 => ?_⟩
  replace h6 : w6.heap = ((((w.heap.push (Obj.cells #[Value.func (Fn.func f) #[] caps] 31)).push (Obj.chan 0 #[] false 0 0 false)).push (Obj.cells #[Value.chan (some (w.heap.size + 1))] 60)).push (Obj.chan 0 #[] false 0 0 false)).push (Obj.cells #[Value.chan none] 61) := by rw [h6]; show wV.heap.push _ = _; rw [eV, h5]; try rfl
  replace t6 : w6.tape = w5.tape := t6.trans eT
  replace b6 : γ6.bk (w.heap.size + 4) = .priv 0 := b6 _ (by rw [s5.hs, h5]; simp [Nat.add_assoc]) (by show _ < (wV.heap.push _).size; rw [eV, h5]; simp [Nat.add_assoc])
  clear hW
  clear W eV eT
  clear wV
  rw [t5] at t6
  have m6 := l6
  replace l6 := l5.trans l6
  have hg : γ6.tag 0 ≠ .gone := s6.ng
  try walk_nrm
  have H6 : w6.heap[w.heap.size + 1 + 1 + 1 + 1]? = some (.cells #[Value.chan none] 61 (0, 0)) := by rw [h6, Array.getElem?_push]; simp
  have hS6 : γ6.S 0 (w.heap.size + 1 + 1 + 1 + 1) := ⟨by rw [s6.hs, h6]; simp, b6⟩
  refine solo_goes s6 rfl fun wV eV eT => ?_
  refine goes_oper_k rfl rfl (by k_ne) (fun W hW => ?_)
  have hcell : wV.cell? ⟨w.heap.size + 1 + 1 + 1 + 1, 0, none⟩ = some (Value.chan none) := by simp [World.cell?, eV, H6]
  have hfro : wV.frozen? ⟨w.heap.size + 1 + 1 + 1 + 1, 0, none⟩ = false := by simp [World.frozen?, eV, H6]
  go_simp
  refine hW _ _ ⟨own_set wV _ _ hS6 (fun e he => by have hm := mem_listed he; simp [go_sem, hcell, hfro] at hm; first | exact hm | (rw [events_store _ _ _ _ _ _ rfl, hcell] at hm; simp [hfro] at hm; exact hm)), fun γ7 w7 h7 t7 s7 l7 bX => ?_⟩
  replace h7 : w7.heap = ((((w.heap.push (Obj.cells #[Value.func (Fn.func f) #[] caps] 31)).push (Obj.chan 0 #[] false 0 0 false)).push (Obj.cells #[Value.chan (some (w.heap.size + 1))] 60)).push (Obj.chan 0 #[] false 0 0 false)).push (.cells #[Value.chan (some (w.heap.size + 1 + 1 + 1))] 61) := by
    have hq := heap_set_last (w := wV) (v := Value.chan (some (w.heap.size + 1 + 1 + 1))) (A := (((w.heap.push (Obj.cells #[Value.func (Fn.func f) #[] caps] 31)).push (Obj.chan 0 #[] false 0 0 false)).push (Obj.cells #[Value.chan (some (w.heap.size + 1))] 60)).push (Obj.chan 0 #[] false 0 0 false)) (u := Value.chan none) (t := 61) (by rw [eV, h6])
    simp only [Array.size_push] at hq
    rw [h7]; exact hq
  replace t7 : w7.tape = w6.tape := t7.trans eT
  clear hW bX
  clear W hcell hfro eV eT
  clear wV
  rw [t6] at t7
  have b7 : γ7.bk (w.heap.size + 4) = .priv 0 := (l7.bk _ hS6.1).trans b6
  have m7 := l7
  replace l7 := l6.trans l7
  have hg : γ7.tag 0 ≠ .gone := s7.ng
  try walk_nrm
  refine lives_ctl rfl hg (fun _ => stepG_region_end) ?_
  refine lives_ctl rfl hg (fun _ => stepG_seq) ?_
  refine lives_ctl rfl hg (fun _ => stepG_region) ?_
  simp only [List.size_toArray, List.length_cons, List.length_nil, Nat.reduceAdd, Nat.zero_add, List.range, List.range.loop]
  refine solo_goes s7 rfl fun wV eV eT => ?_
  refine goes_oper_k rfl rfl (by k_ne) (fun W hW => ?_)
  go_simp
  refine hW _ _ ⟨own_push (w := wV) rfl rfl rfl rfl (no_listed (by simp [go_sem])), fun γ8 w8 h8 t8 s8 l8 b8 => ?_⟩
  replace h8 : w8.heap = (((((w.heap.push (Obj.cells #[Value.func (Fn.func f) #[] caps] 31)).push (Obj.chan 0 #[] false 0 0 false)).push (Obj.cells #[Value.chan (some (w.heap.size + 1))] 60)).push (Obj.chan 0 #[] false 0 0 false)).push (Obj.cells #[Value.chan (some (w.heap.size + 1 + 1 + 1))] 61)).push (Obj.cells #[Value.int .u32 0, Value.int .i32 0, Value.int .u32 0] 66) := by rw [h8]; show wV.heap.push _ = _; rw [eV, h7]; try rfl
  replace t8 : w8.tape = w7.tape := t8.trans eT
  replace b8 : γ8.bk (w.heap.size + 5) = .priv 0 := b8 _ (by rw [s7.hs, h7]; simp [Nat.add_assoc]) (by show _ < (wV.heap.push _).size; rw [eV, h7]; simp [Nat.add_assoc])
  clear hW
  clear W eV eT
  clear wV
  rw [t7] at t8
  have m8 := l8
  replace l8 := l7.trans l8
  have hg : γ8.tag 0 ≠ .gone := s8.ng
  try walk_nrm
  refine lives_ctl rfl hg (fun _ => stepG_region_end) ?_
  refine lives_ctl rfl hg (fun _ => stepG_seq) ?_
  refine lives_ctl rfl hg (fun _ => stepG_region) ?_
  simp only [List.size_toArray, List.length_cons, List.length_nil, Nat.reduceAdd, Nat.zero_add, List.range, List.range.loop]
  refine solo_goes_share s8 rfl fun wV eV eT => ?_
  refine goes_oper_k rfl rfl (by k_ne) (fun W hW => ?_)
  go_simp
  refine hW _ _ ⟨⟨⟨_, rfl⟩, rfl, rfl, no_listed (by simp [go_sem])⟩, fun γ9 w9 h9 t9 s9 l9 b9 => ?_⟩
  replace h9 : w9.heap = ((((((w.heap.push (Obj.cells #[Value.func (Fn.func f) #[] caps] 31)).push (Obj.chan 0 #[] false 0 0 false)).push (Obj.cells #[Value.chan (some (w.heap.size + 1))] 60)).push (Obj.chan 0 #[] false 0 0 false)).push (Obj.cells #[Value.chan (some (w.heap.size + 1 + 1 + 1))] 61)).push (Obj.cells #[Value.int .u32 0, Value.int .i32 0, Value.int .u32 0] 66)).push (Obj.cells #[Value.int .u64 0, Value.int .u32 0] 72) := by rw [h9]; show wV.heap.push _ = _; rw [eV, h8]; try rfl
  replace t9 : w9.tape = w8.tape := t9.trans eT
  replace b9 : γ9.bk (w.heap.size + 6) = .shd 0 := by rw [← b9, s8.hs, h8]; simp [Nat.add_assoc]
  clear hW
  clear W eV eT
  clear wV
  rw [t8] at t9
  have m9 := l9
  replace l9 := l8.trans l9
  have hg : γ9.tag 0 ≠ .gone := s9.ng
  try walk_nrm
  refine lives_ctl rfl hg (fun _ => stepG_region_end) ?_
  refine lives_ctl rfl hg (fun _ => stepG_seq) ?_
  refine lives_ctl rfl hg (fun _ => stepG_seq) ?_
  refine lives_ctl rfl hg (fun _ => stepG_region) ?_
  simp only [List.size_toArray, List.length_cons, List.length_nil, Nat.reduceAdd, Nat.zero_add, List.range, List.range.loop]
  refine lives_pure rfl hg (fun wV => ?_)
  refine goes_oper_k rfl rfl (by k_ne) (fun W hW => ?_)
  go_simp
  refine hW _ _ ⟨⟨rfl, no_listed (by simp [go_sem])⟩, ?_⟩
  clear hW
  clear W wV
  try walk_nrm
  refine lives_pure rfl hg (fun wV => ?_)
  refine goes_oper_k rfl rfl (by k_ne) (fun W hW => ?_)
  go_simp
  refine hW _ _ ⟨⟨rfl, no_listed (by simp [go_sem])⟩, ?_⟩
  clear hW
  clear W wV
  try walk_nrm
  refine lives_ctl rfl hg (fun _ => stepG_region_end) ?_
  refine solo_enter s9 rfl (fun _ => stepG_block) fun γE wE sE lE eE tE hIE => ?_
  have q9 := lE
  have q8 := m9.trans q9
  have q7 := m8.trans q8
  have q6 := m7.trans q7
  have q5 := m6.trans q6
  have q4 := m5.trans q5
  have q3 := m4.trans q4
  have q2 := m3.trans q3
  have q1 := m2.trans q2
  have q0 := l1.trans q1
  have c0 : γE.bk w.heap.size = .priv 0 := (q1.bk _ (by rw [s1.hs, h1]; simp)).trans b1
  have c1 : γE.bk (w.heap.size + 1) = .shd 0 := (q2.bk _ (by rw [s2.hs, h2]; simp)).trans b2
  have c2 : γE.bk (w.heap.size + 2) = .priv 0 := (q4.bk _ (by rw [s4.hs, h4]; simp)).trans b4
  have c3 : γE.bk (w.heap.size + 3) = .shd 0 := (q5.bk _ (by rw [s5.hs, h5]; simp)).trans b5
  have c4 : γE.bk (w.heap.size + 4) = .priv 0 := (q7.bk _ (by rw [s7.hs, h7]; simp)).trans b7
  have c6 : γE.bk (w.heap.size + 6) = .shd 0 := (q9.bk _ (by rw [s9.hs, h9]; simp)).trans b9
  have HE := eE.trans h9
  have hsE : γE.hs = w.heap.size + 7 := by rw [sE.hs, HE]; simp
  rw [t9] at tE
  have hs0 := s0.hs
  clear b1 b2 b3 b4 b5 b6 b7 b8 b9 m2 m3 m4 m5 m6 m7 m8 m9 q9 q8 q7 q6 q5 q4 q3 q2 q1 H3 H6 hS3 hS6 h1 h2 h3 h4 h5 h6 h7 h8 s1 s2 s3 s4 s5 s6 s7 s8 l1 l2 l3 l4 l5 l6 l7 l8 l9
  have old : ∀ b, b < w.heap.size → wE.heap[b]? = w.heap[b]? := fun b hb => by
    rw [HE]
    simp only [Array.getElem?_push, Array.size_push]
    repeat rw [if_neg (by omega)]
  refine ⟨⟨0, γE.cnt, W0, n, w.heap.size + 6, w.heap.size + 1, w.heap.size + 3, out, oty, fun b => wE.heap[b]?, val⟩, fun b => b < γE.hs ∧ γE.bk b = .priv 0 ∧ b ≠ out, ?_, fun γ' w' e1 e2 e3 e4 hp ht hd hnx hct hI => ?_⟩
  · obtain ⟨cells, hc1, hc2⟩ := hoc
    refine ⟨rfl, rfl, hW, by show W0 < _; omega, by rw [q0.cnt]; exact hcnt, ⟨by show w.heap.size + 6 < _; omega, c6⟩, ⟨by show w.heap.size + 1 < _; omega, c1⟩, ⟨by show w.heap.size + 3 < _; omega, c3⟩, ⟨by show w.heap.size + 1 ≠ w.heap.size + 6; omega, by show w.heap.size + 3 ≠ w.heap.size + 6; omega, by show w.heap.size + 1 ≠ w.heap.size + 3; omega⟩, ⟨by show out < _; omega, (q0.bk _ ho.1).trans ho.2⟩, fun b h => ⟨h.1, h.2.1, h.2.2⟩, fun b _ => rfl, ?_, ?_, ?_, ⟨cells, by show wE.heap[out]? = _; rw [old _ (by omega)]; exact hc1, hc2⟩, sE.deaf⟩
    · show WgAt _ (w.heap.size + 6) wE 0 0
      unfold WgAt
      rw [HE]
      unfold wgBlock
      simp only [Array.getElem?_push, Array.size_push]
      repeat (first | rw [if_neg (by omega)] | rw [if_pos (by omega)])
      try simp
    · show wE.heap[w.heap.size + 1]? = _
      rw [HE]
      simp only [Array.getElem?_push, Array.size_push]
      repeat (first | rw [if_neg (by omega)] | rw [if_pos (by omega)])
      try simp
    · show wE.heap[w.heap.size + 3]? = _
      rw [HE]
      simp only [Array.getElem?_push, Array.size_push]
      repeat (first | rw [if_neg (by omega)] | rw [if_pos (by omega)])
      try simp
  · have fixE : ∀ b, b < γE.hs → γE.bk b = .priv 0 → b ≠ out → γ'.F b := fun b hb hpv hne => ⟨by rw [e2]; exact hb, (e1 b hb).trans (by simp only [Gho.enter]; rw [if_pos ⟨hb, hpv, hne⟩])⟩
    have hg : γ'.tag 0 ≠ .gone := by rw [ht]; simp
    refine lives_ctl rfl hg (fun _ => stepG_loop) ?_
    refine lives_loop (fun m tm γx wx => ∃ x : Nat, ∃ v14 v15 v16 v17 : Value, m = W0 - x ∧ x ≤ W0 ∧ tm = #[.int .i64 n, .int .i64 W0, .func (.func f) #[] caps, undef, undef, .pointer (some ⟨w.heap.size, 0, none⟩), .pointer (some ⟨w.heap.size + 1 + 1, 0, none⟩), .pointer (some ⟨w.heap.size + 1 + 1 + 1 + 1, 0, none⟩), .pointer (some ⟨w.heap.size + 1 + 1 + 1 + 1 + 1, 0, none⟩), .pointer (some ⟨w.heap.size + 1 + 1 + 1 + 1 + 1 + 1, 0, none⟩), .chan (some (w.heap.size + 1)), .chan (some (w.heap.size + 1 + 1 + 1)), .int .i64 W0, .int .i64 (x : Int), v14, v15, v16, v17, undef, undef, undef, undef, undef] ∧ γx.ph = some (⟨0, γE.cnt, W0, n, w.heap.size + 6, w.heap.size + 1, w.heap.size + 3, out, oty, fun b => wE.heap[b]?, val⟩ : Ph) ∧ γx.tag 0 = .add x 0 ∧ γx.deaf 0 = 0 ∧ Kept 0 γ' w' γx wx) (m := W0) ⟨0, _, _, _, _, by omega, by omega, rfl, hp, ht, hd, .refl _ _ _⟩ fun m ih tm γ1 w1 h => ?_
    clear hg ht hd hI hnx
    obtain ⟨x, v14, v15, v16, v17, rfl, hx, rfl, hp1, ht1, hd1, hk1⟩ := h
    have hg : γ1.tag 0 ≠ .gone := by rw [ht1]; simp
    refine lives_ctl rfl hg (fun _ => stepG_seq) ?_
    refine lives_ctl rfl hg (fun _ => stepG_region) ?_
    simp only [List.size_toArray, List.length_cons, List.length_nil, Nat.reduceAdd, Nat.zero_add, List.range, List.range.loop]
    refine lives_pure rfl hg (fun wV => ?_)
    refine goes_oper_k rfl rfl (by k_ne) (fun W hW => ?_)
    go_simp
    refine hW _ _ ⟨⟨rfl, no_listed (by simp [go_sem])⟩, ?_⟩
    clear hW
    clear W wV
    try walk_nrm
    refine lives_ctl rfl hg (fun _ => stepG_region_end) ?_
    by_cases hxW : x < W0
    · simp only [hxW, decide_true]
      refine lives_ctl rfl hg (fun _ => stepG_seq) ?_
      refine lives_ctl rfl hg (fun _ => stepG_cond (t := true) rfl) ?_
      simp only [if_true, if_false, Bool.false_eq_true, ↓reduceIte]
      refine lives_ctl rfl hg (fun _ => stepG_skip) ?_
      refine lives_ctl rfl hg (fun _ => stepG_seq) ?_
      refine lives_ctl rfl hg (fun _ => stepG_block) ?_
      refine lives_ctl rfl hg (fun _ => stepG_seq) ?_
      refine lives_ctl rfl hg (fun _ => stepG_region) ?_
      simp only [List.size_toArray, List.length_cons, List.length_nil, Nat.reduceAdd, Nat.zero_add, List.range, List.range.loop]
      refine lives_step rfl hg fun γ2 w2 hrl hI hi => ?_
      have l2 := hrl.live hg
      have hp2 := l2.ph.trans hp1
      have ht2 := hrl.tag.trans ht1
      have hd2 := hrl.deaf.trans hd1
      have hk2 := hk1.trans l2.kept
      refine .go _ w2 #[] γ2 (stepG_callv (first := #[]) (caps := #[]) (vs := #[.pointer (some ⟨w.heap.size + 1 + 1 + 1 + 1 + 1 + 1, 0, none⟩), .int .i64 1]) rfl rfl (by k_ne) rfl rfl (by simp [Act.eval]) wgLib.f_add (nm_add wgLink) rfl) (do_idle hI hi _) ?_
      refine lives_add (p := (⟨0, γE.cnt, W0, n, w.heap.size + 6, w.heap.size + 1, w.heap.size + 3, out, oty, fun b => wE.heap[b]?, val⟩ : Ph)) (j := x) wgLib hp2 ht2 hxW hd2 hI fun γ3 w3 hr3 ht3 hd3 hI3 => ?_
      have hk3 := hk2.trans hr3.kept
      have hp3 := hr3.ph.trans hp2
      replace ht3 : γ3.tag 0 = .add x 1 := ht3
      replace hd3 : γ3.deaf 0 = 0 := hd3
      clear hr3 hI hi l2 hrl hp2 ht2 hd2 hk2 hp1 ht1 hd1 hk1 hg
      have hg : γ3.tag 0 ≠ .gone := by rw [ht3]; simp
      clear hI3
      walk_nrm
      refine lives_ctl rfl hg (fun _ => stepG_region_end) ?_
      refine lives_ctl rfl hg (fun _ => stepG_region) ?_
      simp only [List.size_toArray, List.length_cons, List.length_nil, Nat.reduceAdd, Nat.zero_add, List.range, List.range.loop]
      refine lives_pure rfl hg (fun wV => ?_)
      refine goes_oper_k rfl rfl (by k_ne) (fun W hW => ?_)
      go_simp
      refine hW _ _ ⟨⟨rfl, no_listed (by simp [go_sem]; kernel_rfl)⟩, ?_⟩
      clear hW
      clear W wV
      try walk_nrm
      refine lives_step rfl hg fun γ4 w4 hrl4 hI4 hi4 => ?_
      have l4 := hrl4.live hg
      have hp4 := l4.ph.trans hp3
      have ht4 := hrl4.tag.trans ht3
      have hd4 := hrl4.deaf.trans hd3
      have hk4 := hk3.trans l4.kept
      refine .spawn _ _ (γ4.spawn (⟨0, γE.cnt, W0, n, w.heap.size + 6, w.heap.size + 1, w.heap.size + 3, out, oty, fun b => wE.heap[b]?, val⟩ : Ph) x) (stepG_gov rfl rfl (by k_ne) rfl rfl) (do_spawn hI4 hp4 ht4 hd4) ?_ ?_
      · have c1 := hI4.cnt
        have ht5 : (γ4.spawn (⟨0, γE.cnt, W0, n, w.heap.size + 6, w.heap.size + 1, w.heap.size + 3, out, oty, fun b => wE.heap[b]?, val⟩ : Ph) x).tag 0 = .add (x + 1) 0 := (upd_ne _ _ (by omega)).trans (upd_same _ _ _)
        have hd5 : (γ4.spawn (⟨0, γE.cnt, W0, n, w.heap.size + 6, w.heap.size + 1, w.heap.size + 3, out, oty, fun b => wE.heap[b]?, val⟩ : Ph) x).deaf 0 = 0 := (upd_ne _ _ (by omega)).trans hd4
        have hp5 : (γ4.spawn (⟨0, γE.cnt, W0, n, w.heap.size + 6, w.heap.size + 1, w.heap.size + 3, out, oty, fun b => wE.heap[b]?, val⟩ : Ph) x).ph = some (⟨0, γE.cnt, W0, n, w.heap.size + 6, w.heap.size + 1, w.heap.size + 3, out, oty, fun b => wE.heap[b]?, val⟩ : Ph) := hp4
        have hk5 : Kept 0 γ' w' (γ4.spawn (⟨0, γE.cnt, W0, n, w.heap.size + 6, w.heap.size + 1, w.heap.size + 3, out, oty, fun b => wE.heap[b]?, val⟩ : Ph) x) w4 := hk4.trans ⟨Nat.le_refl _, fun _ _ _ => rfl, fun _ _ _ => rfl, rfl, rfl, Nat.le_refl _⟩
        show LV Tryd.prog wgLink.tWg top Post 0 (γ4.spawn (⟨0, γE.cnt, W0, n, w.heap.size + 6, w.heap.size + 1, w.heap.size + 3, out, oty, fun b => wE.heap[b]?, val⟩ : Ph) x) w4 _
        generalize γ4.spawn (⟨0, γE.cnt, W0, n, w.heap.size + 6, w.heap.size + 1, w.heap.size + 3, out, oty, fun b => wE.heap[b]?, val⟩ : Ph) x = γ5 at ht5 hd5 hp5 hk5 ⊢
        clear hg
        have hg : γ5.tag 0 ≠ .gone := by rw [ht5]; simp
        walk_nrm
        refine lives_ctl rfl hg (fun _ => stepG_region_end) ?_
        refine lives_ctl rfl hg (fun _ => stepG_inBlock) ?_
        refine lives_ctl rfl hg (fun _ => stepG_region) ?_
        simp only [List.size_toArray, List.length_cons, List.length_nil, Nat.reduceAdd, Nat.zero_add, List.range, List.range.loop]
        refine lives_pure rfl hg (fun wV => ?_)
        refine goes_oper_k rfl rfl (by k_ne) (fun W hW => ?_)
        go_simp
        refine hW _ _ ⟨⟨rfl, no_listed (by simp [go_sem])⟩, ?_⟩
        clear hW
        clear W wV
        try walk_nrm
        refine lives_pure rfl hg (fun wV => ?_)
        refine goes_oper_k rfl rfl (by k_ne) (fun W hW => ?_)
        go_simp
        refine hW _ _ ⟨⟨rfl, no_listed (by simp [go_sem])⟩, ?_⟩
        clear hW
        clear W wV
        try walk_nrm
        refine lives_ctl rfl hg (fun _ => stepG_region_end) ?_
        refine lives_ctl rfl hg (fun _ => stepG_inLoop) ?_
        rw [show IntKind.i64.wrap ((x : Int) + 1) = ((x + 1 : Nat) : Int) from by rw [IntKind.wrap_i64]; omega]
        exact ih (W0 - (x + 1)) (by omega) _ _ _ ⟨x + 1, _, _, _, _, rfl, by omega, rfl, hp5, ht5, hd5, hk5⟩
      · have c1 := hI4.cnt
        have hcn : γ4.cnt = γE.cnt + x := by
          have h1 := (hI4.core hp4).cnt
          unfold Gho.started at h1
          rw [ht4] at h1
          exact h1
        have hi0 : (γ4.cnt == 0) = false := by simp; omega
        have ht5 : (γ4.spawn (⟨0, γE.cnt, W0, n, w.heap.size + 6, w.heap.size + 1, w.heap.size + 3, out, oty, fun b => wE.heap[b]?, val⟩ : Ph) x).tag γ4.cnt = .idle := upd_same _ _ _
        have hd5 : (γ4.spawn (⟨0, γE.cnt, W0, n, w.heap.size + 6, w.heap.size + 1, w.heap.size + 3, out, oty, fun b => wE.heap[b]?, val⟩ : Ph) x).deaf γ4.cnt = 0 := upd_same _ _ _
        have hp5 : (γ4.spawn (⟨0, γE.cnt, W0, n, w.heap.size + 6, w.heap.size + 1, w.heap.size + 3, out, oty, fun b => wE.heap[b]?, val⟩ : Ph) x).ph = some (⟨0, γE.cnt, W0, n, w.heap.size + 6, w.heap.size + 1, w.heap.size + 3, out, oty, fun b => wE.heap[b]?, val⟩ : Ph) := hp4
        have hF5 : ∀ b, γ'.F b → (γ4.spawn (⟨0, γE.cnt, W0, n, w.heap.size + 6, w.heap.size + 1, w.heap.size + 3, out, oty, fun b => wE.heap[b]?, val⟩ : Ph) x).F b := fun b hb => hk4.F hb
        show LV Tryd.prog wgLink.tWg top Post γ4.cnt (γ4.spawn (⟨0, γE.cnt, W0, n, w.heap.size + 6, w.heap.size + 1, w.heap.size + 3, out, oty, fun b => wE.heap[b]?, val⟩ : Ph) x) w4 _
        refine lives_ctl rfl (by rw [ht5]; simp) (fun w => by rw [hi0]; exact born_step _ w rfl) ?_
        refine lives_worker (p := (⟨0, γE.cnt, W0, n, w.heap.size + 6, w.heap.size + 1, w.heap.size + 3, out, oty, fun b => wE.heap[b]?, val⟩ : Ph)) (J := w.heap.size + 2) (D := w.heap.size) (tJ := 60) (mJ := (0, 0)) (tD := 31) (mD := (0, 0)) hff hfb hfn hp5 (by show γE.cnt ≤ γ4.cnt; omega) ht5 hd5 (hF5 _ (fixE _ (by omega) c2 (by omega))) ?_ (hF5 _ (fixE _ (by omega) c0 (by omega))) ?_ (hjob _ _ _ _ (by show γE.cnt ≤ γ4.cnt; omega) rfl rfl rfl rfl (fun b hb hpv hne => ⟨hF5 _ (fixE _ (by have := q0.hs; omega) ((q0.bk b hb).trans hpv) hne), old b (by omega)⟩) (by have h1 := q0.hs; have h2 := hk4.hs; show γ.hs ≤ γ4.hs; omega))
        · show wE.heap[w.heap.size + 2]? = _
          rw [HE]
          simp only [Array.getElem?_push, Array.size_push]
          repeat (first | rw [if_neg (by omega)] | rw [if_pos (by omega)])
          try simp
        · show wE.heap[w.heap.size]? = _
          rw [HE]
          simp only [Array.getElem?_push, Array.size_push]
          repeat (first | rw [if_neg (by omega)] | rw [if_pos (by omega)])
          try simp
    · obtain rfl : W0 = x := by omega
      simp only [hxW, decide_false]
      refine lives_ctl rfl hg (fun _ => stepG_seq) ?_
      refine lives_ctl rfl hg (fun _ => stepG_cond (t := false) rfl) ?_
      simp only [if_true, if_false, Bool.false_eq_true, ↓reduceIte]
      refine lives_ctl rfl hg (fun _ => stepG_exit rfl) ?_
      refine lives_step rfl hg fun γ2 w2 hrl hI hi => ?_
      have l2 := hrl.live hg
      have hp2 := l2.ph.trans hp1
      have ht2 := hrl.tag.trans ht1
      have hd2 := hrl.deaf.trans hd1
      have hnx2 : γ2.next = 0 := ((hI.core hp2).add _ _ ht2).2.2
      have hk2 := hk1.trans l2.kept
      refine .go _ w2 #[] (γ2.setTag 0 .feed) stepG_seq (do_begin hI hp2 ht2 hd2 _) ?_
      have ht3 : (γ2.setTag 0 .feed).tag 0 = .feed := setTag_at _ _ _
      have hd3 : (γ2.setTag 0 .feed).deaf 0 = 0 := hd2
      have hp3 : (γ2.setTag 0 .feed).ph = some (⟨0, γE.cnt, W0, n, w.heap.size + 6, w.heap.size + 1, w.heap.size + 3, out, oty, fun b => wE.heap[b]?, val⟩ : Ph) := hp2
      have hnx3 : (γ2.setTag 0 .feed).next = 0 := hnx2
      have hk3 : Kept 0 γ' w' (γ2.setTag 0 .feed) w2 := hk2.trans ⟨Nat.le_refl _, fun _ _ _ => rfl, fun _ _ _ => rfl, rfl, rfl, Nat.le_refl _⟩
      show LV Tryd.prog wgLink.tWg top Post 0 (γ2.setTag 0 .feed) w2 _
      generalize γ2.setTag 0 .feed = γ3 at ht3 hd3 hp3 hnx3 hk3 ⊢
      clear hI hi hrl l2 hp2 ht2 hd2 hnx2 hk2 hp1 ht1 hd1 hk1 hg ih
      have hg : γ3.tag 0 ≠ .gone := by rw [ht3]; simp
      have hs : ¬ (γ3.tag 0).said := by rw [ht3]; exact fun h => h
      refine lives_ctl rfl hg (fun _ => stepG_region) ?_
      simp only [List.size_toArray, List.length_cons, List.length_nil, Nat.reduceAdd, Nat.zero_add, List.range, List.range.loop]
      refine lives_pure rfl hg (fun wV => ?_)
      refine goes_oper_k rfl rfl (by k_ne) (fun W hW => ?_)
      go_simp
      refine hW _ _ ⟨⟨rfl, no_listed (by simp [go_sem])⟩, ?_⟩
      clear hW
      clear W wV
      try walk_nrm
      have hJ0 : γ'.F (w.heap.size + 2) := fixE _ (by omega) c2 (by omega)
      have hS0 : γ'.F (w.heap.size + 4) := fixE _ (by omega) c4 (by omega)
      have gJ : wE.heap[w.heap.size + 2]? = some (.cells #[.chan (some (w.heap.size + 1))] 60 (0, 0)) := by
        rw [HE]
        simp only [Array.getElem?_push, Array.size_push]
        repeat (first | rw [if_neg (by omega)] | rw [if_pos (by omega)])
        try simp
      have gS : wE.heap[w.heap.size + 4]? = some (.cells #[.chan (some (w.heap.size + 3))] 61 (0, 0)) := by
        rw [HE]
        simp only [Array.getElem?_push, Array.size_push]
        repeat (first | rw [if_neg (by omega)] | rw [if_pos (by omega)])
        try simp
      have hFix := hk3.F hJ0
      refine lives_read rfl hs (fun γV wV hrl hIV => ?_)
      have hcell : wV.cell? ⟨w.heap.size + 1 + 1, 0, none⟩ = some (.chan (some (w.heap.size + 1))) := fix_cell hIV ((hrl.live hg).ph.trans hp3) ((hrl.live hg).kw.F hFix) gJ
      refine goes_oper_k rfl rfl (by k_ne) (fun W hW => ?_)
      go_simp
      refine hW _ _ ⟨⟨rfl, fun e he => ?_⟩, ?_⟩
      · have hm := mem_listed he
        simp [go_sem, hcell] at hm
        subst hm
        exact .inl ⟨_, rfl, rfl, .inr ⟨(hrl.live hg).kw.F hFix, rfl⟩⟩
      clear hW hcell
      clear W
      clear hrl hIV
      clear γV wV
      try walk_nrm
      clear hFix
      have hFix := hk3.F hS0
      refine lives_read rfl hs (fun γV wV hrl hIV => ?_)
      have hcell : wV.cell? ⟨w.heap.size + 1 + 1 + 1 + 1, 0, none⟩ = some (.chan (some (w.heap.size + 3))) := fix_cell hIV ((hrl.live hg).ph.trans hp3) ((hrl.live hg).kw.F hFix) gS
      refine goes_oper_k rfl rfl (by k_ne) (fun W hW => ?_)
      go_simp
      refine hW _ _ ⟨⟨rfl, fun e he => ?_⟩, ?_⟩
      · have hm := mem_listed he
        simp [go_sem, hcell] at hm
        subst hm
        exact .inl ⟨_, rfl, rfl, .inr ⟨(hrl.live hg).kw.F hFix, rfl⟩⟩
      clear hW hcell
      clear W
      clear hrl hIV
      clear γV wV
      try walk_nrm
      clear hFix
      refine lives_ctl rfl hg (fun _ => stepG_callv (first := #[]) (caps := #[]) (vs := #[.int .i64 n, .chan (some (w.heap.size + 1)), .chan (some (w.heap.size + 3))]) rfl rfl (by k_ne) rfl rfl (by simp [Act.eval]) Tryd.func30 (by kernel_rfl) rfl) ?_
      refine lives_feed (p := (⟨0, γE.cnt, W0, n, w.heap.size + 6, w.heap.size + 1, w.heap.size + 3, out, oty, fun b => wE.heap[b]?, val⟩ : Ph)) hp3 rfl ht3 hd3 hnx3 (by show n ≤ 1000000; omega) fun γ4 w4 hk4 hp4 ht4 hd4 hI4 => ?_
      replace hk4 := hk3.trans hk4
      rw [Frame.finish_at]
      clear hg hs
      have hg : γ4.tag 0 ≠ .gone := by rw [ht4]; simp
      walk_nrm
      refine lives_ctl rfl hg (fun _ => stepG_region_end) ?_
      refine lives_ctl rfl hg (fun _ => stepG_region) ?_
      simp only [List.size_toArray, List.length_cons, List.length_nil, Nat.reduceAdd, Nat.zero_add, List.range, List.range.loop]
      refine lives_step rfl hg fun γ5 w5 hrl5 hI5 hi5 => ?_
      have l5 := hrl5.live hg
      refine .go _ w5 #[] γ5 (stepG_callv (first := #[]) (caps := #[]) (vs := #[.pointer (some ⟨w.heap.size + 1 + 1 + 1 + 1 + 1 + 1, 0, none⟩)]) rfl rfl (by k_ne) rfl rfl (by simp [Act.eval]) wgLib.f_wait (nm_wait wgLink) rfl) (do_idle hI5 hi5 _) ?_
      refine lives_wait (p := (⟨0, γE.cnt, W0, n, w.heap.size + 6, w.heap.size + 1, w.heap.size + 3, out, oty, fun b => wE.heap[b]?, val⟩ : Ph)) wgLib (l5.ph.trans hp4) rfl (hrl5.tag.trans ht4) (hrl5.deaf.trans hd4) hI5 fun γ6 w6 hr6 hp6 ht6 hd6 hI6 γ7 w7 hrl7 => ?_
      have hk6 := (hk4.trans l5.kept).trans hr6.kept
      obtain ⟨hDone, _⟩ := thru_done hI6 hp6 ht6
      have ob : ∀ b, γ6.over.bk b = (match γ6.bk b with | .shd s => .shd s | _ => .priv 0) := fun _ => rfl
      have so : Solo γ6.over w6 := ⟨rfl, by show upd γ6.tag 0 Tag.solo 0 = _; exact upd_same _ _ _, hd6, hI6.hs, fun b hb => by
        rw [ob]
        cases γ6.bk b with
        | shd s => exact .inr ⟨s, rfl⟩
        | _ => exact .inl rfl⟩
      obtain ⟨s7, g1, g2, g3, g5, g4⟩ := so.rel hrl7
      have hg7 : γ7.tag 0 ≠ .gone := s7.ng
      have h6hs : γE.hs ≤ γ6.hs := by have := hk6.hs; omega
      have g3' : γ7.hs = γ6.hs := g3
      have fix6 : ∀ b, b < γ.hs → γ.bk b = .priv 0 → b ≠ out → γ6.F b := fun b hb hpv hne => hk6.F (fixE _ (by have := q0.hs; omega) ((q0.bk b hb).trans hpv) hne)
      clear hg
      have hg := hg7
      walk_nrm
      refine lives_ctl rfl hg (fun _ => stepG_region_end) ?_
      refine lives_ctl rfl hg (fun _ => stepG_end) ?_
      refine lives_ctl rfl hg (fun _ => stepG_leave rfl rfl Tryd.func19 (results_none rfl _ _ _) (by kernel_rfl)) ?_
      refine hK γ7 w7 s7 (by have := q0.hs; omega) ?_ (fun b hb => ?_) (fun b hb hpv hne => ?_) (by rw [g2, hk6.tape, e4, tE]) ?_
      · have h1 := (hI6.core hp6).cnt
        unfold Gho.started at h1
        rw [ht6] at h1
        have h2 : γ6.cnt = γE.cnt + W0 := h1
        rw [g5]
        show γ6.cnt = _
        rw [h2, q0.cnt]
      · have hbE : b < γE.hs := by have := q0.hs; omega
        rw [g4 b (by show b < γ6.hs; omega), ob]
        rcases s0.bk b hb with hpv | ⟨s, hsd⟩
        · rw [hpv]
          by_cases hne : b = out
          · subst hne
            have e5 : γ'.bk b = .mix := (e1 b hbE).trans (by simp [Gho.enter])
            rw [hk6.bk b (by omega) (fun j _ q => by rw [e5] at q; cases q), e5]
          · rw [(fix6 b hb hpv hne).2]
        · have hE : γE.bk b = .shd s := (q0.bk b hb).trans hsd
          have hne : b ≠ out := fun q => by subst q; rw [ho.2] at hsd; cases hsd
          have e5 : γ'.bk b = .shd s := (e1 b hbE).trans (by simp only [Gho.enter]; rw [if_neg (fun q => by rw [hE] at q; cases q.2.1), if_neg hne]; exact hE)
          rw [hk6.bk b (by omega) (fun j _ q => by rw [e5] at q; cases q), e5, hsd]
      · rw [g1, hDone.fix b (fix6 b hb hpv hne).1 (fix6 b hb hpv hne).2]
        exact old b (by omega)
      · rw [g1]
        exact hDone.out
end
end Go.Proofs.YtbicafgmfgdckaaDoor
