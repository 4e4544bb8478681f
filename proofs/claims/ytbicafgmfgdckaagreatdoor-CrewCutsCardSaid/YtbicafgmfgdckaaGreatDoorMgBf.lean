/- Sums' job: one text's sum, laid at its place. Parts' job: one text's parts, handed over. Parts' job, whole. -/
import Derived.Test.YtbicafgmfgdckaaGreatDoorMgAs
import Derived.Test.YtbicafgmfgdckaaGreatDoorMgBe
import Derived.Test.YtbicafgmfgdckaaGreatDoorMgAu
namespace Go.Proofs.YtbicafgmfgdckaaGreatDoor
open Go Go.RowKit Go.Conc Go.Conc.Lib Go.ConcR.Gen
open Go.ConcR (KK wgBlock WgAt stA smA rd wr mk DC0)
open Go.ConcN (sumTo upd upd_same upd_ne RelBy PermW WgLive)
def Snap (i : Nat) (p : Ph) (γ : Gho) (Hw : World) : Prop := ∀ b o v, Hw.cell? ⟨b, o, none⟩ = some v -> γ.F i b /\ p.H b = Hw.heap[b]?
structure SumsIn (p : Ph) (Hw : World) (LB OB : Nat) (rows : List (List (BitVec 8))) : Prop where
 n : p.n = rows.length
 small : p.n <= 1000
 rws : ∃ lb lo lc, (rows ≠ [] -> Hw.cell? ⟨LB, 0, none⟩ = some (.slice (some ⟨lb, lo, none⟩) p.n lc)) /\ ∀ x row, rows[x]? = some row -> row.length <= 1048576 /\ ∃ ra rc, Hw.cell? ⟨lb, lo + x, none⟩ = some (.slice ra row.length rc) /\ Reads Hw ra rc row /\ ∀ ad, ra = some ad -> ∃ o v, Hw.cell? ⟨ad.block, o, none⟩ = some v
 ob : rows ≠ [] -> ∃ oc, Hw.cell? ⟨OB, 0, none⟩ = some (.slice (some ⟨p.out, 0, none⟩) p.n oc)
 k : KTab Hw
 val : ∀ x row o, rows[x]? = some row -> o < 32 -> p.val x o = U8 (byteAt (Sha.sum row) o)
 oty : p.oty = 40
section
variable {top : Nat} {γ γ' γ2 : Gho} {p : Ph} {w w' w2 : World} {i j k n : Nat} {Post : Value -> World -> Prop} {es : Array Event} {g g' : Goroutine} {Hw : World} {LB OB : Nat}
theorem Snap.keeps {ty : TypeId} (s : Snap i p γ Hw) (hI : GInv ty top γ2 w2) (hp : γ2.ph = some p) (hk : Kw i γ γ2) : Keeps Hw w2 := by
 rintro ⟨b, o, sp⟩ v h
 cases sp with
 | some sp =>
  exfalso
  unfold World.cell? at h
  cases hb : Hw.heap[b]? with
  | none => simp [hb] at h
  | some ob => cases ob <;> simp [hb] at h
 | none =>
  obtain ⟨hF, hH⟩ := s b o v h
  have hF2 := hk.F hF
  obtain ⟨q1, m, _, q2⟩ := hF2
  have e := (hI.core _ hp).fix b m q1 q2
  unfold World.cell? at h ⊢
  rw [e, hH]
  exact h
theorem cells_of {w : World} {b o : Nat} {v : Value} (h : w.cell? ⟨b, o, none⟩ = some v) : ∃ cs t fr, w.heap[b]? = some (.cells cs t fr) := by
 unfold World.cell? at h
 cases hb : w.heap[b]? with
 | none => simp [hb] at h
 | some ob => cases ob <;> simp [hb] at h; exact ⟨_, _, _, rfl⟩
def SumAt (p : Ph) (LBX OBX i x : Nat) (row : List (BitVec 8)) (oc lb lo lc : Nat) (ra : Option Addr) (rc : Nat) (γ0 : Gho) (m : Nat) (listed : Array Bool) (T : Array Value) (γ : Gho) (_ : World) : Prop :=
 ∃ b0 b1 b2 b3 b4 b5 b6 b7 b8 : Bool, ∃ t5 t6 t7 t8 t9 t10 t11 t12 : Value, listed = #[b0, b1, b2, b3, b4, b5, b6, b7, b8] /\ m = (if b0 then 0 else 1) + (if b1 then 0 else 1) + (if b2 then 0 else 1) + (if b3 then 0 else 1) + (if b4 then 0 else 1) + (if b5 then 0 else 1) + (if b6 then 0 else 1) + (if b7 then 0 else 1) + (if b8 then 0 else 1) /\ T = #[.int .i64 (x : Int), .pointer (some ⟨LBX, 0, none⟩), .pointer (some ⟨OBX, 0, none⟩), undef, .bool false, t5, t6, t7, t8, t9, t10, t11, t12] /\
 (b0 = true -> t5 = (Value.slice (some ⟨p.out, 0, none⟩) p.n oc)) /\ (b1 = true -> t6 = (Value.int .i64 (x : Int))) /\ (b2 = true -> t7 = (Value.slice (some ⟨lb, lo, none⟩) p.n lc)) /\ (b3 = true -> t8 = (Value.int .i64 (x : Int))) /\ (b4 = true -> t9 = (Value.pointer (some ⟨lb, lo + x, none⟩))) /\ (b5 = true -> t10 = (Value.slice ra row.length rc)) /\ (b6 = true -> t11 = (Value.agg ((Sha.sum row).map U8).toArray)) /\ (b7 = true -> t12 = (Value.pointer (some ⟨p.out, x * 32, none⟩))) /\
 γ.ph = some p /\ γ.deaf i = 0 /\ γ.tag i = (if b8 then .idle else .busy x) /\ Kw i γ0 γ
noncomputable def jobOps : Array Oper := match (match Tryz.f31.body with | some (.seq _ (.seq (.region _ ops _) _)) => some ops | _ => none) with | some ops => ops | none => #[]
theorem ready_job : ∀ b0 b1 b2 b3 b4 b5 b6 b7 b8 : Bool, Region.ready .any jobOps #[b0, b1, b2, b3, b4, b5, b6, b7, b8] = [] -> (b0 && b1 && b2 && b3 && b4 && b5 && b6 && b7 && b8) = true := by decide +kernel
set_option maxRecDepth 100000 in
set_option maxHeartbeats 8000000 in
theorem sums_job {rows : List (List (BitVec 8))} (hS : Snap i p γ Hw) (hIn : SumsIn p Hw LB OB rows) (hkd : p.kind = .fill) (hbi : p.b <= i) (hi0 : i ≠ 0) (hgl : Tryz.prog.globals.size <= γ.hs) : Job p top Post i γ w 31 #[.pointer (some ⟨LB, 0, none⟩), .pointer (some ⟨OB, 0, none⟩)] := by
 intro x γ1 w1 c cs fn cd hff hfb hkp hp ht hd hxn hI hK
 rw [Tryz.func31] at hff
 obtain rfl := Option.some.inj hff
 obtain rfl : (Tryz.f31.body.getD .skip) = cd := by rw [hfb]; rfl
 clear hff hfb
 obtain ⟨row, hrow⟩ : ∃ row, rows[x]? = some row := ⟨rows[x]'(by rw [<- hIn.n]; exact hxn), by simp⟩
 have hne : rows ≠ [] := fun e => by rw [e] at hrow; simp at hrow
 obtain ⟨oc, hob⟩ := hIn.ob hne
 obtain ⟨lb, lo, lc, hlb, hr⟩ := hIn.rws
 replace hlb := hlb hne
 obtain ⟨hlen, ra, rc, hrw, hrd, hra⟩ := hr x row hrow
 clear hr
 have hsm := hIn.small
 have hidx : (0 : Int) <= (x : Int) /\ (x : Int) < (p.n : Int) := ⟨by omega, by omega⟩
 have hg : γ1.tag i ≠ .gone := by rw [ht]; simp
 have hs : ¬ (γ1.tag i).tied := by rw [ht]; exact fun h => h
 simp only [Tryz.f31, Option.getD_some]
 walk_nrm
 refine lives_ctl rfl hg (fun _ => stepG_seq) ?_
 refine lives_ctl rfl hg (fun _ => stepG_region) ?_
 simp only [List.size_toArray, List.length_cons, List.length_nil, Nat.reduceAdd, Nat.zero_add, List.range, List.range.loop]
 refine lives_pure rfl hg (fun wV => ?_)
 refine goes_oper_k rfl rfl (by k_ne) (fun W hW => ?_)
 go_simp
 refine hW _ _ ⟨⟨rfl, no_listed (by simp [go_sem])⟩, ?_⟩
 clear hW
 clear W wV
 try walk_nrm
 refine lives_ctl rfl hg (fun _ => stepG_region_end) ?_
 refine lives_ctl rfl hg (fun _ => stepG_seq) ?_
 refine lives_draw (by kernel_rfl) hs fun t => ?_
 refine lives_any (SumAt p LB OB i x row oc lb lo lc ra rc γ1) (fun listed T γ w h => ?_) (fun m listed T γ w h => ?_) (fun m listed T γ w h l hl rest hnext => ?_) _ _ _ _ _ _ ⟨_, _, _, _, _, _, _, _, _, _, _, _, _, _, _, _, _, rfl, rfl, rfl, nofun, nofun, nofun, nofun, nofun, nofun, nofun, nofun, hp, hd, ht, .refl _ _⟩
 ·obtain ⟨b0, b1, b2, b3, b4, b5, b6, b7, b8, t5, t6, t7, t8, t9, t10, t11, t12, rfl, hm, rfl, h0, h1, h2, h3, h4, h5, h6, h7, hp2, hd2, ht2, hk2⟩ := h
  obtain rfl : b8 = true := by cases b8 with
   | true => rfl
   | false => simp at hm
  clear hm h0 h1 h2 h3 h4 h5 h6 h7 hg hs
  have hg : γ.tag i ≠ .gone := by rw [ht2]; simp
  refine lives_ctl rfl hg (fun _ => stepG_region_end) ?_
  refine lives_ctl rfl hg (fun _ => stepG_seq) ?_
  refine lives_ctl rfl hg (fun _ => stepG_region) ?_
  simp only [List.size_toArray, List.length_cons, List.length_nil, Nat.reduceAdd, Nat.zero_add, List.range, List.range.loop]
  refine lives_pure rfl hg (fun wV => ?_)
  refine goes_oper_k rfl rfl (by k_ne) (fun W hW => ?_)
  go_simp
  refine hW _ _ ⟨⟨rfl, no_listed (by simp [go_sem])⟩, ?_⟩
  clear hW
  clear W wV
  try walk_nrm
  refine lives_ctl rfl hg (fun _ => stepG_region_end) ?_
  refine lives_ctl rfl hg (fun _ => stepG_ret') ?_
  refine lives_ctl rfl hg (fun w2 => stepG_leave (v := .bool true) rfl rfl Tryz.func31 (by kernel_rfl) (by kernel_rfl)) ?_
  exact hK γ w hk2 hp2 (by simpa using ht2) hd2
 ·obtain ⟨b0, b1, b2, b3, b4, b5, b6, b7, b8, t5, t6, t7, t8, t9, t10, t11, t12, rfl, hm, rfl, h0, h1, h2, h3, h4, h5, h6, h7, hp2, hd2, ht2, hk2⟩ := h
  intro hr
  have := ready_job _ _ _ _ _ _ _ _ _ hr
  simp only [Bool.and_eq_true] at this
  obtain ⟨⟨⟨⟨⟨⟨⟨⟨rfl, rfl⟩, rfl⟩, rfl⟩, rfl⟩, rfl⟩, rfl⟩, rfl⟩, rfl⟩ := this
  simp at hm
 ·obtain ⟨b0, b1, b2, b3, b4, b5, b6, b7, b8, t5, t6, t7, t8, t9, t10, t11, t12, rfl, hm, rfl, h0, h1, h2, h3, h4, h5, h6, h7, hp2, hd2, ht2, hk2⟩ := h
  clear hg hs ht hp hd hI
  have hg : γ.tag i ≠ .gone := by rw [ht2]; split <;> simp
  have hs : ¬ (γ.tag i).tied := by rw [ht2]; split <;> exact fun h => h
  have hkk := hkp.trans hk2
  unfold Region.ready at hl
  obtain ⟨hl1, hl2⟩ := List.mem_filter.1 hl
  have hl3 : l < 9 := by simpa using hl1
  have hl4 : l = 0 \/ l = 1 \/ l = 2 \/ l = 3 \/ l = 4 \/ l = 5 \/ l = 6 \/ l = 7 \/ l = 8 := by omega
  clear hl hl1 hl3
  rcases hl4 with rfl | rfl | rfl | rfl | rfl | rfl | rfl | rfl | rfl
  ·-- operation 0
   have hb : b0 = false := by simpa [Region.binds] using hl2
   obtain rfl := hb
   have hFix := hkk.F (hS _ _ _ hob).1
   refine lives_read rfl hs (fun γV wV hrl hIV => ?_)
   have hcell : wV.cell? ⟨OB, 0, none⟩ = some (.slice (some ⟨p.out, 0, none⟩) p.n oc) := (hS.keeps hIV ((hrl.live hg).ph _ ⟨hp2, .inl hi0⟩) (hkk.trans (hrl.live hg).kw)) _ _ hob
   refine goes_oper_k rfl rfl (by k_ne) (fun W hW => ?_)
   go_simp
   refine hW _ _ ⟨⟨rfl, fun e he => ?_⟩, ?_⟩
   ·have hm := mem_listed he
    simp [go_sem, hcell] at hm
    subst hm
    exact .inl ⟨_, rfl, rfl, .inr ⟨(hrl.live hg).kw.F hFix, rfl⟩⟩
   clear hW hcell
   clear W
   clear hrl hIV
   clear γV wV
   try walk_nrm
   exact hnext _ _ _ ⟨_, _, _, _, _, _, _, _, _, _, _, _, _, _, _, _, _, rfl, (by simp only [Bool.false_eq_true, if_false, if_true] at hm ⊢; omega), rfl, (fun _ => rfl), h1, h2, h3, h4, h5, h6, h7, hp2, hd2, ht2, hk2⟩
  ·-- operation 1
   have hb : b1 = false := by simpa [Region.binds] using hl2
   obtain rfl := hb
   refine lives_pure rfl hg (fun wV => ?_)
   refine goes_oper_k rfl rfl (by k_ne) (fun W hW => ?_)
   go_simp
   refine hW _ _ ⟨⟨rfl, no_listed (by simp [go_sem])⟩, ?_⟩
   clear hW
   clear W wV
   try walk_nrm
   exact hnext _ _ _ ⟨_, _, _, _, _, _, _, _, _, _, _, _, _, _, _, _, _, rfl, (by simp only [Bool.false_eq_true, if_false, if_true] at hm ⊢; omega), rfl, h0, (fun _ => rfl), h2, h3, h4, h5, h6, h7, hp2, hd2, ht2, hk2⟩
  ·-- operation 2
   have hb : b2 = false := by simpa [Region.binds] using hl2
   obtain rfl := hb
   have hFix := hkk.F (hS _ _ _ hlb).1
   refine lives_read rfl hs (fun γV wV hrl hIV => ?_)
   have hcell : wV.cell? ⟨LB, 0, none⟩ = some (.slice (some ⟨lb, lo, none⟩) p.n lc) := (hS.keeps hIV ((hrl.live hg).ph _ ⟨hp2, .inl hi0⟩) (hkk.trans (hrl.live hg).kw)) _ _ hlb
   refine goes_oper_k rfl rfl (by k_ne) (fun W hW => ?_)
   go_simp
   refine hW _ _ ⟨⟨rfl, fun e he => ?_⟩, ?_⟩
   ·have hm := mem_listed he
    simp [go_sem, hcell] at hm
    subst hm
    exact .inl ⟨_, rfl, rfl, .inr ⟨(hrl.live hg).kw.F hFix, rfl⟩⟩
   clear hW hcell
   clear W
   clear hrl hIV
   clear γV wV
   try walk_nrm
   exact hnext _ _ _ ⟨_, _, _, _, _, _, _, _, _, _, _, _, _, _, _, _, _, rfl, (by simp only [Bool.false_eq_true, if_false, if_true] at hm ⊢; omega), rfl, h0, h1, (fun _ => rfl), h3, h4, h5, h6, h7, hp2, hd2, ht2, hk2⟩
  ·-- operation 3
   have hb : b3 = false := by simpa [Region.binds] using hl2
   obtain rfl := hb
   refine lives_pure rfl hg (fun wV => ?_)
   refine goes_oper_k rfl rfl (by k_ne) (fun W hW => ?_)
   go_simp
   refine hW _ _ ⟨⟨rfl, no_listed (by simp [go_sem])⟩, ?_⟩
   clear hW
   clear W wV
   try walk_nrm
   exact hnext _ _ _ ⟨_, _, _, _, _, _, _, _, _, _, _, _, _, _, _, _, _, rfl, (by simp only [Bool.false_eq_true, if_false, if_true] at hm ⊢; omega), rfl, h0, h1, h2, (fun _ => rfl), h4, h5, h6, h7, hp2, hd2, ht2, hk2⟩
  ·-- operation 4
   have hb : b4 = false /\ b2 = true /\ b3 = true := by simpa [Region.binds] using hl2
   obtain ⟨rfl, rfl, rfl⟩ := hb
   obtain rfl := h2 rfl
   obtain rfl := h3 rfl
   refine lives_pure rfl hg (fun wV => ?_)
   refine goes_oper_k rfl rfl (by k_ne) (fun W hW => ?_)
   go_simp
   refine hW _ _ ⟨⟨rfl, no_listed (by simp [go_sem]; exact events_indexAt_slice _ _ _ _ _ _ (by kernel_rfl) hidx)⟩, ?_⟩
   clear hW
   clear W wV
   try walk_nrm
   exact hnext _ _ _ ⟨_, _, _, _, _, _, _, _, _, _, _, _, _, _, _, _, _, rfl, (by simp only [Bool.false_eq_true, if_false, if_true] at hm ⊢; omega), rfl, h0, h1, (fun _ => rfl), (fun _ => rfl), (fun _ => rfl), h5, h6, h7, hp2, hd2, ht2, hk2⟩
  ·-- operation 5
   have hb : b5 = false /\ b4 = true := by simpa [Region.binds] using hl2
   obtain ⟨rfl, rfl⟩ := hb
   obtain rfl := h4 rfl
   have hFix := hkk.F (hS _ _ _ hrw).1
   refine lives_read rfl hs (fun γV wV hrl hIV => ?_)
   have hcell : wV.cell? ⟨lb, lo + x, none⟩ = some (.slice ra row.length rc) := (hS.keeps hIV ((hrl.live hg).ph _ ⟨hp2, .inl hi0⟩) (hkk.trans (hrl.live hg).kw)) _ _ hrw
   refine goes_oper_k rfl rfl (by k_ne) (fun W hW => ?_)
   go_simp
   refine hW _ _ ⟨⟨rfl, fun e he => ?_⟩, ?_⟩
   ·have hm := mem_listed he
    simp [go_sem, hcell] at hm
    subst hm
    exact .inl ⟨_, rfl, rfl, .inr ⟨(hrl.live hg).kw.F hFix, rfl⟩⟩
   clear hW hcell
   clear W
   clear hrl hIV
   clear γV wV
   try walk_nrm
   exact hnext _ _ _ ⟨_, _, _, _, _, _, _, _, _, _, _, _, _, _, _, _, _, rfl, (by simp only [Bool.false_eq_true, if_false, if_true] at hm ⊢; omega), rfl, h0, h1, h2, h3, (fun _ => rfl), (fun _ => rfl), h6, h7, hp2, hd2, ht2, hk2⟩
  ·-- operation 6
   have hb : b6 = false /\ b5 = true := by simpa [Region.binds] using hl2
   obtain ⟨rfl, rfl⟩ := hb
   obtain rfl := h5 rfl
   refine lives_step rfl hg fun γ2 w2 hrl hI hi => ?_
   have l2 := hrl.live hg
   have hp3 := l2.ph _ ⟨hp2, .inl hi0⟩
   have hk3 := hkk.trans l2.kw
   have kp := hS.keeps hI hp3 hk3
   have hs3 : ¬ (γ2.tag i).tied := by rw [hrl.tag]; exact hs
   refine .go _ w2 #[] γ2 (stepG_callE (vs := #[.slice ra row.length rc]) rfl rfl (by k_ne) rfl (by simp [Act.eval]) Tryz.func25 (by kernel_rfl) (by rfl)) (do_idle hI hi _) ?_
   refine lives_way (way_sha (F := γ2.F i) (S := γ2.S i) (fun b hb => by rw [<- hI.hs]; exact hb.1) (by rw [<- hI.hs]; exact Nat.le_trans hgl hk3.hs) (hIn.k.keeps kp) (hk3.F (hS _ _ _ (hIn.k 0 (by decide))).1) (hrd.keeps kp) hlen (fun ad e => ?_)) γ2 rfl hI.hs (fun b hb => hb) hs3 fun S' g' w' γ' hx hS' hs' e => ?_
   ·obtain ⟨o, v, hv⟩ := hra ad e
    exact ⟨hk3.F (hS _ _ _ hv).1, cells_of (kp _ _ hv)⟩
   ·subst e
    rw [Frame.finish_at]
    walk_nrm
    exact hnext _ _ _ ⟨_, _, _, _, _, _, _, _, _, _, _, _, _, _, _, _, _, rfl, (by simp only [Bool.false_eq_true, if_false, if_true] at hm ⊢; omega), rfl, h0, h1, h2, h3, h4, (fun _ => rfl), (fun _ => rfl), h7, hx.ph _ ⟨hp3, .inl hi0⟩, hx.deaf.trans (hrl.deaf.trans hd2), hx.tag.trans (hrl.tag.trans ht2), hk2.trans (l2.kw.trans hx.kw)⟩
  ·-- operation 7
   have hb : b7 = false /\ b0 = true /\ b1 = true /\ b0 = true /\ b1 = true /\ b2 = true /\ b3 = true /\ b4 = true /\ b5 = true /\ b6 = true := by simpa [Region.binds] using hl2
   obtain ⟨rfl, rfl, rfl, -, -, rfl, rfl, rfl, rfl, rfl⟩ := hb
   obtain rfl := h0 rfl
   obtain rfl := h1 rfl
   obtain rfl := h2 rfl
   obtain rfl := h3 rfl
   obtain rfl := h4 rfl
   obtain rfl := h5 rfl
   obtain rfl := h6 rfl
   refine lives_pure rfl hg (fun wV => ?_)
   refine goes_oper_k rfl rfl (by k_ne) (fun W hW => ?_)
   go_simp
   refine hW _ _ ⟨⟨rfl, no_listed (by simp [go_sem]; exact events_indexAt_slice _ _ _ _ _ _ (by kernel_rfl) hidx)⟩, ?_⟩
   clear hW
   clear W wV
   try walk_nrm
   exact hnext _ _ _ ⟨_, _, _, _, _, _, _, _, _, _, _, _, _, _, _, _, _, rfl, (by simp only [Bool.false_eq_true, if_false, if_true] at hm ⊢; omega), rfl, (fun _ => rfl), (fun _ => rfl), (fun _ => rfl), (fun _ => rfl), (fun _ => rfl), (fun _ => rfl), (fun _ => rfl), (fun _ => rfl), hp2, hd2, ht2, hk2⟩
  ·-- operation 8
   have hb : b8 = false /\ b7 = true /\ b6 = true /\ b0 = true /\ b1 = true /\ b2 = true /\ b3 = true /\ b4 = true /\ b5 = true /\ b6 = true := by simpa [Region.binds] using hl2
   obtain ⟨rfl, rfl, rfl, rfl, rfl, rfl, rfl, rfl, rfl, -⟩ := hb
   obtain rfl := h0 rfl
   obtain rfl := h1 rfl
   obtain rfl := h2 rfl
   obtain rfl := h3 rfl
   obtain rfl := h4 rfl
   obtain rfl := h5 rfl
   obtain rfl := h6 rfl
   obtain rfl := h7 rfl
   have ht3 : γ.tag i = .busy x := by simpa using ht2
   refine lives_step rfl hg fun γ2 w2 hrl hI hi => ?_
   have l2 := hrl.live hg
   have hp3 := l2.ph _ ⟨hp2, .inl hi0⟩
   have hC := hI.core _ hp3
   obtain ⟨cur, hcur, hcs, _⟩ := (hC.fill hkd).out
   have hvl : ((Sha.sum row).map U8).length = 32 := by rw [List.length_map, sum_length]
   have hfit : x * 32 + ((Sha.sum row).map U8).length <= cur.size := by rw [hvl, hcs]; omega
   have hv1 : ∀ v ∈ (Sha.sum row).map U8, v.oneCell' = true := fun v hv => by obtain ⟨y, _, rfl⟩ := List.mem_map.1 hv; rfl
   have hinf : (Tryz.prog.info? 40).map (·.size) = some ((Sha.sum row).map U8).length := by rw [hvl]; kernel_rfl
   have hvg : ∀ o, o < 32 -> ((Sha.sum row).map U8)[o]? = some (p.val x o) := fun o ho => by
    rw [hIn.val x row o hrow ho, byteAt_lt (by rw [sum_length]; exact ho), List.getElem?_map, List.getElem?_eq_getElem (by rw [sum_length]; exact ho)]
    rfl
   have hPut : PutsAt p x w2 (w2.setRow p.out (cur.toList.take (x * 32) ++ (Sha.sum row).map U8 ++ cur.toList.drop (x * 32 + ((Sha.sum row).map U8).length)).toArray) := by
    refine ⟨by simp [World.setRow], rfl, .of rfl rfl, fun b hb => setRow_other _ _ _ _ hb, fun cs' hcs' => ?_⟩
    rw [hcur] at hcs'
    injection hcs' with hcs'
    injection hcs' with hcs'
    subst hcs'
    have hfit' : x * 32 + ((Sha.sum row).map U8).length <= cur.toList.length := by simpa using hfit
    refine ⟨_, setRow_heap _ _ _ _ _ _ hcur, by simpa using splice_length _ _ _ hfit', fun o ho => ?_, fun k hk => ?_⟩
    ·rw [List.getElem?_toArray, show 32 * x + o = x * 32 + o by omega, splice_in _ _ _ _ hfit' (by rw [hvl]; exact ho)]
     exact hvg o ho
    ·rw [List.getElem?_toArray, splice_out _ _ _ _ hfit' (by rw [hvl]; omega)]
     simp
   refine .go _ (w2.setRow p.out (cur.toList.take (x * 32) ++ (Sha.sum row).map U8 ++ cur.toList.drop (x * 32 + ((Sha.sum row).map U8).length)).toArray) _ (γ2.put i x) (stepG_none rfl rfl (by k_ne) (exec_store_row (P := Tryz.prog) rfl rfl rfl hinf hcur hfit hv1).1) (do_put hI hp3 hkd hbi hi (hrl.tag.trans ht3) (hrl.deaf.trans hd2) hPut (fun e he => ?_) _) ?_
   ·obtain ⟨j, hj, rfl⟩ := (exec_store_row (P := Tryz.prog) rfl rfl rfl hinf hcur hfit hv1).2 e (mem_listed he)
    rw [hvl] at hj
    exact ⟨_, rfl, rfl, by show (x * 32 + j) / 32 = x; omega⟩
   ·exact hnext _ _ _ ⟨_, _, _, _, _, _, _, _, _, _, _, _, _, _, _, _, _, rfl, (by simp only [Bool.false_eq_true, if_false, if_true] at hm ⊢; omega), rfl, (fun _ => rfl), (fun _ => rfl), (fun _ => rfl), (fun _ => rfl), (fun _ => rfl), (fun _ => rfl), (fun _ => rfl), (fun _ => rfl), hp3, hrl.deaf.trans hd2, upd_same _ _ _, hk2.trans (l2.kw.trans (kw_put _ _ _))⟩
end
end Go.Proofs.YtbicafgmfgdckaaGreatDoor
namespace Go.Proofs.YtbicafgmfgdckaaGreatDoor
open Go Go.RowKit Go.Conc Go.Conc.Lib Go.ConcR.Gen
open Go.ConcR (KK wgBlock WgAt stA smA rd wr mk DC0)
open Go.ConcN (sumTo upd upd_same upd_ne RelBy PermW WgLive)
def PartAt (L : List Pt) (v : Value) (ob : Option (Nat × Obj)) : Prop :=
 (L = [] /\ v = .slice none 0 0 /\ ob = none) \/ ∃ (B cap : Nat) (cs : Array Value), v = .slice (some ⟨B, 0, none⟩) L.length cap /\ L.length <= cap /\ cap <= maxLen /\ (∀ (j : Nat) (u : Value), (L.flatMap partC)[j]? = some u -> cs[j]? = some u) /\ ob = some (B, .cells cs 60 (0, 0))
def PartGood (h : CutMath.Sh) (rows : List (List (BitVec 8))) (x : Nat) (v : Value) (ob : Option (Nat × Obj)) : Prop :=
 ∃ row u, rows[x]? = some row /\ v = .agg #[.int .i64 (x : Int), u] /\ PartAt (partsOf h row) u ob
theorem flat_ints (L : List Pt) : ∀ u ∈ L.flatMap partC, ∃ k n, u = .int k n := fun u hu => by
 obtain ⟨p, _, hp⟩ := List.mem_flatMap.1 hu
 unfold partC keyC at hp
 rcases List.mem_append.1 hp with h | h
 ·obtain ⟨y, _, rfl⟩ := List.mem_map.1 h
  exact ⟨_, _, rfl⟩
 ·rw [List.mem_singleton] at h
  exact ⟨_, _, h⟩
section
variable {gs x SB LB DB B d : Nat} {T : Tape} {F S : Nat -> Prop} {ρ : Ren} {w1 W : World} {ts ts' : Array Value} {L : List Pt}
theorem part_made {v v' : Value} (hw : WR gs F ρ (re w1 W.tape W.drawn) W) (hS : ∀ a b, ρ a b -> S b \/ F b) (hv : VR ρ v v') (ho : OwnsC partC 33 (re w1 T d) B 60 v L) (hn : L = [] -> v = .slice none 0 0) :
  ∃ bl ob, PartAt L v' ob /\ match bl with
   | none => ob = none
   | some g => S g /\ ∃ o, W.heap[g]? = some o /\ ob = some (g, o) := by
 rcases ho.row.2 with ⟨rfl, h0⟩ | ⟨g, cap, cur, rfl, _, hg, hnc, hcm, hsz, htk⟩
 ·have h0 : L = [] := List.eq_nil_of_length_eq_zero h0
  cases hv with
  | snil => exact ⟨none, none, Or.inl ⟨h0, rfl, rfl⟩, rfl⟩
 ·have hne : L ≠ [] := fun e => by
   have := hn e
   injection this with this
   cases this
  have hpos : 0 < L.length := List.length_pos_iff.2 hne
  unfold PartAt
  generalize hL : L.length = nL at *
  cases hv with
  | slice _ _ har =>
   rename_i ad'
   obtain ⟨hb, ho1, hs1⟩ := har
   obtain ⟨bk', of', sp'⟩ := ad'
   dsimp only at hb ho1 hs1
   subst ho1 hs1
   obtain ⟨o, o', e1, e2, hob⟩ := hw.block _ _ hb
   have e3 : (re w1 W.tape W.drawn).heap[g]? = some (.cells cur 60 (0, 0)) := hg
   rw [e3] at e1
   injection e1 with e1
   subst e1
   cases o' with
   | cells cs' t' fr' =>
    obtain ⟨rfl, hvs, hF, hnF⟩ := hob
    have hcs : 0 < cur.size := by
     rw [hsz]
     have : 0 < cap := by omega
     omega
    have hnf : ¬ F bk' := fun q => by
     have := hF q 0 hcs
     omega
    obtain ⟨_, rfl⟩ := hnF hnf
    refine ⟨some bk', _, Or.inr ⟨bk', cap, cs', rfl, hnc, hcm, fun j u hu => ?_, rfl⟩, (hS _ _ hb).resolve_right hnf, _, e2, rfl⟩
    rw [<- htk] at hu
    have hj : j < nL * 33 := by
     have := (List.getElem?_eq_some_iff.1 hu).1
     rw [List.length_take] at this
     omega
    rw [List.getElem?_take_of_lt hj, Array.getElem?_toList] at hu
    have hl := (Array.getElem?_eq_some_iff.1 hu).1
    have hl' : j < cs'.size := by rw [<- hvs.size]; exact hl
    have hr := hvs.at_ j hl hl'
    rw [Array.getElem?_eq_getElem hl] at hu
    injection hu with hu
    rw [hu] at hr
    obtain ⟨k, n, rfl⟩ := flat_ints L u (by rw [<- htk]; exact List.mem_of_getElem? (i := j) (by rw [List.getElem?_take_of_lt hj, Array.getElem?_toList, Array.getElem?_eq_getElem hl, hu]))
    rw [Array.getElem?_eq_getElem hl', vr_int hr]
   | _ => exact hob.elim
  | slz q => omega
theorem vr_at (h : VsR ρ ts ts') {i : Nat} {v : Value} (hv : ts[i]? = some v) : ∃ v', ts'[i]? = some v' /\ VR ρ v v' := by
 rcases h.get i with ⟨e1, _⟩ | ⟨u, u', e1, e2, hr⟩
 ·rw [e1] at hv; cases hv
 ·rw [e1] at hv; injection hv with hv; subst hv; exact ⟨u', e2, hr⟩
theorem list39 {l : List Value} (h : l.length = 39) : ∃ b0 b1 b2 b3 b4 b5 b6 b7 b8 b9 b10 b11 b12 b13 b14 b15 b16 b17 b18 b19 b20 b21 b22 b23 b24 b25 b26 b27 b28 b29 b30 b31 b32 b33 b34 b35 b36 b37 b38, l = [b0, b1, b2, b3, b4, b5, b6, b7, b8, b9, b10, b11, b12, b13, b14, b15, b16, b17, b18, b19, b20, b21, b22, b23, b24, b25, b26, b27, b28, b29, b30, b31, b32, b33, b34, b35, b36, b37, b38] := by
 match l, h with
 | b0 :: b1 :: b2 :: b3 :: b4 :: b5 :: b6 :: b7 :: b8 :: b9 :: b10 :: b11 :: b12 :: b13 :: b14 :: b15 :: b16 :: b17 :: b18 :: b19 :: b20 :: b21 :: b22 :: b23 :: b24 :: b25 :: b26 :: b27 :: b28 :: b29 :: b30 :: b31 :: b32 :: b33 :: b34 :: b35 :: b36 :: b37 :: b38 :: [], _ => exact ⟨b0, b1, b2, b3, b4, b5, b6, b7, b8, b9, b10, b11, b12, b13, b14, b15, b16, b17, b18, b19, b20, b21, b22, b23, b24, b25, b26, b27, b28, b29, b30, b31, b32, b33, b34, b35, b36, b37, b38, rfl⟩
theorem part_slots (hw : WR gs F ρ (re w1 W.tape W.drawn) W) (hD : ρ DB DB) (h : VsR ρ ts ts') (hp : Part3 x SB LB DB B L ts (re w1 T d)) (hS : ∀ a b, ρ a b -> S b \/ F b) :
  ∃ b1 b2 b4 b5 b6 b7 b8 b9 b10 b11 b12 b13 b14 b15 b16 b17 b18 b19 b20 b21 b22 b23 b24 b25 b26 b27 b28 b29 b30 b31 b32 b33 b34 b35 b36 b37 b38, ts' = #[.int .i64 (x : Int), b1, b2, .pointer (some ⟨DB, 0, none⟩), b4, b5, b6, b7, b8, b9, b10, b11, b12, b13, b14, b15, b16, b17, b18, b19, b20, b21, b22, b23, b24, b25, b26, b27, b28, b29, b30, b31, b32, b33, b34, b35, b36, b37, b38] /\ ∃ bl ob, PartAt L b8 ob /\ match bl with
   | none => ob = none
   | some g => S g /\ ∃ o, W.heap[g]? = some o /\ ob = some (g, o) := by
 obtain ⟨t6, t7, v, us, hus, rfl, ho, hn⟩ := hp
 obtain ⟨l⟩ := ts'
 have hl : l.length = 39 := by
  have := h.size
  simp [PartS, hus] at this
  omega
 obtain ⟨b0, b1, b2, b3, b4, b5, b6, b7, b8, b9, b10, b11, b12, b13, b14, b15, b16, b17, b18, b19, b20, b21, b22, b23, b24, b25, b26, b27, b28, b29, b30, b31, b32, b33, b34, b35, b36, b37, b38, rfl⟩ := list39 hl
 obtain ⟨v0, e0, r0⟩ := vr_at h (i := 0) (v := .int .i64 (x : Int)) (by simp [PartS])
 obtain ⟨v3, e3, r3⟩ := vr_at h (i := 3) (v := .pointer (some ⟨DB, 0, none⟩)) (by simp [PartS])
 obtain ⟨v8, e8, r8⟩ := vr_at h (i := 8) (v := v) (by simp [PartS])
 have e0 : b0 = v0 := by simpa using e0
 have e3 : b3 = v3 := by simpa using e3
 have e8 : b8 = v8 := by simpa using e8
 subst e0 e3 e8
 obtain rfl := vr_int r0
 obtain rfl : b3 = .pointer (some ⟨DB, 0, none⟩) := by
  cases r3 with
  | ptr q =>
   rename_i ad
   obtain ⟨bk, of, sp⟩ := ad
   obtain ⟨q1, q2, q3⟩ := q
   dsimp only at q1 q2 q3
   subst q2 q3
   rw [hw.fn _ _ _ hD q1]
 exact ⟨b1, b2, b4, b5, b6, b7, b8, b9, b10, b11, b12, b13, b14, b15, b16, b17, b18, b19, b20, b21, b22, b23, b24, b25, b26, b27, b28, b29, b30, b31, b32, b33, b34, b35, b36, b37, b38, rfl, part_made hw hS r8 ho hn⟩
end
def cutFs : List Nat := [24, 20, 39, 40, 41, 73, 74, 75, 76, 95, 96, 97, 98, 110] ++ shaFs
theorem okCut : ∀ f, cutFs.contains f = true -> okBody Tryz.prog gK cutFs f = true := by
 have h : cutFs.all (fun f => okBody Tryz.prog gK cutFs f) = true := by kernel_rfl
 intro f hf
 exact List.all_eq_true.1 h f (by simpa using hf)
theorem okParts : ∀ c ∈ partCodes, okCode Tryz.prog gK cutFs c = true := by
 have h : partCodes.all (fun c => okCode Tryz.prog gK cutFs c) = true := by kernel_rfl
 exact List.all_eq_true.1 h
theorem vsr_self {ρ : Ren} {l : List Value} (h : ∀ v ∈ l, VR ρ v v) : VsR ρ l.toArray l.toArray := ⟨rfl, fun i h1 _ => by
 simp only [List.getElem_toArray]
 exact h _ (List.getElem_mem _)⟩
def PartStop (h : CutMath.Sh) (x DB : Nat) (row : List (BitVec 8)) (b : Frame) (rest : Code) (k : List Item) (cs : List Frame) (S : Nat -> Prop) (g : Goroutine) (W : World) : Prop :=
 ∃ b1 b2 b4 b5 b6 b7 b8 b9 b10 b11 b12 b13 b14 b15 b16 b17 b18 b19 b20 b21 b22 b23 b24 b25 b26 b27 b28 b29 b30 b31 b32 b33 b34 b35 b36 b37 b38 : Value, g = Conc.G (b.at ⟨#[.int .i64 (x : Int), b1, b2, .pointer (some ⟨DB, 0, none⟩), b4, b5, b6, b7, b8, b9, b10, b11, b12, b13, b14, b15, b16, b17, b18, b19, b20, b21, b22, b23, b24, b25, b26, b27, b28, b29, b30, b31, b32, b33, b34, b35, b36, b37, b38], []⟩ (.code rest :: k)) cs /\ ∃ bl ob, PartAt (partsOf h row) b8 ob /\ match bl with
  | none => ob = none
  | some g => S g /\ ∃ o, W.heap[g]? = some o /\ ob = some (g, o)
set_option maxRecDepth 100000 in
set_option maxHeartbeats 2000000 in
theorem way_part {F S : Nat -> Prop} {W : World} {main : Bool} {h : CutMath.Sh} {x SB LB DB lb lo n lc c : Nat} {a : Option Addr} {row : List (BitVec 8)} {b : Frame} {rest : Code} {k : List Item} {cs : List Frame} {vd : Value} (g : h.Good) (hF : ∀ b, F b -> b < W.heap.size) (hgl : Tryz.prog.globals.size <= W.heap.size) (hbf : b.fn = 23) (hbk : b.kind = .normal)
  (c0 : W.cell? ⟨SB, 0, none⟩ = some (.int .i64 h.L)) (c1 : W.cell? ⟨SB, 1, none⟩ = some (.int .i64 h.M)) (c2 : W.cell? ⟨SB, 2, none⟩ = some (.int .i64 h.K)) (c3 : W.cell? ⟨SB, 3, none⟩ = some (.int .i64 h.W)) (c4 : W.cell? ⟨SB, 4, none⟩ = some (U32 h.s))
  (cl : W.cell? ⟨LB, 0, none⟩ = some (.slice (some ⟨lb, lo, none⟩) n lc)) (hx : x < n) (cr : W.cell? ⟨lb, lo + x, none⟩ = some (.slice a row.length c)) (hr : Reads W a c row) (hlen : row.length <= 100000) (hk : KTab W) (cd : W.cell? ⟨DB, 0, none⟩ = some vd)
  (f0 : F 0) (f1 : F SB) (f2 : F LB) (f3 : F DB) (f4 : F lb) (f5 : ∀ ad, a = some ad -> F ad.block /\ ∃ cs t fr, W.heap[ad.block]? = some (.cells cs t fr)) :
  Way Tryz.prog main F (PartStop h x DB row b rest k cs) S (Conc.G (b.at ⟨PartS x SB LB DB undef undef undef (List.replicate 30 undef), []⟩ (.code (partCodes.foldr .seq rest) :: k)) cs) W := by
 let T : Nat -> Prop := fun b => b = 0 \/ b = SB \/ b = LB \/ b = DB \/ b = lb \/ ∃ ad, a = some ad /\ b = ad.block
 have hTF : ∀ b, T b -> F b := by
  rintro b (rfl | rfl | rfl | rfl | rfl | ⟨ad, e, rfl⟩)
  ·exact f0
  ·exact f1
  ·exact f2
  ·exact f3
  ·exact f4
  ·exact (f5 ad e).1
 have hT : ∀ b, T b -> ∃ cs t fr, W.heap[b]? = some (.cells cs t fr) /\ (¬ F b -> fr = (0, 0)) := by
  intro b hb
  have hq : ∃ cs t fr, W.heap[b]? = some (.cells cs t fr) := by
   rcases hb with rfl | rfl | rfl | rfl | rfl | ⟨ad, e, rfl⟩
   ·exact cells_of (hk 0 (by decide))
   ·exact cells_of c0
   ·exact cells_of cl
   ·exact cells_of cd
   ·exact cells_of cr
   ·exact (f5 ad e).2
  obtain ⟨cs, t, fr, e⟩ := hq
  exact ⟨cs, t, fr, e, fun q => absurd (hTF b hb) q⟩
 have hw := wr_lone (T := T) (gs := Tryz.prog.globals.size) hF hgl hT
 have sl : ∀ (ad : Option Addr) (n c : Nat), (∀ q, ad = some q -> T q.block) -> VR (diag T) (.slice ad n c) (.slice ad n c) := fun ad n c q => by
  cases ad with
  | none => exact .snil _ _
  | some ad => exact .slice _ _ ⟨⟨rfl, q ad rfl⟩, rfl, rfl⟩
 have pt : ∀ b, T b -> VR (diag T) (.pointer (some ⟨b, 0, none⟩)) (.pointer (some ⟨b, 0, none⟩)) := fun b hb => .ptr ⟨⟨rfl, hb⟩, rfl, rfl⟩
 have hin : ∀ (Tp : Tape) (d : Nat), PartIn h (re (loneW (diag T) F W) Tp d) x SB LB row := fun Tp d =>
  ⟨lone_keeps_int T Tp d c0, lone_keeps_int T Tp d c1, lone_keeps_int T Tp d c2, lone_keeps_int T Tp d c3, lone_keeps_int T Tp d c4,
   ⟨lb, lo, n, lc, a, c, lone_cell (ρ := diag T) (F := F) cl (sl _ _ _ fun q e => by cases e; exact .inr (.inr (.inr (.inr (.inl rfl))))), hx, lone_cell (ρ := diag T) (F := F) cr (sl _ _ _ fun q e => .inr (.inr (.inr (.inr (.inr ⟨q, e, rfl⟩))))),
    ⟨hr.fits, hr.room, hr.null, hr.bytes.imp id fun ⟨b, off, e, h⟩ => ⟨b, off, e, fun i hi => lone_keeps_int T Tp d (h i hi)⟩⟩⟩, hlen, fun i hi => lone_keeps_int T Tp d (hk i hi)⟩
 have hvs : VsR (diag T) (PartS x SB LB DB undef undef undef (List.replicate 30 undef)) (PartS x SB LB DB undef undef undef (List.replicate 30 undef)) := vsr_self fun v hv => by
  rcases List.mem_append.1 hv with hv | hv
  ·simp only [List.mem_cons, List.not_mem_nil, or_false] at hv
   rcases hv with rfl | rfl | rfl | rfl | rfl | rfl | rfl | rfl | rfl
   ·exact .int _ _
   ·exact pt _ (.inr (.inl rfl))
   ·exact pt _ (.inr (.inr (.inl rfl)))
   ·exact pt _ (.inr (.inr (.inr (.inl rfl))))
   ·exact vr_undef
   ·exact .bool _
   ·exact vr_undef
   ·exact vr_undef
   ·exact vr_undef
  ·obtain ⟨_, rfl⟩ := List.mem_replicate.1 hv
   exact vr_undef
 have h1 := way_segs (P := Tryz.prog) (G := gK) (fs := cutFs) (F := F) (main := main) okCut (f := 23) Tryz.func23 (by kernel_rfl) (b := b) (k := k) (cs := cs) (rest := rest) (Q := Part3 x SB LB DB W.heap.size (partsOf h row)) hbf hbk partCodes (S := S) okParts hw hvs
  (fun g hgk => by
   have e : g = 0 := by simpa [gK] using hgk
   subst e
   exact ⟨rfl, .inl rfl⟩)
  (fun a b h => .inr (by obtain ⟨rfl, h⟩ := h; exact hTF _ h))
  ⟨W.tape, 0, by
   have := part_runs h g x SB LB DB row _ (hin W.tape 0)
   rw [show (re (loneW (diag T) F W) W.tape 0).heap.size = W.heap.size from lone_size] at this
   exact this⟩
 refine Way.bind h1 fun S2 g2 W2 hE => .stop ?_
 obtain ⟨ts, ts', ρ1, w1, rfl, q1, ⟨T1, d1, q2⟩, q3, q4, q5⟩ := hE
 obtain ⟨b1, b2, b4, b5, b6, b7, b8, b9, b10, b11, b12, b13, b14, b15, b16, b17, b18, b19, b20, b21, b22, b23, b24, b25, b26, b27, b28, b29, b30, b31, b32, b33, b34, b35, b36, b37, b38, e, bl, ob, q6, q7⟩ := part_slots q3 (q5 DB DB ⟨rfl, .inr (.inr (.inr (.inl rfl)))⟩) q1 q2 q4
 subst e
 exact ⟨b1, b2, b4, b5, b6, b7, b8, b9, b10, b11, b12, b13, b14, b15, b16, b17, b18, b19, b20, b21, b22, b23, b24, b25, b26, b27, b28, b29, b30, b31, b32, b33, b34, b35, b36, b37, b38, rfl, bl, ob, q6, q7⟩
end Go.Proofs.YtbicafgmfgdckaaGreatDoor
namespace Go.Proofs.YtbicafgmfgdckaaGreatDoor
open Go Go.RowKit Go.Conc Go.Conc.Lib Go.ConcR.Gen
open Go.ConcR (KK wgBlock WgAt stA smA rd wr mk DC0)
open Go.ConcN (sumTo upd upd_same upd_ne RelBy PermW WgLive)
structure PartsIn (p : Ph) (h : CutMath.Sh) (Hw : World) (SB LB DB dn : Nat) (rows : List (List (BitVec 8))) : Prop where
 n : p.n = rows.length
 small : p.n <= 1000
 c0 : Hw.cell? ⟨SB, 0, none⟩ = some (.int .i64 h.L)
 c1 : Hw.cell? ⟨SB, 1, none⟩ = some (.int .i64 h.M)
 c2 : Hw.cell? ⟨SB, 2, none⟩ = some (.int .i64 h.K)
 c3 : Hw.cell? ⟨SB, 3, none⟩ = some (.int .i64 h.W)
 c4 : Hw.cell? ⟨SB, 4, none⟩ = some (U32 h.s)
 rws : ∃ lb lo lc, (rows ≠ [] -> Hw.cell? ⟨LB, 0, none⟩ = some (.slice (some ⟨lb, lo, none⟩) p.n lc)) /\ ∀ x row, rows[x]? = some row -> row.length <= 100000 /\ ∃ ra rc, Hw.cell? ⟨lb, lo + x, none⟩ = some (.slice ra row.length rc) /\ Reads Hw ra rc row /\ ∀ ad, ra = some ad -> ∃ o v, Hw.cell? ⟨ad.block, o, none⟩ = some v
 db : Hw.cell? ⟨DB, 0, none⟩ = some (.chan (some dn))
 k : KTab Hw
section
variable {top : Nat} {γ γ' γ2 : Gho} {p : Ph} {c : Col} {w w' w2 : World} {i j k n x : Nat} {Post : Value -> World -> Prop} {es : Array Event} {g g' : Goroutine} {Hw : World} {SB LB DB dn : Nat}
theorem lives_turn {P : Program} {ty : TypeId} (hr : g.status = .running) (ht : γ.tag i ≠ .gone) (h : ∀ γ2 w2, Rel i γ w γ2 w2 -> GInv ty top γ2 w2 -> i < γ2.cnt -> ∃ γ3, (∀ wk, (crewPact P ty top Post).Do i γ2 w2 γ3 w2 wk #[]) /\
  (stepG P (i == 0) g w2).goes fun g' w' es => (w' = w2 /\ ∀ e ∈ es, False) /\ LV P ty top Post i γ3 w2 g') : LV P ty top Post i γ w g :=
 lives_step hr ht fun γ2 w2 hrl hI hi => by
  obtain ⟨γ3, hDo, hgo⟩ := h γ2 w2 hrl hI hi
  obtain ⟨g', w', es, hst, ⟨e1, e2⟩, hL⟩ := goes_inv hgo
  subst e1
  obtain rfl := array_nil e2
  exact .go g' _ #[] γ3 hst (hDo _) hL
theorem kw_taken (hI : GInv wgLink.tWg top γ w) (hc : γ.col = some c) (ht : γ.tag i = .give x) : Kw i γ (γ.taken i x) := by
 refine ⟨Nat.le_refl _, fun b ⟨h1, m, h2, h3⟩ => ⟨h1, m, h2, ?_⟩, fun _ h => h.1, rfl, fun _ _ => Nat.le_refl _⟩
 show (if γ.gb i = some b then BK.priv 0 else γ.bk b) = .fix m
 rw [if_neg fun e => ?_]
 ·exact h3
 ·obtain ⟨ob, _, hm⟩ := ((hI.coll c hc).give i x ht).good
  rw [e] at hm
  obtain ⟨_, q, _⟩ := hm
  rw [h3] at q
  cases q
theorem built_res (x : Int) (a : Option Addr) (n c : Nat) : Program.built Tryz.prog 62 [(0, .int .i64 x), (1, .slice a n c)] = some #[.int .i64 x, .slice a n c] := by kernel_rfl
set_option maxRecDepth 100000 in
set_option maxHeartbeats 8000000 in
theorem parts_job {h : CutMath.Sh} {rows : List (List (BitVec 8))} (hG : h.Good) (hS : Snap i p γ Hw) (hIn : PartsIn p h Hw SB LB DB dn rows) (hc : γ.col = some c) (hdn : c.dn = dn) (hgood : ∀ x v ob, PartGood h rows x v ob -> c.good x v ob) (hbi : p.b <= i) (hi0 : i ≠ 0) (hgl : Tryz.prog.globals.size <= γ.hs) :
  Job p top Post i γ w 23 #[.pointer (some ⟨SB, 0, none⟩), .pointer (some ⟨LB, 0, none⟩), .pointer (some ⟨DB, 0, none⟩)] := by
 intro x γ1 w1 cc cs fn cd hff hfb hkp hp ht hd hxn hI hK
 rw [Tryz.func23] at hff
 obtain rfl := Option.some.inj hff
 obtain rfl : (Tryz.f23.body.getD .skip) = cd := by rw [hfb]; rfl
 clear hff hfb
 subst hdn
 obtain ⟨row, hrow⟩ : ∃ row, rows[x]? = some row := ⟨rows[x]'(by rw [<- hIn.n]; exact hxn), by simp⟩
 have hne : rows ≠ [] := fun e => by rw [e] at hrow; simp at hrow
 obtain ⟨lb, lo, lc, hlb, hr⟩ := hIn.rws
 replace hlb := hlb hne
 obtain ⟨hlen, ra, rc, hrw, hrd, hra⟩ := hr x row hrow
 clear hr
 have hc1 : γ1.col = some c := hkp.col.trans hc
 have hg : γ1.tag i ≠ .gone := by rw [ht]; simp
 have hs : ¬ (γ1.tag i).tied := by rw [ht]; exact fun h => h
 simp only [Tryz.f23, Option.getD_some]
 walk_nrm
 refine lives_ctl rfl hg (fun _ => stepG_seq) ?_
 refine lives_ctl rfl hg (fun _ => stepG_region) ?_
 simp only [List.size_toArray, List.length_cons, List.length_nil, Nat.reduceAdd, Nat.zero_add, List.range, List.range.loop]
 refine lives_pure rfl hg (fun wV => ?_)
 refine goes_oper_k rfl rfl (by k_ne) (fun W hW => ?_)
 go_simp
 refine hW _ _ ⟨⟨rfl, no_listed (by simp [go_sem])⟩, ?_⟩
 clear hW
 clear W wV
 try walk_nrm
 refine lives_step rfl hg fun γ2 w2 hrl hI hi => ?_
 have l2 := hrl.live hg
 have hp2 := l2.ph _ ⟨hp, .inl hi0⟩
 have hk2 := hkp.trans l2.kw
 have kp := hS.keeps hI hp2 hk2
 have hs2 : ¬ (γ2.tag i).tied := by rw [hrl.tag]; exact hs
 refine .go _ w2 #[] γ2 stepG_region_end (do_idle hI hi _) ?_
 refine lives_way (way_part (F := γ2.F i) (S := γ2.S i) (h := h) (x := x) (SB := SB) (LB := LB) (DB := DB) (row := row) (vd := .chan (some c.dn)) hG (fun b hb => by rw [<- hI.hs]; exact hb.1) (by rw [<- hI.hs]; exact Nat.le_trans hgl hk2.hs) rfl rfl
  (kp _ _ hIn.c0) (kp _ _ hIn.c1) (kp _ _ hIn.c2) (kp _ _ hIn.c3) (kp _ _ hIn.c4) (kp _ _ hlb) hxn (kp _ _ hrw) (hrd.keeps kp) hlen (hIn.k.keeps kp) (kp _ _ hIn.db)
  (hk2.F (hS _ _ _ (hIn.k 0 (by decide))).1) (hk2.F (hS _ _ _ hIn.c0).1) (hk2.F (hS _ _ _ hlb).1) (hk2.F (hS _ _ _ hIn.db).1) (hk2.F (hS _ _ _ hrw).1) (fun ad e => ?_)) γ2 rfl hI.hs (fun b hb => hb) hs2 fun S' g' w' γ' hx hS' hs' hE => ?_
 ·obtain ⟨o, v, hv⟩ := hra ad e
  exact ⟨hk2.F (hS _ _ _ hv).1, cells_of (kp _ _ hv)⟩
 have hp3 := hx.ph _ ⟨hp2, .inl hi0⟩
 have hk3 := hk2.trans hx.kw
 have hkk := l2.kw.trans hx.kw
 have ht3 : γ'.tag i = .busy x := hx.tag.trans (hrl.tag.trans ht)
 have hd3 : γ'.deaf i = 0 := hx.deaf.trans (hrl.deaf.trans hd)
 have hc3 : γ'.col = some c := hk3.col.trans hc
 obtain ⟨b1, b2, b4, b5, b6, b7, b8, b9, b10, b11, b12, b13, b14, b15, b16, b17, b18, b19, b20, b21, b22, b23, b24, b25, b26, b27, b28, b29, b30, b31, b32, b33, b34, b35, b36, b37, b38, rfl, bl, ob, hpa, hbl⟩ := hE
 clear hg hs hI hrl l2 hp2 hk2 kp hs2 hx hp ht hd hc1 hi
 have hg : γ'.tag i ≠ .gone := by rw [ht3]; simp
 have hs : ¬ (γ'.tag i).tied := by rw [ht3]; exact fun h => h
 have hFix : γ'.F i DB := hk3.F (hS _ _ _ hIn.db).1
 walk_nrm
 refine lives_ctl rfl hg (fun _ => stepG_seq) ?_
 refine lives_ctl rfl hg (fun _ => stepG_region) ?_
 simp only [List.size_toArray, List.length_cons, List.length_nil, Nat.reduceAdd, Nat.zero_add, List.range, List.range.loop]
 refine lives_read rfl hs (fun γV wV hrl hIV => ?_)
 have hcell : wV.cell? ⟨DB, 0, none⟩ = some (.chan (some c.dn)) := (hS.keeps hIV ((hrl.live hg).ph _ ⟨hp3, .inl hi0⟩) (hk3.trans (hrl.live hg).kw)) _ _ hIn.db
 refine goes_oper_k rfl rfl (by k_ne) (fun W hW => ?_)
 go_simp
 refine hW _ _ ⟨⟨rfl, fun e he => ?_⟩, ?_⟩
 ·have hm := mem_listed he
  simp [go_sem, hcell] at hm
  subst hm
  exact .inl ⟨_, rfl, rfl, .inr ⟨(hrl.live hg).kw.F hFix, rfl⟩⟩
 clear hW hcell
 clear W
 clear hrl hIV
 clear γV wV
 try walk_nrm
 refine lives_pure rfl hg (fun wV => ?_)
 refine goes_oper_k rfl rfl (by k_ne) (fun W hW => ?_)
 go_simp
 refine hW _ _ ⟨⟨rfl, no_listed (by simp [go_sem])⟩, ?_⟩
 clear hW
 clear W wV
 try walk_nrm
 refine lives_pure rfl hg (fun wV => ?_)
 refine goes_oper_k rfl rfl (by k_ne) (fun W hW => ?_)
 go_simp
 refine hW _ _ ⟨⟨rfl, no_listed (by simp [go_sem])⟩, ?_⟩
 clear hW
 clear W wV
 try walk_nrm
 obtain ⟨va, vn, vc, rfl⟩ : ∃ a n c, b8 = .slice a n c := by
  rcases hpa with ⟨_, e, _⟩ | ⟨B, cap, cs, e, _⟩
  ·exact ⟨_, _, _, e⟩
  ·exact ⟨_, _, _, e⟩
 have BR := built_res (x : Int) va vn vc
 refine lives_turn rfl hg fun γ4 w4 hrl hI hi => ⟨γ4.toGive i x (.agg #[.int .i64 (x : Int), .slice va vn vc]) bl, fun wk => do_give hI ((hrl.live hg).ph _ ⟨hp3, .inl hi0⟩) ((hrl.live hg).col.trans hc3) hbi hi (hrl.tag.trans ht3) (hrl.deaf.trans hd3) ⟨ob, hgood _ _ _ ⟨row, _, hrow, rfl, hpa⟩, ?_⟩ wk, ?_⟩
 ·cases bl with
  | none => exact hbl
  | some B =>
   obtain ⟨hSB, o, ho, hob⟩ := hbl
   rw [<- hS'] at hSB
   have l4 := hrl.live hg
   refine ⟨Nat.lt_of_lt_of_le hSB.1 l4.hs, (l4.bk B hSB.1 fun j hj e => hj ?_).trans hSB.2, o, (l4.keep B hSB.1 (.inl hSB.2)).trans ho, hob⟩
   rw [hSB.2] at e
   injection e with e
   exact e.symm
 have l4 := hrl.live hg
 have hp4 : (γ4.toGive i x (.agg #[.int .i64 (x : Int), .slice va vn vc]) bl).ph = some p := l4.ph _ ⟨hp3, .inl hi0⟩
 have hk4 : Kw i γ1 (γ4.toGive i x (.agg #[.int .i64 (x : Int), .slice va vn vc]) bl) := hkk.trans (l4.kw.trans ⟨Nat.le_refl _, fun _ h => h, fun _ h => h.1, rfl, fun _ _ => Nat.le_refl _⟩)
 have hc4 : (γ4.toGive i x (.agg #[.int .i64 (x : Int), .slice va vn vc]) bl).col = some c := l4.col.trans hc3
 have ht4 : (γ4.toGive i x (.agg #[.int .i64 (x : Int), .slice va vn vc]) bl).tag i = .give x := upd_same _ _ _
 have hd4 : (γ4.toGive i x (.agg #[.int .i64 (x : Int), .slice va vn vc]) bl).deaf i = 0 := hrl.deaf.trans hd3
 have hv4 : (γ4.toGive i x (.agg #[.int .i64 (x : Int), .slice va vn vc]) bl).gv i = .agg #[.int .i64 (x : Int), .slice va vn vc] := by simp [Gho.toGive]
 generalize γ4.toGive i x (.agg #[.int .i64 (x : Int), .slice va vn vc]) bl = γ5 at hp4 hk4 hc4 ht4 hd4 hv4 ⊢
 clear l4 hI hi hrl hg hs hpa hbl hS' hs' hp3 hk3 hkk ht3 hd3 hc3 hFix
 refine goes_oper_k rfl rfl (by k_ne) (fun W hW => ?_)
 go_simp
 refine hW _ _ ⟨⟨rfl, no_listed (by simp [go_sem])⟩, ?_⟩
 clear hW W
 try walk_nrm
 have hg : γ5.tag i ≠ .gone := by rw [ht4]; simp
 refine lives_comm (cases := #[scase c.dn (.agg #[.int .i64 (x : Int), .slice va vn vc]) (.tuple #[])]) (blocking := true) (shape := .send) rfl rfl (by k_ne) hg (fun _ => by rfl) (fun _ => by rfl) (fun γ6 w6 hrl hI => .give c x (.tuple #[]) ((hrl.live hg).col.trans hc4) hi0 (hrl.tag.trans ht4) rfl (by rw [hrl.gv.1, hv4])) fun γ6 w6 hrl hI kk v ok γ7 w7 hR hI7 => ?_
 have hk6 := hk4.trans (hrl.live hg).kw
 have hc6 := hk6.col.trans (hkp.col.trans hc)
 have ht6 := hrl.tag.trans ht4
 have hp6 := (hrl.live hg).ph _ ⟨hp4, .inl hi0⟩
 have hd6 := hrl.deaf.trans hd4
 obtain ⟨rfl, rfl, rfl, rfl, s, rfl⟩ := give_result hR hI hc6 ht6
 have hk7 := hk6.trans (kw_taken hI hc6 ht6)
 have hp7 : (γ6.taken i x).ph = some p := hp6
 have ht7 : (γ6.taken i x).tag i = .idle := upd_same _ _ _
 have hd7 : (γ6.taken i x).deaf i = 0 := hd6
 generalize γ6.taken i x = γ8, w6.setChan c.dn 0 #[] false s s false = w8 at hk7 hp7 ht7 hd7 ⊢
 clear hg
 have hg : γ8.tag i ≠ .gone := by rw [ht7]; simp
 walk_nrm
 refine lives_ctl rfl hg (fun _ => stepG_region_end) ?_
 refine lives_ctl rfl hg (fun _ => stepG_seq) ?_
 refine lives_ctl rfl hg (fun _ => stepG_region) ?_
 simp only [List.size_toArray, List.length_cons, List.length_nil, Nat.reduceAdd, Nat.zero_add, List.range, List.range.loop]
 refine lives_pure rfl hg (fun wV => ?_)
 refine goes_oper_k rfl rfl (by k_ne) (fun W hW => ?_)
 go_simp
 refine hW _ _ ⟨⟨rfl, no_listed (by simp [go_sem])⟩, ?_⟩
 clear hW
 clear W wV
 try walk_nrm
 refine lives_ctl rfl hg (fun _ => stepG_region_end) ?_
 refine lives_ctl rfl hg (fun _ => stepG_ret') ?_
 refine lives_ctl rfl hg (fun w2 => stepG_leave (v := .bool true) rfl rfl Tryz.func23 (by kernel_rfl) (by kernel_rfl)) ?_
 exact hK γ8 w8 hk7 hp7 ht7 hd7
end
end Go.Proofs.YtbicafgmfgdckaaGreatDoor
