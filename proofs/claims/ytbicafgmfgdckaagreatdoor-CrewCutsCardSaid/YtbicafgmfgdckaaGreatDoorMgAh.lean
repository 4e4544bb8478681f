/- Rows of words of the call's own: append of one, old cells kept. The reference's spread: the schedule. The reference's rounds. The reference's Pad. -/
import Derived.Test.YtbicafgmfgdckaaGreatDoorMgAg
namespace Go.Proofs.YtbicafgmfgdckaaGreatDoor
open Go Go.RowKit

theorem run_append_keep {P : Program} (w : World) (B : Nat) (t ty e : TypeId) (z : Value) (bytes : Nat) (T : Elem P t e z bytes) (g n cap : Nat) (xs : List Value) (hown : w.ownsRow B e 1 (.slice (some ⟨g, 0, none⟩) n cap) n xs)
  (ad : Addr) (c : Nat) (u : Value) (hu : w.cell? ad = some u) (h1 : u.oneCell' = true) (hlen : n + 1 <= 9223372036854775807) (hby : (n + 1) * bytes <= 140737488355328) (hbase : B <= w.heap.size) :
  ∃ v' w', (Builtin.append_ #[t, t] ty #[.slice (some ⟨g, 0, none⟩) n cap, .slice (some ad) 1 c]).run P w = .ok v' w' /\ w'.ownsRow B e 1 v' (n + 1) (xs ++ [u]) /\ w.grownBy w' (some g) /\
   (v'.ownBlock = some g \/ v'.ownBlock = some w.heap.size) /\ ∀ j, j < n -> w'.cell? ⟨g, j, none⟩ = w.cell? ⟨g, j, none⟩ := by
 obtain ⟨i, hi, hz0, hz1, hz2⟩ := info_parts T.info
 have hnews : ∀ j x, [u][j]? = some x -> w.cell? (ad.add j) = some x := fun j x hj => by
  cases j with
  | zero => simp at hj; subst hj; rw [add_zero']; exact hu
  | succ j => simp at hj
 have hone : ∀ x ∈ [u], x.oneCell' = true := fun x hx => by simp at hx; subst hx; exact h1
 by_cases hroom : n + 1 <= cap
 ·obtain ⟨w', hr, ho, hg⟩ := run_append_fits (P := P) w B t ty e i 1 T.slice hi hz1 g n cap xs hown ad 1 c [u] (by simp) hnews hone hroom
  refine ⟨_, w', hr, ho, hg, .inl rfl, fun j hj => ?_⟩
  rw [ho.cellAt j (by omega), hown.cellAt j (by omega), List.getElem?_append_left (by rw [hown.1]; omega)]
 ·obtain ⟨v', w', hr, ho, hg, _, hb⟩ := run_append_own_at (P := P) w B t ty e i z 1 bytes T.slice hi hz0 hz1 hz2 T.one (by decide) _ n xs hown ad 1 c [u] (by simp) hnews hone (by unfold maxLen; omega) hby hbase
  refine ⟨v', w', hr, ho, hg, hb, fun j hj => ?_⟩
  have hcap : cap <= n := by omega
  have hlt : g < w.heap.size := (hown.lt g rfl).2
  have hold : ∀ j x, xs[j]? = some x -> w.cell? ((⟨g, 0, none⟩ : Addr).add j) = some x := hown.cells (g := g) rfl
  have hr2 := run_append_grow (P := P) w t ty e i z T.slice hi hz0 ⟨g, 0, none⟩ n cap xs (by rw [hz1]; exact hown.1) hold ad 1 c [u] (by rw [hz1]; rfl) hnews (by omega) (by omega) (growslice_fits (by omega) (by rw [hz2]; exact hby))
  rw [hr] at hr2
  injection hr2 with _ hw
  rw [hw, World.cell?_of_block (w := w)]
  exact Below.heap_alloc w.drew _ g hlt
theorem wpList_append_keep {P : Program} {w : World} {ops : Array Oper} {rest : List Oper} {o : Oper} {act : Act} {Q : Exit -> Act -> World -> Prop} {t e : TypeId} {z : Value} {bytes : Nat} (T : Elem P t e z bytes)
  (hgd : o.guard = none) (s x : Operand) (ho : o.op = .call { callee := .builtin .append, args := #[s, x], argTypes := #[t, t] })
  (B g n cap : Nat) (xs : List Value) (hs : act.eval s = .slice (some ⟨g, 0, none⟩) n cap) (hown : w.ownsRow B e 1 (.slice (some ⟨g, 0, none⟩) n cap) n xs)
  (ad : Addr) (c : Nat) (u : Value) (hx : act.eval x = .slice (some ad) 1 c) (hu : w.cell? ad = some u) (h1 : u.oneCell' = true)
  (hlen : n + 1 <= 9223372036854775807) (hby : (n + 1) * bytes <= 140737488355328) (hbase : B <= w.heap.size)
  (h : ∀ v' w', w'.ownsRow B e 1 v' (n + 1) (xs ++ [u]) -> w.grownBy w' (some g) -> (v'.ownBlock = some g \/ v'.ownBlock = some w.heap.size) -> (∀ j, j < n -> w'.cell? ⟨g, j, none⟩ = w.cell? ⟨g, j, none⟩) -> wpList P ops Q rest (act.put o.dst v') w') :
  wpList P ops Q (o :: rest) act w := by
 refine wpList_plain hgd fun K hK => ?_
 obtain ⟨v', w', hr, h2, h3, h4, h5⟩ := run_append_keep (P := P) w B t o.type e z bytes T g n cap xs hown ad c u hu h1 hlen hby hbase
 unfold Oper.wp execOp
 simp only [ho, resolve, invoke, builtin, Sem.run_bind, Sem.run_pure, Result.andThen_ok, List.map_toArray, List.map_cons, List.map_nil, hs, hx, hr]
 exact hK _ _ (h v' w' h2 h3 h4 h5)

def OwnsW (w : World) (B : Nat) (v : Value) (f : Words) : Prop := w.ownsRow B 22 1 v f.length (f.map U32)
theorem wordsElem : Elem Tryz.prog 102 22 (.int .u32 0) 4 := ⟨by kernel_rfl, by kernel_rfl, rfl⟩
section
variable {w w' : World} {B : Nat} {v : Value} {f : Words}
theorem ownsW_nil (w : World) (B : Nat) : OwnsW w B (.slice none 0 0) [] := World.ownsRow_nil w B _ 1
theorem OwnsW.below (h : OwnsW w B v f) (hb : Below w.heap.size w w') : OwnsW w' B v f := Touch.row (F := fun _ => False) (.of_below hb) h fun _ _ e => e
theorem OwnsW.touch {F : Nat -> Prop} (h : OwnsW w B v f) (t : Touch F w w') (hn : ∀ k, v.ownBlock = some k -> ¬ F k) : OwnsW w' B v f := t.row h hn
theorem OwnsW.form (h : OwnsW w B v f) (hf : f ≠ []) : ∃ g cap, v = .slice (some ⟨g, 0, none⟩) f.length cap /\ f.length <= cap /\ cap <= 9223372036854775807 /\ B <= g /\ g < w.heap.size /\ ∀ j, j < f.length -> w.cell? ⟨g, j, none⟩ = some (U32 (wordAt f j)) := by
 have hl : f.length ≠ 0 := fun e => hf (List.eq_nil_of_length_eq_zero e)
 rcases h.2 with ⟨_, h0⟩ | ⟨g, cap, cur, rfl, hb, hh, hn, hc, _⟩
 ·exact (hl h0).elim
 ·refine ⟨g, cap, rfl, hn, by unfold maxLen at hc; omega, hb, heap_lt hh, fun j hj => ?_⟩
  rw [World.ownsRow.cellAt h j (by omega), List.getElem?_map, List.getElem?_eq_getElem hj]
  simp [wordAt, List.getD_eq_getElem?_getD, List.getElem?_eq_getElem hj]
theorem OwnsW.anyForm (h : OwnsW w B v f) : ∃ a cap, v = .slice a f.length cap := by
 rcases h.2 with ⟨rfl, h0⟩ | ⟨g, cap, cur, rfl, _⟩
 ·exact ⟨none, 0, by rw [h0]⟩
 ·exact ⟨_, _, rfl⟩
end
end Go.Proofs.YtbicafgmfgdckaaGreatDoor
namespace Go.Proofs.YtbicafgmfgdckaaGreatDoor
open Go Go.RowKit

theorem turned_quiet (x : BitVec 32) (N : Int) (h1 : 1 <= N) (h2 : N <= 31) (w : World) (j : Nat) : Calls Tryz.prog 84 #[U32 x, .int .u64 N] (w.drewN j) fun e w'' => e = .returned (U32 (Sha.rotr x N.toNat)) /\ ∃ m, w'' = w.drewN m := by
 obtain ⟨n, rfl⟩ : ∃ n : Nat, N = n := ⟨N.toNat, by omega⟩
 exact (turned_any x n (by omega) (by omega) _).mono fun _ _ ⟨he, hw⟩ => ⟨he, j, hw.symm⟩
theorem div8 (x : BitVec 32) : x / 8#32 = x >>> 3 := by
 apply BitVec.eq_of_toNat_eq
 simp [BitVec.toNat_udiv, BitVec.toNat_ushiftRight, Nat.shiftRight_eq_div_pow]
theorem div1024 (x : BitVec 32) : x / 1024#32 = x >>> 10 := by
 apply BitVec.eq_of_toNat_eq
 simp [BitVec.toNat_udiv, BitVec.toNat_ushiftRight, Nat.shiftRight_eq_div_pow]
theorem take_word (S : Words) (k : Nat) (h : k < S.length) : S.take (k + 1) = S.take k ++ [wordAt S k] := by
 rw [List.take_succ_eq_append_getElem h]; simp [wordAt, List.getD_eq_getElem?_getD, List.getElem?_eq_getElem h]
theorem wordAt_take (S : Words) (k j : Nat) (h : j < k) : wordAt (S.take k) j = wordAt S j := by simp [wordAt, List.getD_eq_getElem?_getD, h]
theorem cell_new (w : World) (u : Value) (t : TypeId) : (w.alloc (.cells #[u] t)).cell? ⟨w.heap.size, 0, none⟩ = some u := by
 unfold World.cell?; rw [heap_alloc_new]; rfl
theorem OwnsW.at_ {w : World} {B : Nat} {a : Option Addr} {c k : Nat} {f : Words} (h : OwnsW w B (.slice a f.length c) f) (hk : f.length = k) : w.ownsRow B 22 1 (.slice a k c) k (f.map U32) := by subst hk; exact h
theorem OwnsW.snoc {w : World} {B k : Nat} {v : Value} {f : Words} {x : BitVec 32} (h : w.ownsRow B 22 1 v (k + 1) (f.map U32 ++ [U32 x])) (hk : f.length = k) : OwnsW w B v (f ++ [x]) := by
 subst hk
 unfold OwnsW
 rw [List.length_append, List.map_append]; exact h
def SpreadRel (S : Words) (B : Nat) (w : World) (s i : Value) (wr : World) : Prop :=
 ∃ k : Nat, k <= 64 /\ OwnsW wr B s (S.take k) /\ i = .int .i64 k /\ Below B w wr
def TwoCells (g m n : Nat) (x y : BitVec 32) (w : World) : Prop := w.cell? ⟨g, m, none⟩ = some (U32 x) /\ w.cell? ⟨g, n, none⟩ = some (U32 y)
theorem below_appendW {B : Nat} {w w2 w3 : World} {o : Obj} {v : Value} {f : Words} (hb : Below B w w2) (hB : B <= w.heap.size) (ho : OwnsW (w2.alloc o) B v f) (hg : (w2.alloc o).grownBy w3 v.ownBlock) : Below B w w3 := by
 have h1 := hb.size
 have h2 : B <= (w2.alloc o).heap.size := by simp; omega
 exact (hb.alloc (by omega) o).trans ((Touch.of_grown (F := fun k => v.ownBlock = some k) hg fun k hk => hk).below (fun k hk => (row_lt ho hk).1) h2)
set_option maxRecDepth 40000 in
set_option maxHeartbeats 1000000 in
theorem spread_any (b off cap : Nat) (l : List (BitVec 8)) (w : World) (hl : l.length = 64) (hcap : 64 <= cap) (hcm : cap <= 9223372036854775807) (hb : BytesAt w b off l) :
  Calls Tryz.prog 49 #[.slice (some ⟨b, off, none⟩) 64 cap] w fun e w' => ∃ v, e = .returned v /\ OwnsW w' w.heap.size v (Sha.sched l) /\ Below w.heap.size w w' := by
 have hSl := Sha.length_sched l
 have hlow := Lib.hid (Sha.sched_low l)
 have hhigh := Lib.hid (Sha.sched_high l)
 generalize Sha.sched l = S at *
 obtain ⟨B, hB⟩ : ∃ B, w.heap.size = B := ⟨_, rfl⟩
 rw [hB]
 go_enter Tryz.func49, Tryz.ntmps49
 go_wp2
 go_loopw [3, 4] (fun s i wr => SpreadRel S B w s i wr) (fun _ i _ => 64 - (intOf i).toNat)
 case atStart => exact ⟨0, by omega, ownsW_nil _ _, rfl, hB ▸ Below.refl _ _⟩
 case round =>
  obtain ⟨k, hk, ho, rfl, hbw⟩ := hrel
  by_cases hlt : k < 64
  ·have htk := take_word S k (by omega)
   have hfl : (S.take k).length = k := by rw [List.length_take]; omega
   have hwt := fun j (h : j < k) => wordAt_take S k j h
   by_cases h16 : k < 16
   ·have hs := fun w => run_slice_both (P := Tryz.prog) byteSlice w (some ⟨b, off, none⟩) 64 cap .i64 .i64 (4 * k) (4 * k + 4) (4 * (k : Int)) (4 * (k : Int) + 4) (by omega) (by omega) (by omega) (by omega)
    have hda : dropAddr (some ⟨b, off, none⟩) cap (4 * k) = some ⟨b, off + 4 * k, none⟩ := by
     unfold dropAddr
     rw [if_neg (by omega), Option.map_some, Addr.add_lit]
    rw [hda, show 4 * k + 4 - 4 * k = 4 by omega] at hs
    have hm4 : ((l.drop (4 * k)).take 4).length = 4 := by rw [List.length_take, List.length_drop]; omega
    have hbm : BytesAt wr b (off + 4 * k) ((l.drop (4 * k)).take 4) := ((hb.mono (Keeps.below (hB ▸ hbw) ⟨b, ·, none⟩)).drop (4 * k)).take 4
    have hrm : Reads wr (some ⟨b, off + 4 * k, none⟩) (cap - 4 * k) ((l.drop (4 * k)).take 4) := ⟨by omega, by omega, (by intro e; cases e), .inr ⟨_, _, rfl, hbm⟩⟩
    have hbig := big4 _ hm4
    have hbyte : ∀ j, j < 4 -> byteAt ((l.drop (4 * k)).take 4) j = byteAt l (4 * k + j) := fun j hj => by rw [byteAt_take hj, byteAt_drop]
    rw [hbyte 0 (by omega), hbyte 1 (by omega), hbyte 2 (by omega), hbyte 3 (by omega)] at hbig
    have hbig2 : (bigOf ((l.drop (4 * k)).take 4)).setWidth 32 = wordAt S k := hbig.trans (hlow.out k h16).symm
    generalize (l.drop (4 * k)).take 4 = m at *
    have BK := rback_any (some ⟨b, off + 4 * k, none⟩) (cap - 4 * k) m wr hrm (by omega)
    rw [hm4] at BK
    have HBIG := Lib.hid hbig2
    have HTK := Lib.hid htk
    have HHB := Lib.hid hb
    have HRM4 := Lib.hid hm4
    clear hbig hbig2 hbyte hda htk hb hm4 hrm hbm
    generalize S.take k = f at *
    have hbs := hbw.size
    go_wp2_with fail
    refine BK.mono ?_
    rintro e w2 ⟨v2, rfl, ho2, hb2⟩
    obtain ⟨mr, hmr⟩ : ∃ q, m.reverse = q := ⟨_, rfl⟩
    have hml : mr.length = 4 := by rw [<- hmr, List.length_reverse]; exact HRM4.out
    have hbig : (bigOf mr.reverse).setWidth 32 = wordAt S k := by rw [<- hmr, List.reverse_reverse]; exact HBIG.out
    rw [hmr] at ho2
    clear hmr
    obtain ⟨a2, c2, rfl, hr2⟩ := ho2.reads
    obtain ⟨b2, off2, rfl, hby2⟩ := hr2.bytes.resolve_left (fun e => by rw [e] at hml; simp at hml)
    have GT := rget_any b2 off2 c2 mr w2 (by omega) (by omega) hby2
    generalize bigOf mr.reverse = x at *
    have HB2 := Lib.hid hbig
    have HML := Lib.hid hml
    clear hbig hml
    clear BK hs
    go_wp2_with fail
    refine GT.mono ?_
    rintro e w3 ⟨rfl, rfl⟩
    have ho3 := OwnsW.below ho hb2
    have hcell : (w2.alloc (.cells #[U32 (x.setWidth 32)] 22)).cell? ⟨w2.heap.size, 0, none⟩ = some (U32 (x.setWidth 32)) := cell_new w2 _ _
    have ho3' := OwnsW.below ho3 (w' := w2.alloc (.cells #[U32 (x.setWidth 32)] 22)) ((Below.refl _ _).alloc (Nat.le_refl _) _)
    have hs2 := hb2.size
    have hz' : B <= (w2.alloc (.cells #[U32 (x.setWidth 32)] 22)).heap.size := by simp; omega
    obtain ⟨a0, c0, rfl⟩ := ho.anyForm
    have ho4 := ho3'.at_ hfl
    have HO3 := Lib.hid ho3'
    have hbb := (hbw.trans (hb2.mono (hB ▸ hbs)))
    clear ho GT ho3 ho3'
    go_wp2_with (at_builtin; refine wpList_append_elem wordsElem rfl _ _ rfl B (.slice a0 k c0) k (f.map U32) rfl ho4 ⟨w2.heap.size, 0, none⟩ 1 (U32 (x.setWidth 32)) rfl hcell rfl (by omega) (by omega) hz' ?_; intro v5 w5 ho5 hg5 _)
    go_roundw
    case rel =>
     refine ⟨k + 1, by omega, ?_, by go_num, below_appendW hbb (by omega) HO3.out (by rw [hfl]; exact hg5)⟩
     rw [HTK.out, <- HB2.out]
     exact OwnsW.snoc ho5 hfl
    case measure => simp [intOf]; omega
   ·obtain ⟨n15, e15⟩ : ∃ n : Nat, (k : Int) - 15 = n := ⟨k - 15, by omega⟩
    obtain ⟨n2, e2⟩ : ∃ n : Nat, (k : Int) - 2 = n := ⟨k - 2, by omega⟩
    obtain ⟨n16, e16⟩ : ∃ n : Nat, (k : Int) - 16 = n := ⟨k - 16, by omega⟩
    obtain ⟨n7, e7⟩ : ∃ n : Nat, (k : Int) - 7 = n := ⟨k - 7, by omega⟩
    have l15 : n15 < k := by omega
    have l2 : n2 < k := by omega
    have l16 : n16 < k := by omega
    have l7 : n7 < k := by omega
    have hnext := hhigh.out k (by omega) hlt
    have hnext2 : wordAt S k = wordAt S n16 + Sha.small0 (wordAt S n15) + wordAt S n7 + Sha.small1 (wordAt S n2) := by
     rw [show n16 = k - 16 by omega, show n15 = k - 15 by omega, show n7 = k - 7 by omega, show n2 = k - 2 by omega]; exact hnext
    rw [<- hwt n16 l16, <- hwt n15 l15, <- hwt n7 l7, <- hwt n2 l2] at hnext2
    generalize S.take k = f at *
    obtain ⟨g, c0, rfl, hc1, hc2, hBg, hgl, hcell⟩ := OwnsW.form ho (fun e => by rw [e] at hfl; simp at hfl; omega)
    have c15 := hcell n15 (by omega)
    have c2 := hcell n2 (by omega)
    have c16 := hcell n16 (by omega)
    have c7 := hcell n7 (by omega)
    have HN := Lib.hid hnext2
    have HTK := Lib.hid htk
    have HBW := Lib.hid hbw
    have HHB := Lib.hid hb
    have ho4 := ho.at_ hfl
    have HO := Lib.hid ho4
    have HFL := Lib.hid hfl
    rw [hfl]
    clear hnext hnext2 htk hwt hbw hb hcell ho ho4 hfl
    generalize wordAt f n15 = x15 at *
    generalize wordAt f n2 = x2 at *
    generalize wordAt f n16 = x16 at *
    generalize wordAt f n7 = x7 at *
    have d8 := div8 x15
    have d1024 := div1024 x2
    go_wp2
    go_quiet (exact turned_quiet _ _ (by decide) (by decide) _ _)
    have f2 : (wr.drewN nq).cell? ⟨g, n2, none⟩ = some (U32 x2) := c2
    have f16 : (wr.drewN nq).cell? ⟨g, n16, none⟩ = some (U32 x16) := c16
    have f7 : (wr.drewN nq).cell? ⟨g, n7, none⟩ = some (U32 x7) := c7
    have HO1 : Hid ((wr.drewN nq).ownsRow B 22 1 (.slice (some ⟨g, 0, none⟩) k c0) k (f.map U32)) := Lib.hid HO.out
    have HB1 : Hid (Below B w (wr.drewN nq)) := Lib.hid (below_drewN HBW.out nq)
    clear c15 c2 c16 c7 HO HBW hgl
    generalize wr.drewN nq = w6 at *
    go_wp2
    go_quiet (exact turned_quiet _ _ (by decide) (by decide) _ _)
    have g16 : (w6.drewN nq).cell? ⟨g, n16, none⟩ = some (U32 x16) := f16
    have g7 : (w6.drewN nq).cell? ⟨g, n7, none⟩ = some (U32 x7) := f7
    have HO2 : Hid ((w6.drewN nq).ownsRow B 22 1 (.slice (some ⟨g, 0, none⟩) k c0) k (f.map U32)) := Lib.hid HO1.out
    have HB2 : Hid (Below B w (w6.drewN nq)) := Lib.hid (below_drewN HB1.out nq)
    clear f2 f16 f7 HO1 HB1
    generalize w6.drewN nq = w7 at *
    generalize hp : Sha.rotr x15 7 ^^^ Sha.rotr x15 18 ^^^ x15 >>> 3 = p at *
    generalize hq : Sha.rotr x2 17 ^^^ Sha.rotr x2 19 ^^^ x2 >>> 10 = q at *
    have HP := Lib.hid hp
    have HQ := Lib.hid hq
    clear hp hq d8 d1024
    go_wp2_with fail
    have C16 : ∀ x : Of (TwoCells g n16 n7 x16 x7), x.to.cell? ⟨g, n16, none⟩ = some (U32 x16) := fun x => x.ok.1
    have C7 : ∀ x : Of (TwoCells g n16 n7 x16 x7), x.to.cell? ⟨g, n7, none⟩ = some (U32 x7) := fun x => x.ok.2
    have tw : TwoCells g n16 n7 x16 x7 w7 := ⟨g16, g7⟩
    haveI : Nonempty (Of (TwoCells g n16 n7 x16 x7)) := of_ne tw
    refine wp_region_plan [([0, 1, 2, 3, 4, 5, 6, 7, 8, 9, 10, 11, 12, 13, 14, 15], some 16), ([], some 17), ([18], none)] (fun w' => ∃ x : Of (TwoCells g n16 n7 x16 x7), w' = x.to) (by kernel_rfl) (by kernel_rfl) (fun _ _ d _ _ h => by cases d <;> exact h) (of_mk (w := w7.drew) (S := TwoCells g n16 n7 x16 x7) tw) ?_
    refine plan_some (show wpQuiet _ _ _ _ (_ :: _ :: _ :: _ :: _ :: _ :: _ :: _ :: _ :: _ :: _ :: _ :: _ :: _ :: _ :: _ :: []) _ from ?_)
    repeat (go_big_quiet_step (fail))
    refine wpQuiet_nil (show wpList _ _ _ (_ :: []) _ _ from ?_)
    have tw2 : TwoCells g n16 n7 x16 x7 w7.drew := tw
    have HO3 : Hid (w7.drew.ownsRow B 22 1 (.slice (some ⟨g, 0, none⟩) k c0) k (f.map U32)) := Lib.hid HO2.out
    have HB3 : Hid (Below B w w7.drew) := Lib.hid (HB2.out.drew)
    clear C16 C7 g16 g7 tw HO2 HB2
    generalize w7.drew = w8 at *
    go_wp2_with fail
    have hx : x16 + p + x7 + q = wordAt S k := by rw [<- HP.out, <- HQ.out]; exact HN.out.symm
    rw [hx]
    generalize wordAt S k = x at *
    have hs8 := HB3.out.size
    have tw3 : TwoCells g n16 n7 x16 x7 (w8.alloc (.cells #[U32 x] 22)) := ⟨Keeps.alloc w8 _ _ _ tw2.1, Keeps.alloc w8 _ _ _ tw2.2⟩
    have hcell : (w8.alloc (.cells #[U32 x] 22)).cell? ⟨w8.heap.size, 0, none⟩ = some (U32 x) := cell_new w8 _ _
    have ho9 : (w8.alloc (.cells #[U32 x] 22)).ownsRow B 22 1 (.slice (some ⟨g, 0, none⟩) k c0) k (f.map U32) := Touch.row (F := fun _ => False) ((Touch.refl _ _).alloc _) HO3.out fun _ _ e => e
    have hz' : B <= (w8.alloc (.cells #[U32 x] 22)).heap.size := by simp; omega
    have hb9 : Below B w (w8.alloc (.cells #[U32 x] 22)) := HB3.out.alloc (by omega) _
    refine late_normal (fun _ h => h) (of_mk tw3) ?_
    generalize w8.alloc (.cells #[U32 x] 22) = w9 at *
    refine plan_some (show wpQuiet _ _ _ _ [] _ from ?_)
    refine wpQuiet_nil (show wpList _ _ _ (_ :: []) _ _ from ?_)
    refine wpList_append_keep wordsElem rfl _ _ rfl B g k c0 (f.map U32) rfl ho9 ⟨w8.heap.size, 0, none⟩ 1 (U32 x) rfl hcell rfl (by omega) (by omega) hz' ?_
    intro v10 w10 ho10 hg10 hb10 hkeep
    have tw4 : TwoCells g n16 n7 x16 x7 w10 := ⟨by rw [hkeep n16 l16]; exact tw3.1, by rw [hkeep n7 l7]; exact tw3.2⟩
    have hbf : Below B w w10 := hb9.trans ((Touch.of_grown (F := fun q => q = g) hg10 fun q hq => (Option.some.inj hq).symm).below (fun q e => by have e2 : q = g := e; omega) hz')
    have HOF := Lib.hid ho10
    have HBF := Lib.hid hbf
    clear ho9 hcell tw3 hb9 hkeep hg10 hb10 ho10 hbf tw2
    go_wp2_with fail
    refine late_normal (fun _ h => h) (of_mk tw4) ?_
    refine plan_none (show wpQuiet _ _ _ _ (_ :: []) _ from ?_)
    repeat (go_big_quiet_step (fail))
    refine wpQuiet_nil ?_
    refine plan_nil ?_
    go_wp2
    go_roundw
    case rel =>
     refine ⟨k + 1, by omega, ?_, by go_num, HBF.out⟩
     rw [HTK.out]
     exact OwnsW.snoc HOF.out HFL.out
    case measure => simp [intOf]; omega
  ·obtain rfl : k = 64 := by omega
   rw [show (((64 : Nat) : Int)) = 64 from rfl]
   rw [List.take_of_length_le (by omega)] at ho
   clear hb
   go_wp2
   go_ret
   exact ⟨_, rfl, ho, hbw⟩
end Go.Proofs.YtbicafgmfgdckaaGreatDoor
namespace Go.Proofs.YtbicafgmfgdckaaGreatDoor
open Go Go.RowKit

theorem built_k : Program.built Tryz.prog 138 [(0, .int .u32 1116352408), (1, .int .u32 1899447441), (2, .int .u32 3049323471), (3, .int .u32 3921009573), (4, .int .u32 961987163), (5, .int .u32 1508970993), (6, .int .u32 2453635748), (7, .int .u32 2870763221), (8, .int .u32 3624381080), (9, .int .u32 310598401), (10, .int .u32 607225278), (11, .int .u32 1426881987), (12, .int .u32 1925078388), (13, .int .u32 2162078206), (14, .int .u32 2614888103), (15, .int .u32 3248222580), (16, .int .u32 3835390401), (17, .int .u32 4022224774), (18, .int .u32 264347078), (19, .int .u32 604807628), (20, .int .u32 770255983), (21, .int .u32 1249150122), (22, .int .u32 1555081692), (23, .int .u32 1996064986), (24, .int .u32 2554220882), (25, .int .u32 2821834349), (26, .int .u32 2952996808), (27, .int .u32 3210313671), (28, .int .u32 3336571891), (29, .int .u32 3584528711), (30, .int .u32 113926993), (31, .int .u32 338241895), (32, .int .u32 666307205), (33, .int .u32 773529912), (34, .int .u32 1294757372), (35, .int .u32 1396182291), (36, .int .u32 1695183700), (37, .int .u32 1986661051), (38, .int .u32 2177026350), (39, .int .u32 2456956037), (40, .int .u32 2730485921), (41, .int .u32 2820302411), (42, .int .u32 3259730800), (43, .int .u32 3345764771), (44, .int .u32 3516065817), (45, .int .u32 3600352804), (46, .int .u32 4094571909), (47, .int .u32 275423344), (48, .int .u32 430227734), (49, .int .u32 506948616), (50, .int .u32 659060556), (51, .int .u32 883997877), (52, .int .u32 958139571), (53, .int .u32 1322822218), (54, .int .u32 1537002063), (55, .int .u32 1747873779), (56, .int .u32 1955562222), (57, .int .u32 2024104815), (58, .int .u32 2227730452), (59, .int .u32 2361852424), (60, .int .u32 2428436474), (61, .int .u32 2756734187), (62, .int .u32 3204031479), (63, .int .u32 3329325298)] = some (arr Sha.K) := by
 kernel_rfl
def RoundsRel (st : Sha.St) (S : Words) (w : World) (a b c d e f g h i : Value) (wr : World) : Prop :=
 ∃ (k n : Nat) (v : Sha.St), k <= 64 /\ v = Sha.rounds st S k /\ a = U32 v.a /\ b = U32 v.b /\ c = U32 v.c /\ d = U32 v.d /\ e = U32 v.e /\ f = U32 v.f /\ g = U32 v.g /\ h = U32 v.h /\ i = .int .i64 k /\ wr = w.drewN n
theorem round_step (v : Sha.St) (xk xs t o : BitVec 32) (ht : v.h + (Sha.rotr v.e 6 ^^^ Sha.rotr v.e 11 ^^^ Sha.rotr v.e 25) + (v.e &&& v.f ||| (v.e ^^^ 4294967295#32) &&& v.g) + xk + xs = t)
  (ho : t + (Sha.rotr v.a 2 ^^^ Sha.rotr v.a 13 ^^^ Sha.rotr v.a 22) + (v.a &&& v.b ||| v.a &&& v.c ||| v.b &&& v.c) = o) : Sha.step v xk xs = ⟨o, v.a, v.b, v.c, v.d + t, v.e, v.f, v.g⟩ := by
 have h1 := Sha.ch_or v.e v.f v.g
 have h2 := Sha.maj_or v.a v.b v.c
 rw [h2] at ho
 rw [show (4294967295#32) = 0xffffffff#32 from rfl, h1] at ht
 subst ht ho
 simp only [Sha.step, Sha.big1, Sha.big0, BitVec.add_assoc]
set_option maxRecDepth 40000 in
set_option maxHeartbeats 2000000 in
theorem rounds_any (st : Sha.St) (S : Words) (gs cs gw cw : Nat) (w : World) (hS : S.length = 64) (hcs : ∀ j, j < 8 -> w.cell? ⟨gs, j, none⟩ = some (U32 (wordAt st.list j))) (hcw : ∀ j, j < 64 -> w.cell? ⟨gw, j, none⟩ = some (U32 (wordAt S j))) :
  Calls Tryz.prog 48 #[.slice (some ⟨gs, 0, none⟩) 8 cs, .slice (some ⟨gw, 0, none⟩) 64 cw] w fun e w' => ∃ v, e = .returned v /\ OwnsW w' w.heap.size v (st.plus (Sha.rounds st S 64)).list /\ Below w.heap.size w w' := by
 obtain ⟨z, hz, hzl⟩ := zero_words
 have hbu := built_k
 obtain ⟨KK, hKK⟩ : ∃ L : Words, L = Sha.K := ⟨_, rfl⟩
 rw [<- hKK] at hbu
 have hKl : KK.length = 64 := by rw [hKK]; rfl
 have HKK := Lib.hid hKK
 clear hKK
 have hiv : (Tryz.prog.info? 138).map (·.size) = some (arr KK).size := by rw [arr_size, hKl]; kernel_rfl
 have hsz : (arr z).size = (arr KK).size := by rw [arr_size, arr_size, hKl, hzl]
 have hov := arr_one KK
 go_enter Tryz.func48, Tryz.ntmps48
 go_wp2_with (with_reducible refine stop_build ?roundEnd)
 refine wpList_built rfl 138 _ rfl (arr KK) ?hb0 ?nx1
 case hb0 => go_simp
 clear hbu
 have h3 : (w.alloc (.cells (arr z) 138)).heap[w.heap.size]? = some (.cells (arr z) 138 (0, 0)) := ArrAt.new w 138 z
 have a4 : ArrAt ((w.alloc (.cells (arr z) 138)).setRow w.heap.size (arr KK)) w.heap.size 138 KK := (ArrAt.new w 138 z).row KK
 have t4 : Touch (fun q => q = w.heap.size) w ((w.alloc (.cells (arr z) 138)).setRow w.heap.size (arr KK)) := ((Touch.refl _ _).alloc _).trans (Touch.setRow _ _ _ rfl)
 have hb4 := t4.below (B := w.heap.size) (fun q e => by have e2 : q = w.heap.size := e; omega) (Nat.le_refl _)
 have hcs4 : ∀ j, j < 8 -> ((w.alloc (.cells (arr z) 138)).setRow w.heap.size (arr KK)).cell? ⟨gs, j, none⟩ = some (U32 (wordAt st.list j)) := fun j hj => Keeps.below hb4 _ _ (hcs j hj)
 have hcw4 : ∀ j, j < 64 -> ((w.alloc (.cells (arr z) 138)).setRow w.heap.size (arr KK)).cell? ⟨gw, j, none⟩ = some (U32 (wordAt S j)) := fun j hj => Keeps.below hb4 _ _ (hcw j hj)
 clear hcs hcw
 go_wp2_with (first | (refine wpList_store_row rfl 138 _ _ rfl w.heap.size (arr KK) rfl rfl _ (arr z) h3 hiv hsz hov ?_) | fail)
 generalize (w.alloc (.cells (arr z) 138)).setRow w.heap.size (arr KK) = w5 at *
 have e0 : w5.cell? ⟨gs, 0, none⟩ = some (U32 st.a) := hcs4 0 (by decide)
 have e1 : w5.cell? ⟨gs, 1, none⟩ = some (U32 st.b) := hcs4 1 (by decide)
 have e2 : w5.cell? ⟨gs, 2, none⟩ = some (U32 st.c) := hcs4 2 (by decide)
 have e3 : w5.cell? ⟨gs, 3, none⟩ = some (U32 st.d) := hcs4 3 (by decide)
 have e4 : w5.cell? ⟨gs, 4, none⟩ = some (U32 st.e) := hcs4 4 (by decide)
 have e5 : w5.cell? ⟨gs, 5, none⟩ = some (U32 st.f) := hcs4 5 (by decide)
 have e6 : w5.cell? ⟨gs, 6, none⟩ = some (U32 st.g) := hcs4 6 (by decide)
 have e7 : w5.cell? ⟨gs, 7, none⟩ = some (U32 st.h) := hcs4 7 (by decide)
 go_quiet (fail)
 have f0 : (w5.drewN nq).cell? ⟨gs, 0, none⟩ = some (U32 st.a) := e0
 have f1 : (w5.drewN nq).cell? ⟨gs, 1, none⟩ = some (U32 st.b) := e1
 have f2 : (w5.drewN nq).cell? ⟨gs, 2, none⟩ = some (U32 st.c) := e2
 have f3 : (w5.drewN nq).cell? ⟨gs, 3, none⟩ = some (U32 st.d) := e3
 have f4 : (w5.drewN nq).cell? ⟨gs, 4, none⟩ = some (U32 st.e) := e4
 have f5 : (w5.drewN nq).cell? ⟨gs, 5, none⟩ = some (U32 st.f) := e5
 have f6 : (w5.drewN nq).cell? ⟨gs, 6, none⟩ = some (U32 st.g) := e6
 have f7 : (w5.drewN nq).cell? ⟨gs, 7, none⟩ = some (U32 st.h) := e7
 have HA : Hid (ArrAt (w5.drewN nq) w.heap.size 138 KK) := Lib.hid a4
 have HB : Hid (Below w.heap.size w (w5.drewN nq)) := Lib.hid (below_drewN hb4 nq)
 have HW : Hid (∀ j, j < 64 -> (w5.drewN nq).cell? ⟨gw, j, none⟩ = some (U32 (wordAt S j))) := Lib.hid hcw4
 clear e0 e1 e2 e3 e4 e5 e6 e7 a4 hb4 hcw4 hcs4 h3 hiv hsz hov t4 hz
 generalize w5.drewN nq = w6 at *
 go_wp2
 go_quiet (fail)
 have e0 : (w6.drewN nq).cell? ⟨gs, 0, none⟩ = some (U32 st.a) := f0
 have e1 : (w6.drewN nq).cell? ⟨gs, 1, none⟩ = some (U32 st.b) := f1
 have e2 : (w6.drewN nq).cell? ⟨gs, 2, none⟩ = some (U32 st.c) := f2
 have e3 : (w6.drewN nq).cell? ⟨gs, 3, none⟩ = some (U32 st.d) := f3
 have e4 : (w6.drewN nq).cell? ⟨gs, 4, none⟩ = some (U32 st.e) := f4
 have e5 : (w6.drewN nq).cell? ⟨gs, 5, none⟩ = some (U32 st.f) := f5
 have e6 : (w6.drewN nq).cell? ⟨gs, 6, none⟩ = some (U32 st.g) := f6
 have e7 : (w6.drewN nq).cell? ⟨gs, 7, none⟩ = some (U32 st.h) := f7
 have HA2 : Hid (ArrAt (w6.drewN nq) w.heap.size 138 KK) := Lib.hid HA.out
 have HB2 : Hid (Below w.heap.size w (w6.drewN nq)) := Lib.hid (below_drewN HB.out nq)
 have HW2 : Hid (∀ j, j < 64 -> (w6.drewN nq).cell? ⟨gw, j, none⟩ = some (U32 (wordAt S j))) := Lib.hid HW.out
 clear f0 f1 f2 f3 f4 f5 f6 f7 HA HB HW
 generalize w6.drewN nq = w7 at *
 go_wp2
 go_loopw [6, 7, 8, 9, 10, 11, 12, 13, 14] (fun a b c d e f g h i wr => RoundsRel st S w7 a b c d e f g h i wr) (fun _ _ _ _ _ _ _ _ i _ => 64 - (intOf i).toNat)
 case atStart => exact ⟨0, 0, st, by omega, rfl, rfl, rfl, rfl, rfl, rfl, rfl, rfl, rfl, rfl, rfl⟩
 case round =>
  obtain ⟨k, n, v, hk, hv, rfl, rfl, rfl, rfl, rfl, rfl, rfl, rfl, rfl, hw⟩ := hrel
  have HWR := Lib.hid hw
  by_cases hlt : k < 64
  ·have ek : wr.cell? ⟨w.heap.size, k, none⟩ = some (U32 (wordAt KK k)) := by
    rw [hw]; exact HA2.out.cell (by rw [hKl]; exact hlt)
   have es : wr.cell? ⟨gw, k, none⟩ = some (U32 (wordAt S k)) := by rw [hw]; exact HW2.out k hlt
   have hn : Sha.rounds st S (k + 1) = Sha.step v (wordAt KK k) (wordAt S k) := by rw [hv, HKK.out]; rfl
   have HN := Lib.hid hn
   clear hn hv hw e0 e1 e2 e3 e4 e5 e6 e7
   generalize wordAt KK k = xk at *
   generalize wordAt S k = xs at *
   have T6 : ∀ u, Calls Tryz.prog 84 #[U32 v.e, .int .u64 6] u fun e u' => e = .returned (U32 (Sha.rotr v.e 6)) /\ u = u' := fun u => turned_any v.e 6 (by decide) (by decide) u
   have T11 : ∀ u, Calls Tryz.prog 84 #[U32 v.e, .int .u64 11] u fun e u' => e = .returned (U32 (Sha.rotr v.e 11)) /\ u = u' := fun u => turned_any v.e 11 (by decide) (by decide) u
   have T25 : ∀ u, Calls Tryz.prog 84 #[U32 v.e, .int .u64 25] u fun e u' => e = .returned (U32 (Sha.rotr v.e 25)) /\ u = u' := fun u => turned_any v.e 25 (by decide) (by decide) u
   have T2 : ∀ u, Calls Tryz.prog 84 #[U32 v.a, .int .u64 2] u fun e u' => e = .returned (U32 (Sha.rotr v.a 2)) /\ u = u' := fun u => turned_any v.a 2 (by decide) (by decide) u
   have T13 : ∀ u, Calls Tryz.prog 84 #[U32 v.a, .int .u64 13] u fun e u' => e = .returned (U32 (Sha.rotr v.a 13)) /\ u = u' := fun u => turned_any v.a 13 (by decide) (by decide) u
   have T22 : ∀ u, Calls Tryz.prog 84 #[U32 v.a, .int .u64 22] u fun e u' => e = .returned (U32 (Sha.rotr v.a 22)) /\ u = u' := fun u => turned_any v.a 22 (by decide) (by decide) u
   go_wp2_with fail
   refine (T6 _).mono ?_
   rintro e w' ⟨rfl, rfl⟩
   go_wp2_with fail
   refine (T11 _).mono ?_
   rintro e w' ⟨rfl, rfl⟩
   go_wp2_with fail
   refine (T25 _).mono ?_
   rintro e w' ⟨rfl, rfl⟩
   go_wp2_with fail
   go_quiet (fail)
   go_wp2_with fail
   refine (T2 _).mono ?_
   rintro e w' ⟨rfl, rfl⟩
   go_wp2_with fail
   refine (T13 _).mono ?_
   rintro e w' ⟨rfl, rfl⟩
   go_wp2_with fail
   refine (T22 _).mono ?_
   rintro e w' ⟨rfl, rfl⟩
   clear T6 T11 T25 T2 T13 T22 ek es
   go_wp2
   go_roundw
   case rel =>
    have hstep := round_step v xk xs _ _ rfl rfl
    exact ⟨k + 1, n + nq, Sha.step v xk xs, by omega, HN.out.symm, by rw [hstep], by rw [hstep], by rw [hstep], by rw [hstep], by rw [hstep], by rw [hstep], by rw [hstep], by rw [hstep], by go_num, by rw [HWR.out, World.drewN_drewN]⟩
   case measure => simp [intOf]; omega
  ·obtain rfl : k = 64 := by omega
   rw [show (((64 : Nat) : Int)) = 64 from rfl]
   have g0 : wr.cell? ⟨gs, 0, none⟩ = some (U32 st.a) := by rw [hw]; exact e0
   have g1 : wr.cell? ⟨gs, 1, none⟩ = some (U32 st.b) := by rw [hw]; exact e1
   have g2 : wr.cell? ⟨gs, 2, none⟩ = some (U32 st.c) := by rw [hw]; exact e2
   have g3 : wr.cell? ⟨gs, 3, none⟩ = some (U32 st.d) := by rw [hw]; exact e3
   have g4 : wr.cell? ⟨gs, 4, none⟩ = some (U32 st.e) := by rw [hw]; exact e4
   have g5 : wr.cell? ⟨gs, 5, none⟩ = some (U32 st.f) := by rw [hw]; exact e5
   have g6 : wr.cell? ⟨gs, 6, none⟩ = some (U32 st.g) := by rw [hw]; exact e6
   have g7 : wr.cell? ⟨gs, 7, none⟩ = some (U32 st.h) := by rw [hw]; exact e7
   subst hv
   generalize hv2 : Sha.rounds st S 64 = v at *
   have HV2 := Lib.hid hv2
   clear hv2
   have hwb : Below w.heap.size w wr := by rw [hw]; exact below_drewN HB2.out n
   have HWB := Lib.hid hwb
   clear e0 e1 e2 e3 e4 e5 e6 e7 hw hwb HWR
   go_wp2_with fail
   refine wp_region_mid 40 (by kernel_rfl) (by kernel_rfl) rfl ?_
   simp only [List.take_succ_cons, List.take_zero, List.drop_zero]
   repeat (first | go_big_quiet_step (fail) | quiet_step (fail))
   refine wpQuiet_nil ?_
   intro j
   have HB3 : Hid (Below w.heap.size w (wr.drewN j)) := Lib.hid (below_drewN HWB.out j)
   clear g0 g1 g2 g3 g4 g5 g6 g7 HWB
   generalize wr.drewN j = w8 at *
   go_wp2
   refine midPost_normal (rest_quiet (by kernel_rfl) ?_)
   simp only [List.drop_succ_cons, List.drop_nil]
   repeat (first | go_big_quiet_step (fail) | quiet_step (fail))
   refine wpQuiet_nil ?_
   intro j'
   have hown : OwnsW (w8.alloc (.cells #[U32 (st.a + v.a), U32 (st.b + v.b), U32 (st.c + v.c), U32 (st.d + v.d), U32 (st.e + v.e), U32 (st.f + v.f), U32 (st.g + v.g), U32 (st.h + v.h)] 22)) w.heap.size (.slice (some ⟨w8.heap.size, 0, none⟩) 8 8) (st.plus v).list :=
    World.ownsRow_lit w8 (e := 22) (size := 1) #[U32 (st.a + v.a), U32 (st.b + v.b), U32 (st.c + v.c), U32 (st.d + v.d), U32 (st.e + v.e), U32 (st.f + v.f), U32 (st.g + v.g), U32 (st.h + v.h)] 8 HB3.out.size (by unfold maxLen; omega) rfl
   have hbf : Below w.heap.size w (w8.alloc (.cells #[U32 (st.a + v.a), U32 (st.b + v.b), U32 (st.c + v.c), U32 (st.d + v.d), U32 (st.e + v.e), U32 (st.f + v.f), U32 (st.g + v.g), U32 (st.h + v.h)] 22)) := HB3.out.alloc HB3.out.size _
   generalize w8.alloc (.cells #[U32 (st.a + v.a), U32 (st.b + v.b), U32 (st.c + v.c), U32 (st.d + v.d), U32 (st.e + v.e), U32 (st.f + v.f), U32 (st.g + v.g), U32 (st.h + v.h)] 22) = w9 at *
   generalize hg8 : w8.heap.size = g8 at *
   clear hg8
   have HO := Lib.hid hown
   have HBF := Lib.hid hbf
   clear hown hbf
   go_wp2
   go_ret
   refine ⟨_, rfl, ?_, below_drewN HBF.out j'⟩
   rw [HV2.out]; exact HO.out
end Go.Proofs.YtbicafgmfgdckaaGreatDoor
namespace Go.Proofs.YtbicafgmfgdckaaGreatDoor
open Go Go.RowKit

theorem big_len' (n : Nat) (h : n <= 1048576) : Value.int .u64 ((n : Int) * 8) = U64 (BitVec.ofNat 64 (8 * n)) := by
 rw [Int.mul_comm]; exact big_len n h
set_option maxHeartbeats 1000000 in
theorem rpad_any (a : Option Addr) (cap : Nat) (l : List (BitVec 8)) (w : World) (hr : Reads w a cap l) (hlm : l.length <= 1000000) :
  Calls Tryz.prog 47 #[.slice a l.length cap] w fun e w' => ∃ v, e = .returned v /\ Owns w' w.heap.size 5 v (Sha.pad l) /\ Below w.heap.size w w' := by
 have CO := copy_any a cap l w hr (by omega)
 obtain ⟨B, hB⟩ : ∃ B, w.heap.size = B := ⟨_, rfl⟩
 rw [hB]
 obtain ⟨P, hP⟩ : ∃ P, Sha.pad l = P := ⟨_, rfl⟩
 rw [hP]
 have HP := Lib.hid hP
 clear hP
 go_enter Tryz.func47, Tryz.ntmps47
 go_wp2_with fail
 refine CO.mono ?_
 rintro e w2 ⟨vt, rfl, ho2, hb2⟩
 rw [hB] at ho2 hb2
 have hsz2 : B <= w2.heap.size := hB ▸ hb2.size
 have hr2 := reads_lit w2 #[.int .u8 128] 5 (0, 0) [0x80#8] rfl (by decide)
 have ho2' := ho2.below (w' := w2.alloc (.cells #[.int .u8 128] 5)) ((Below.refl _ _).alloc (Nat.le_refl _) _)
 have hz2 : B <= (w2.alloc (.cells #[.int .u8 128] 5)).heap.size := by simp; omega
 have hlen : l.length + 1 <= 140737488355328 := by omega
 go_wp2_with (at_builtin; refine wpList_append_bytes_at byteSlice rfl _ _ rfl B vt l rfl ho2' (some ⟨w2.heap.size, 0, none⟩) 1 [0x80#8] rfl hr2 hlen hz2 ?_; intro v3 w3 ho3 hg3 _)
 have hb3 : Below B w w3 := below_append hb2 (by omega) ho2' hg3
 go_loopw [3] (fun x wr => TailRel B (l ++ [0x80#8]) (Sha.noughts l.length) w x wr) (fun x _ => match x with | .slice _ n _ => 1000200 - n | _ => 0)
 case atStart => exact ⟨0, by omega, by simpa using ho3, hb3⟩
 case round =>
  clear ho3 hb3 hg3 ho2' hz2 hr2 ho2 CO
  obtain ⟨j, hj, ho, hbw⟩ := hrel
  obtain ⟨t, ht⟩ : ∃ t, l ++ [0x80#8] ++ List.replicate j 0#8 = t := ⟨_, rfl⟩
  have htl : t.length = l.length + 1 + j := by rw [<- ht]; simp; omega
  have hnl := noughts_le l.length
  have hnn : Sha.noughts l.length = (119 - l.length % 64) % 64 := rfl
  rw [ht] at ho
  obtain ⟨at_, ct, rfl, hrt⟩ := ho.reads
  have HT := Lib.hid ht
  clear ht
  by_cases hlt : j < Sha.noughts l.length
  ·have hne : ¬ ((t.length : Int) % 64 = 56) := by omega
   have hne' : ((t.length : Int) % 64 != 56) = true := by simpa using hne
   have htl2 : t.length <= 1000100 := by omega
   have hbs := hbw.size
   have hrz := reads_lit wr #[.int .u8 0] 5 (0, 0) [0#8] rfl (by decide)
   have ho' := ho.below (w' := wr.alloc (.cells #[.int .u8 0] 5)) ((Below.refl _ _).alloc (Nat.le_refl _) _)
   have hz' : B <= (wr.alloc (.cells #[.int .u8 0] 5)).heap.size := by simp; omega
   have hlen' : t.length + 1 <= 140737488355328 := by omega
   have HTL := Lib.hid htl
   clear htl hnn
   go_wp2_with (at_builtin; refine wpList_append_bytes_at byteSlice rfl _ _ rfl B (.slice at_ t.length ct) t rfl ho' (some ⟨wr.heap.size, 0, none⟩) 1 [0#8] rfl hrz hlen' hz' ?_; intro v5 w5 ho5 hg5 _)
   have hb5 := below_append hbw (by omega) ho' hg5
   obtain ⟨x, hx⟩ : ∃ x, t ++ [0#8] = x := ⟨_, rfl⟩
   have hxl : x.length = t.length + 1 := by rw [<- hx, List.length_append, List.length_singleton]
   rw [hx] at ho5
   obtain ⟨a5, c5, rfl, _⟩ := ho5.reads
   have HO5 := Lib.hid ho5
   have HB5 := Lib.hid hb5
   have HX := Lib.hid hx
   have HXL := Lib.hid hxl
   clear ho5 hb5 hx hxl ho' hg5 ho hrz hrt
   go_roundw
   case rel =>
    refine ⟨j + 1, hlt, ?_, HB5.out⟩
    rw [List.replicate_succ', <- List.append_assoc, HT.out, HX.out]
    exact HO5.out
   case measure =>
    have h1 := HXL.out
    show 1000200 - x.length < 1000200 - t.length
    omega
  ·obtain rfl : j = Sha.noughts l.length := by omega
   have heq : (t.length : Int) % 64 = 56 := by omega
   have heq' : ((t.length : Int) % 64 != 56) = false := by simpa using heq
   have htl2 : t.length <= 1000100 := by omega
   have hbs := hbw.size
   have htail : P = t ++ Sha.be8 (8 * l.length) := by rw [<- HT.out, <- HP.out]; rfl
   have HTA := Lib.hid htail
   clear htail htl hnn hnl hj hlt
   have PU : Calls Tryz.prog 50 #[.int .u64 ((l.length : Int) * 8), .int .i64 8] wr fun e w' =>
     ∃ v, e = .returned v /\ Owns w' wr.heap.size 5 v (leB (BitVec.ofNat 64 (8 * l.length)) 8) /\ Below wr.heap.size wr w' := by
    rw [big_len' _ (by omega)]
    exact rput_any _ 8 (by omega) (by omega) wr
   have hbe : (leB (BitVec.ofNat 64 (8 * l.length)) 8).reverse = Sha.be8 (8 * l.length) := be8_big _ (by omega)
   have hlb : (leB (BitVec.ofNat 64 (8 * l.length)) 8).length = 8 := length_leB _ _
   generalize leB (BitVec.ofNat 64 (8 * l.length)) 8 = x at *
   have HBE := Lib.hid hbe
   have HLB := Lib.hid hlb
   clear hbe hlb
   go_wp2_with fail
   refine PU.mono ?_
   rintro e w6 ⟨v6, rfl, ho6, hb6⟩
   obtain ⟨a6, c6, rfl, hr6⟩ := ho6.reads
   have BK := rback_any a6 c6 x w6 hr6 (by have := HLB.out; omega)
   clear PU
   go_wp2_with fail
   refine BK.mono ?_
   rintro e w7 ⟨v7, rfl, ho7, hb7⟩
   rw [HBE.out] at ho7
   obtain ⟨e8, he8⟩ : ∃ q, Sha.be8 (8 * l.length) = q := ⟨_, rfl⟩
   rw [he8] at ho7
   have HE8 := Lib.hid he8
   have he8l : e8.length = 8 := by rw [<- he8]; rfl
   clear he8
   obtain ⟨a7, c7, rfl, hr7⟩ := ho7.reads
   have hbw7 := hb6.trans (hb7.mono hb6.size)
   have ho8 := ho.below hbw7
   have hs7 := hbw7.size
   have hz8 : B <= w7.heap.size := by omega
   have hlen8 : t.length + e8.length <= 140737488355328 := by omega
   clear BK he8l
   go_wp2_with (at_builtin; refine wpList_append_bytes_at byteSlice rfl _ _ rfl B (.slice at_ t.length ct) t rfl ho8 a7 c7 e8 rfl hr7 hlen8 hz8 ?_; intro v9 w9 ho9 hg9 _)
   go_ret
   have hb79 : Below B w7 w9 := (Touch.of_grown (F := fun k => (Value.slice at_ t.length ct).ownBlock = some k) hg9 fun k hk => hk).below (fun k hk => (row_lt ho hk).1) hz8
   refine ⟨v9, rfl, ?_, (hbw.trans (hbw7.mono (by omega))).trans hb79⟩
   rw [HTA.out, HE8.out]
   exact ho9
end Go.Proofs.YtbicafgmfgdckaaGreatDoor
