/- A cutter's Write: what it gives. A new cutter; Split and Sizes of the program. Parts: a chunk's sum and its length; rows of such. Whether two rows are the same; the reference's parts of a text. -/
import Derived.Test.YtbicafgmfgdckaaGreatDoorMgAk
import Derived.Test.YtbicafgmfgdckaaGreatDoorMgAi
import Derived.Test.YtbicafgmfgdckaaGreatDoorMgAc
namespace Go.Proofs.YtbicafgmfgdckaaGreatDoor
open Go Go.RowKit

def WF (w : World) (b r : Nat) (v0 v : Value) (k : Nat) : Prop := Foot b r v k \/ (k < w.heap.size /\ ¬ Foot b r v0 k)
structure WriteInv (w : World) (B b r : Nat) (v0 : Value) (h : CutMath.Sh) (held l : List (BitVec 8)) (k : Nat) (v ov : Value) (vs : List Value) (wr : World) : Prop where
 le : k <= l.length
 cut : Cutter wr B b r v h (CutMath.feed h held (l.take k)).2
 rows : OwnsRows (WF w b r v0 v) wr B 37 ov vs (CutMath.feed h held (l.take k)).1
 touch : Touch (Foot b r v0) w wr
 foot : ∀ q, Foot b r v q -> Foot b r v0 q \/ w.heap.size <= q
theorem feed_take (h : CutMath.Sh) (held l : List (BitVec 8)) (k : Nat) (hk : k < l.length) :
  CutMath.feed h held (l.take (k + 1)) = if CutMath.ends h ((CutMath.feed h held (l.take k)).2 ++ [byteAt l k]) then ((CutMath.feed h held (l.take k)).1 ++ [(CutMath.feed h held (l.take k)).2 ++ [byteAt l k]], []) else ((CutMath.feed h held (l.take k)).1, (CutMath.feed h held (l.take k)).2 ++ [byteAt l k]) := by
 rw [take_snoc l k hk, CutMath.feed_snoc]
theorem foot_mono {b r : Nat} {v v' : Value} {n k : Nat} (hb : v'.ownBlock = v.ownBlock \/ ∃ q, v'.ownBlock = some q /\ n <= q) (hk : Foot b r v' k) : Foot b r v k \/ n <= k := by
 rcases hk with e | e | e
 ·exact .inl (.inl e)
 ·exact .inl (.inr (.inl e))
 ·rcases hb with e2 | ⟨q, e2, e3⟩
  ·exact .inl (.inr (.inr (e2 ▸ e)))
  ·rw [e] at e2; injection e2 with e2; exact .inr (by omega)
theorem foot_nil {b r : Nat} {v : Value} {k : Nat} (hk : Foot b r (.slice none 0 0) k) : Foot b r v k := by
 rcases hk with e | e | e
 ·exact .inl e
 ·exact .inr (.inl e)
 ·simp [Value.ownBlock] at e
theorem foot_nil' {b r : Nat} {k : Nat} (hk : Foot b r (.slice none 0 0) k) : k = b \/ k = r := by
 rcases hk with e | e | e
 ·exact .inl e
 ·exact .inr e
 ·simp [Value.ownBlock] at e
section
variable {w wr w2 w3 w5 : World} {B b r : Nat} {v0 v v' ov ov' : Value} {h : CutMath.Sh} {held l : List (BitVec 8)} {k : Nat} {vs : List Value}
theorem WriteInv.no (i : WriteInv w B b r v0 h held l k v ov vs wr) (hk : k < l.length) (he : CutMath.ends h ((CutMath.feed h held (l.take k)).2 ++ [byteAt l k]) = false)
  (c : Cutter w2 B b r v' h ((CutMath.feed h held (l.take k)).2 ++ [byteAt l k])) (t : Touch (Foot b r v) wr w2) (hb : v'.ownBlock = v.ownBlock \/ ∃ q, v'.ownBlock = some q /\ wr.heap.size <= q) :
  WriteInv w B b r v0 h held l (k + 1) v' ov vs w2 := by
 have hf := feed_take h held l k hk
 rw [he, if_neg (by simp)] at hf
 have hs := i.touch.size
 refine ⟨by omega, by rw [hf]; exact c, ?_, i.touch.trans' t i.foot, fun q hq => ?_⟩
 ·rw [hf]
  refine (i.rows.less (G := fun q => WF w b r v0 v' q \/ Foot b r v q) ?_).touch (t.mono fun q e => .inr e) |>.less fun q e => .inl (.inl e)
  rintro q ((e | e) | e)
  ·rcases foot_mono hb e with e2 | e2
   ·exact .inl (.inl e2)
   ·exact .inr e2
  ·exact .inl (.inr e)
  ·exact .inl (.inl e)
 ·rcases foot_mono hb hq with e | e
  ·exact i.foot q e
  ·exact .inr (by omega)
theorem WriteInv.yes (i : WriteInv w B b r v0 h held l k v ov vs wr) (hk : k < l.length) (he : CutMath.ends h ((CutMath.feed h held (l.take k)).2 ++ [byteAt l k]) = true)
  (c : Cutter w2 B b r v' h ((CutMath.feed h held (l.take k)).2 ++ [byteAt l k])) (t : Touch (Foot b r v) wr w2) (hb : v'.ownBlock = v.ownBlock \/ ∃ q, v'.ownBlock = some q /\ wr.heap.size <= q)
  (c3 : Cutter w3 B b r (.slice none 0 0) h []) (ho : Owns w3 B 5 v' ((CutMath.feed h held (l.take k)).2 ++ [byteAt l k])) (t3 : Touch (Foot b r (.slice none 0 0)) w2 w3)
  (h1 : w5.ownsRow B 37 1 ov' ((CutMath.feed h held (l.take k)).1.length + 1) (vs ++ [v'])) (hg : (w3.alloc (.cells #[v'] 37)).grownBy w5 ov.ownBlock) (hb5 : ov'.ownBlock = ov.ownBlock \/ ov'.ownBlock = some (w3.alloc (.cells #[v'] 37)).heap.size) :
  WriteInv w B b r v0 h held l (k + 1) (.slice none 0 0) ov' (vs ++ [v']) w5 := by
 have hf := feed_take h held l k hk
 rw [he, if_pos rfl] at hf
 have hs := i.touch.size
 have rows2 : OwnsRows (fun q => WF w b r v0 v' q \/ Foot b r v q) w2 B 37 ov vs (CutMath.feed h held (l.take k)).1 := by
  refine (i.rows.less ?_).touch (t.mono fun q e => .inr e)
  rintro q ((e | e) | e)
  ·rcases foot_mono hb e with e2 | e2
   ·exact .inl (.inl e2)
   ·exact .inr e2
  ·exact .inl (.inr e)
  ·exact .inl (.inl e)
 have rows3 : OwnsRows (fun q => WF w b r v0 (.slice none 0 0) q \/ v'.ownBlock = some q) w3 B 37 ov vs (CutMath.feed h held (l.take k)).1 := by
  refine (rows2.touch (t3.mono fun q e => .inl (.inl (foot_nil e)))).less ?_
  rintro q ((e | e) | e)
  ·exact .inl (.inl (.inl (foot_nil e)))
  ·exact .inl (.inl (.inr e))
  ·exact .inl (.inl (.inl (.inr (.inr e))))
 have t4 : Touch (fun _ => False) w3 (w3.alloc (.cells #[v'] 37)) := (Touch.refl _ _).alloc _
 have rows4 : OwnsRows (WF w b r v0 (.slice none 0 0)) (w3.alloc (.cells #[v'] 37)) B 37 ov vs (CutMath.feed h held (l.take k)).1 :=
  (rows3.less (fun q e => .inl (.inl e))).touch (t4.mono fun _ f => f.elim)
 have hov : ∀ q, ov.ownBlock = some q -> ¬ (q = b \/ q = r) := fun q hq e => rows4.out q hq (.inl (e.elim .inl fun e => .inr (.inl e)))
 have t5 : Touch (fun q => ov.ownBlock = some q) (w3.alloc (.cells #[v'] 37)) w5 := .of_grown hg fun q hq => hq
 have tl : Touch (Foot b r v0) w w3 := (i.touch.trans' t i.foot).trans' t3 fun q e => .inl (by
  rcases foot_nil' e with rfl | rfl
  ·exact .inl rfl
  ·exact .inr (.inl rfl))
 have hvo : ∀ q, v'.ownBlock = some q -> ¬ WF w b r v0 (.slice none 0 0) q := by
  rintro q hq (e | e)
  ·rcases foot_nil' e with rfl | rfl
   ·exact c.vb hq
   ·exact c.vr hq
  ·rcases foot_mono hb (b := b) (r := r) (.inr (.inr hq)) with e2 | e2
   ·rcases i.foot q e2 with e3 | e3
    ·exact e.2 e3
    ·have := e.1; omega
   ·have := e.1; omega
 have hov0 : ∀ q, ov.ownBlock = some q -> Foot b r v0 q \/ w.heap.size <= q := fun q hq => by
  by_cases hlt : q < w.heap.size
  ·by_cases hf0 : Foot b r v0 q
   ·exact .inl hf0
   ·exact (rows4.out q hq (.inr ⟨hlt, hf0⟩)).elim
  ·exact .inr (by omega)
 have ch : Chunk (WF w b r v0 (.slice none 0 0)) (w3.alloc (.cells #[v'] 37)) v' ((CutMath.feed h held (l.take k)).2 ++ [byteAt l k]) := by
  obtain ⟨a, cap, e, rd⟩ := ho.reads
  refine ⟨a, cap, e, t4.reads rd fun _ _ f => f, fun ad e2 => ?_⟩
  subst e2
  have hq : ∃ g, v'.ownBlock = some g /\ g = ad.block := by
   rcases ho.2 with ⟨e3, _⟩ | ⟨g, cap3, cur, e3, _⟩
   ·rw [e3] at e; injection e with e _ _; cases e
   ·rw [e3] at e
    injection e with e _ _
    injection e with e
    exact ⟨g, by rw [e3]; rfl, by rw [<- e]⟩
  obtain ⟨q, hq, rfl⟩ := hq
  exact ⟨hvo _ hq, Nat.lt_of_lt_of_le (row_lt ho hq).2 (by simp)⟩
 refine ⟨by omega, ?_, ?_, (tl.trans (t4.mono fun _ f => f.elim)).trans' t5 hov0, ?_⟩
 ·rw [hf]
  refine (c3.touch t4 fun _ _ f => f).touch t5 fun q e => ?_
  intro hq
  exact hov q hq (foot_nil' e)
 ·rw [hf]
  refine rows4.snoc ch ?_ h1 hg hb5 ?_
  ·rintro q (e | e)
   ·have := (c3.foot_lt e).2; simp; omega
   ·have := tl.size; simp; omega
  ·intro ad n cp e hv
   obtain ⟨q, hq⟩ : ∃ q, v'.ownBlock = some q := by
    rcases ho.2 with ⟨e3, h0⟩ | ⟨g, cap3, cur, e3, _⟩
    ·simp at h0
    ·exact ⟨g, by rw [e3]; rfl⟩
   have e4 : q = ad.block := by
    rcases ho.2 with ⟨e3, h0⟩ | ⟨g, cap3, cur, e3, _⟩
    ·simp at h0
    ·rw [e3] at e hq
     injection e with e _ _
     injection e with e
     simp only [Value.ownBlock, Option.some.injEq] at hq
     rw [<- hq, <- e]
   exact rows3.out ad.block hv (.inr (by rw [hq, e4]))
 ·intro q hq
  rcases foot_nil' hq with rfl | rfl
  ·exact .inl (.inl rfl)
  ·exact .inl (.inr (.inl rfl))
end
def Writes (B b r : Nat) (v0 : Value) (h : CutMath.Sh) (held l : List (BitVec 8)) (w : World) (e : Ending) (w' : World) : Prop :=
 ∃ v ov vs, e = .returned ov /\ Cutter w' B b r v h (CutMath.feed h held l).2 /\ OwnsRows (WF w b r v0 v) w' B 37 ov vs (CutMath.feed h held l).1 /\ Touch (Foot b r v0) w w' /\ ∀ q, Foot b r v q -> Foot b r v0 q \/ w.heap.size <= q
def WriteRel (w : World) (B b r : Nat) (v0 : Value) (h : CutMath.Sh) (held l : List (BitVec 8)) (ov i : Value) (wr : World) : Prop :=
 ∃ k v vs, i = .int .i64 (k : Nat) /\ WriteInv w B b r v0 h held l k v ov vs wr
set_option maxHeartbeats 800000 in
theorem cutWrite_some {w : World} {B b r : Nat} {v0 : Value} {h : CutMath.Sh} {held : List (BitVec 8)} (g : h.Good) (c : Cutter w B b r v0 h held) (hB : B <= w.heap.size) (hop : CutMath.Open h held)
  (g0 off cap : Nat) (l : List (BitVec 8)) (hl : l.length <= 1048576) (hby : BytesAt w g0 off l) (hoff : ¬ Foot b r v0 g0) :
  Calls Tryz.prog 40 #[.pointer (some ⟨b, 0, none⟩), .slice (some ⟨g0, off, none⟩) l.length cap] w (Writes B b r v0 h held l w) := by
 have OK := cutOk_any c.at_
 have i0 : WriteInv w B b r v0 h held l 0 v0 (.slice none 0 0) [] w := ⟨Nat.zero_le _, c, ownsRows_nil _ _ _ _, Touch.refl _ _, fun q hq => .inl hq⟩
 have HL := Lib.hid hl
 go_enter Tryz.func40, Tryz.ntmps40
 go_wp2_with fail
 refine OK.mono ?_
 rintro e w' ⟨rfl, rfl⟩
 go_wp2
 go_loopw [5, 13] (fun ov i wr => WriteRel w B b r v0 h held l ov i wr) (fun _ i _ => l.length - (intOf i).toNat)
 case atStart => exact ⟨0, v0, [], rfl, i0⟩
 case round =>
  clear i0 OK
  obtain ⟨k, v, vs, rfl, i⟩ := hrel
  by_cases hlt : k < l.length
  ·have hc := i.touch.bytes hby hoff k hlt
   have hbnd := CutMath.open_lt g (CutMath.feed_open h (l.take k) held hop)
   have hM := g.m
   have hBr := Nat.le_trans hB i.touch.size
   have PU := cutPut_any g i.cut (by omega) hBr (byteAt l k)
   have hfew := CutMath.feed_few h (l.take k) held
   have hlk : (l.take k).length <= k := List.length_take_le _ _
   generalize hx : byteAt l k = x at *
   clear hbnd hM
   go_wp2_with fail
   refine PU.mono ?_
   rintro e w2 ⟨v', rfl, c2, t2, hb2⟩
   subst hx
   cases he : CutMath.ends h ((CutMath.feed h held (l.take k)).2 ++ [byteAt l k])
   ·have i2 := i.no hlt he c2 t2 hb2
    have HI := Lib.hid i2
    clear i2 i c c2 t2 hb2 he PU hc hfew hlk
    go_wp2
    go_roundw
    case rel => exact ⟨k + 1, _, _, by go_num, HI.out⟩
    case measure => simp [intOf]; omega
   ·have TK := cutTake_any c2
    have HE := Lib.hid he
    clear he PU hc
    go_wp2_with fail
    refine TK.mono ?_
    rintro e w3 ⟨rfl, c3, ho3, t3⟩
    obtain ⟨a', cp', rfl⟩ := row_form ho3
    generalize hn' : ((CutMath.feed h held (l.take k)).2 ++ [byteAt l k]).length = n' at *
    have t4 : Touch (fun _ => False) w3 (w3.alloc (.cells #[.slice a' n' cp'] 37)) := (Touch.refl _ _).alloc _
    have hrow := t4.row (t3.row (t2.row i.rows.row fun q hq e => i.rows.out q hq (.inl e)) fun q hq e => by
     rcases foot_nil' e with rfl | rfl
     ·exact i.rows.out q hq (.inl (.inl rfl))
     ·exact i.rows.out _ hq (.inl (.inr (.inl rfl)))) fun _ _ f => f
    have hcell : (w3.alloc (.cells #[.slice a' n' cp'] 37)).cell? ⟨w3.heap.size, 0, none⟩ = some (.slice a' n' cp') := alloc_cell w3 _ _ 0
    have hsz : B <= (w3.alloc (.cells #[.slice a' n' cp'] 37)).heap.size := by
     have h1 := t2.size
     have h2 := t3.size
     simp; omega
    have HI := Lib.hid i
    have HC := Lib.hid c2
    have HT := Lib.hid t2
    have HB := Lib.hid hb2
    have H3 := Lib.hid c3
    have HO := Lib.hid ho3
    have HT3 := Lib.hid t3
    have HN := Lib.hid hn'
    clear i c c2 t2 hb2 c3 ho3 t3 t4 hn' TK hby hoff
    go_wp2_with (at_builtin; refine wpList_append_elem rowsElem rfl _ _ rfl B u5 (CutMath.feed h held (l.take k)).1.length vs rfl hrow ⟨w3.heap.size, 0, none⟩ 1 (.slice a' n' cp') rfl hcell rfl (by omega) (by omega) hsz ?_; intro ov' w5 h1 hg hb5)
    go_roundw
    case rel => exact ⟨k + 1, _, _, by go_num, HI.out.yes hlt HE.out HC.out HT.out HB.out H3.out HO.out HT3.out h1 hg hb5⟩
    case measure => simp [intOf]; omega
  ·have hk := i.le
   obtain rfl : k = l.length := by omega
   have h1 := i.cut
   have h2 := i.rows
   rw [List.take_length] at h1 h2
   have HI := Lib.hid i
   have H1 := Lib.hid h1
   have H2 := Lib.hid h2
   clear i h1 h2 hby c
   go_wp2
   go_ret
   exact ⟨v, _, vs, rfl, H1.out, H2.out, HI.out.touch, HI.out.foot⟩
theorem cutWrite_none {w : World} {B b r : Nat} {v0 : Value} {h : CutMath.Sh} {held : List (BitVec 8)} (c : Cutter w B b r v0 h held) (a : Option Addr) (cap : Nat) :
  Calls Tryz.prog 40 #[.pointer (some ⟨b, 0, none⟩), .slice a 0 cap] w (Writes B b r v0 h held [] w) := by
 have OK := cutOk_any c.at_
 have HC := Lib.hid c
 clear c
 go_enter Tryz.func40, Tryz.ntmps40
 go_wp2_with fail
 refine OK.mono ?_
 rintro e w' ⟨rfl, rfl⟩
 go_wp2
 refine wp_loop_once ?_
 go_wp2
 go_ret
 exact ⟨v0, _, [], rfl, HC.out, ownsRows_nil _ _ _ _, Touch.refl _ _, fun q hq => .inl hq⟩
theorem cutWrite_any {w : World} {B b r : Nat} {v0 : Value} {h : CutMath.Sh} {held : List (BitVec 8)} (g : h.Good) (c : Cutter w B b r v0 h held) (hB : B <= w.heap.size) (hop : CutMath.Open h held)
  (a : Option Addr) (cap : Nat) (l : List (BitVec 8)) (hl : l.length <= 1048576) (hr : Reads w a cap l) (hoff : l ≠ [] -> ∀ ad, a = some ad -> ¬ Foot b r v0 ad.block) :
  Calls Tryz.prog 40 #[.pointer (some ⟨b, 0, none⟩), .slice a l.length cap] w (Writes B b r v0 h held l w) := by
 by_cases hne : l = []
 ·subst hne; exact cutWrite_none c a cap
 ·rcases hr.bytes with e | ⟨g0, off, rfl, hb⟩
  ·exact (hne e).elim
  ·exact cutWrite_some g c hB hop g0 off cap l hl hb (hoff hne _ rfl)
end Go.Proofs.YtbicafgmfgdckaaGreatDoor
namespace Go.Proofs.YtbicafgmfgdckaaGreatDoor
open Go Go.RowKit

def NewsC (h : CutMath.Sh) (w : World) (e : Ending) (w' : World) : Prop :=
 ∃ b r, e = .returned (.tuple #[.pointer (some ⟨b, 0, none⟩), .int .i64 0]) /\ Cutter w' w.heap.size b r (.slice none 0 0) h [] /\ Below w.heap.size w w'
set_option maxHeartbeats 800000 in
set_option maxRecDepth 100000 in
theorem cutNew_good (h : CutMath.Sh) (g : h.Good) (w : World) : Calls Tryz.prog 39 #[shV h] w (NewsC h w) := by
 have CH := fun v => check_yes h.L h.M h.K h.W h.s v (by have := g.w1; omega) (by have := g.w63; omega) (by have := g.wl; omega) (by have := g.lm; omega) (by have := g.m; omega) (by omega) (by have := g.k; omega)
 have NW := fun v => new_some v h.s h.W g.w1 g.w63
 have bx := box_cells w #[.int .i64 h.L, .int .i64 h.M, .int .i64 h.K, .int .i64 h.W, U32 h.s] 24
 have hb0 := (Below.refl w.heap.size w).alloc (Nat.le_refl _) (.cells #[.int .i64 h.L, .int .i64 h.M, .int .i64 h.K, .int .i64 h.W, U32 h.s] 24)
 unfold shV shapeV at *
 go_enter Tryz.func39, Tryz.ntmps39
 go_wp2_with fail
 generalize w.alloc (.cells #[.int .i64 h.L, .int .i64 h.M, .int .i64 h.K, .int .i64 h.W, U32 h.s] 24) = w1 at *
 refine (CH _).mono ?_
 rintro e w2 ⟨rfl, hb2⟩
 have c3 := bx _ hb2 3
 have c4 := bx _ hb2 4
 go_wp2_with fail
 refine (NW _).mono ?_
 rintro e w3 ⟨r, hr, rfl, hR, hb3⟩
 have hb4 := hb2.trans (hb3.mono hb2.size)
 clear c3 c4
 have c0 := bx _ hb4 0
 have c1 := bx _ hb4 1
 have c2 := bx _ hb4 2
 have c3 := bx _ hb4 3
 have c4 := bx _ hb4 4
 have sh := fun (t : TypeId) => u32_shld t 1 .i64 (h.K : Int) (by decide) (by decide) (by omega)
 go_wp2_with fail
 go_still_tail 7, (by kernel_rfl)
 change wpList _ _ _ _ _ w3.drew
 have hb5 := hb4.drew
 have hR5 : Roller w3.drew r h.s h.W [] := hR.drewN 1
 have hr5 : w.heap.size <= r := Nat.le_trans (Nat.le_trans hb0.size hb2.size) hr
 clear c0 c1 c2 c3 c4 hR hb3
 generalize w3.drew = w4 at *
 have hlt := hR5.lt
 have h0 := hb0.trans (hb5.mono hb0.size)
 go_wp2
 go_ret2
 refine ⟨w4.heap.size, r, rfl, ⟨⟨?_, ?_, ?_, ?_, ?_, ?_, ?_, ?_, fun o => alloc_thawed _ _ _ o⟩, by omega, ?_, owns_nil _ _ _, by simp [Value.ownBlock], by simp [Value.ownBlock], h0.size, hr5⟩, h0.alloc h0.size _⟩
 all_goals first | exact alloc_cell _ _ _ _ | skip
 rw [given_nil h [] (by simp)]
 exact hR5.touch (F := fun _ => False) ((Touch.refl _ _).alloc _) fun f => f
def SplitsC (h : CutMath.Sh) (l : List (BitVec 8)) (w : World) (e : Ending) (w' : World) : Prop :=
 ∃ v vs, e = .returned (.tuple #[v, .int .i64 0]) /\ OwnsRows (fun k => k < w.heap.size) w' w.heap.size 37 v vs (CutMath.split h l) /\ Below w.heap.size w w'
theorem split_cases (h : CutMath.Sh) (l : List (BitVec 8)) : ((CutMath.feed h [] l).2 = [] /\ CutMath.split h l = (CutMath.feed h [] l).1) \/ ((CutMath.feed h [] l).2 ≠ [] /\ CutMath.split h l = (CutMath.feed h [] l).1 ++ [(CutMath.feed h [] l).2]) := by
 by_cases e : (CutMath.feed h [] l).2 = []
 ·exact .inl ⟨e, by unfold CutMath.split; rw [if_pos e, List.append_nil]⟩
 ·exact .inr ⟨e, by unfold CutMath.split; rw [if_neg e]⟩
theorem own_block {w : World} {B : Nat} {E : TypeId} {g : Addr} {n cap : Nat} {l : List (BitVec 8)} (h : Owns w B E (.slice (some g) n cap) l) : (Value.slice (some g) n cap).ownBlock = some g.block := by
 rcases h.2 with ⟨e3, _⟩ | ⟨g', cap3, cur, e3, _⟩
 ·injection e3 with e _ _; cases e
 ·injection e3 with e _ _; injection e with e; rw [e]; rfl
theorem Owns.chunk {F : Nat -> Prop} {w : World} {B : Nat} {E : TypeId} {v : Value} {l : List (BitVec 8)} (h : Owns w B E v l) (hF : ∀ k, v.ownBlock = some k -> ¬ F k) : Chunk F w v l := by
 obtain ⟨a, cap, e, r⟩ := h.reads
 subst e
 refine ⟨a, cap, rfl, r, fun ad e => ?_⟩
 subst e
 have := own_block h
 exact ⟨hF _ this, (row_lt h this).2⟩
set_option maxHeartbeats 800000 in
set_option maxRecDepth 100000 in
theorem cutSplit_good (h : CutMath.Sh) (g : h.Good) (a : Option Addr) (cap : Nat) (l : List (BitVec 8)) (w : World) (hl : l.length <= 1048576) (hr : Reads w a cap l) :
  Calls Tryz.prog 24 #[shV h, .slice a l.length cap] w (SplitsC h l w) := by
 have ha := reads_addr hr
 have CH := fun v => cutNew_good h g v
 have hb0 := (Below.refl w.heap.size w).alloc (Nat.le_refl _) (.cells #[.int .i64 h.L, .int .i64 h.M, .int .i64 h.K, .int .i64 h.W, U32 h.s] 24)
 have hr0 := hr.keeps (Keeps.below hb0)
 have hs0 := hb0.size
 unfold shV shapeV at *
 go_enter Tryz.func24, Tryz.ntmps24
 go_wp2_with fail
 generalize w.alloc (.cells #[.int .i64 h.L, .int .i64 h.M, .int .i64 h.K, .int .i64 h.W, U32 h.s] 24) = w1 at *
 refine (CH _).mono ?_
 rintro e w2 ⟨b, r, rfl, c, hb2⟩
 have hb := c.low.1
 have hrr := c.low.2
 have WR := cutWrite_any g c hb2.size (CutMath.open_nil h) a cap l hl (hr0.keeps (Keeps.below hb2)) fun hne ad e f => by
  have := ha hne ad e
  rcases foot_nil' f with e2 | e2 <;> omega
 go_wp2_with fail
 refine WR.mono ?_
 rintro e w3 ⟨v, ov, vs, rfl, c3, o3, t3, f3⟩
 have EN := cutEnd_any c3
 go_wp2_with fail
 refine EN.mono ?_
 rintro e w4 ⟨rfl, c4, ho4, t4⟩
 have hB2 : ∀ k, Foot b r (.slice none 0 0) k -> w1.heap.size <= k := fun k f => by rcases foot_nil' f with e | e <;> omega
 have hlow : Below w.heap.size w w4 := by
  refine hb0.trans ((hb2.mono hs0).trans (((t3.below hB2 hb2.size).mono hs0).trans ((t4.below hB2 ?_).mono hs0)))
  exact Nat.le_trans hb2.size t3.size
 have rows4 : OwnsRows (fun k => k < w.heap.size \/ v.ownBlock = some k) w4 w.heap.size 37 ov vs (CutMath.feed h [] l).1 := by
  have q := (o3.touch (t4.mono (fun k f => .inl (foot_nil f)))).less (G := fun k => k < w.heap.size \/ v.ownBlock = some k) ?_
  ·exact ⟨row_mono q.row (fun k hk => Nat.le_trans hs0 (row_lt q.row hk).1), q.len, q.out, q.chunk, q.apart⟩
  ·have := hb2.size
   rintro k (e | e)
   ·exact .inl (.inr ⟨by omega, fun f => by have := hB2 k f; omega⟩)
   ·exact .inl (.inl (.inr (.inr e)))
 have hfew := CutMath.feed_few h l []
 rcases split_cases h l with ⟨e1, e2⟩ | ⟨e1, e2⟩
 ·obtain ⟨va, vc, rfl⟩ := row_form ho4
  rw [e1] at ho4
  have hres := Lib.hid (show OwnsRows (fun k => k < w.heap.size) w4 w.heap.size 37 ov vs (CutMath.split h l) by rw [e2]; exact rows4.less fun k e => .inl (.inl e))
  have hz : (((CutMath.feed h [] l).2.length : Nat) : Int) = 0 := by rw [e1]; rfl
  rw [e1]
  clear c c3 o3 t3 f3 c4 ho4 t4 rows4 hr hr0 CH WR EN e1 e2 hfew hz
  go_wp2
  go_ret2
  exact ⟨_, vs, rfl, hres.out, hlow⟩
 ·obtain ⟨va, vc, rfl⟩ := row_form ho4
  have hpos : (0 : Int) < (((CutMath.feed h [] l).2.length : Nat) : Int) := by
   have := List.length_pos_iff.2 e1; omega
  have hch : Chunk (fun k => k < w.heap.size) w4 (.slice va (CutMath.feed h [] l).2.length vc) (CutMath.feed h [] l).2 := ho4.chunk fun k hk => by
   have := (row_lt ho4 hk).1; omega
  have hvv : ∀ ad, va = some ad -> ov.ownBlock ≠ some ad.block := fun ad e hv => by
   subst e
   exact rows4.out _ hv (.inr (own_block ho4))
  generalize hn : (CutMath.feed h [] l).2.length = n at *
  have t5 : Touch (fun _ => False) w4 (w4.alloc (.cells #[.slice va n vc] 37)) := (Touch.refl _ _).alloc _
  have rows5 := (rows4.less (G := fun k => k < w.heap.size) fun k e => .inl (.inl e)).touch (t5.mono fun _ f => f.elim)
  have hch5 := hch.touch (t5.mono fun _ f => f.elim)
  have hrow := rows5.row
  have hcell : (w4.alloc (.cells #[.slice va n vc] 37)).cell? ⟨w4.heap.size, 0, none⟩ = some (.slice va n vc) := alloc_cell w4 _ _ 0
  have hlow5 := hlow.alloc hlow.size (.cells #[.slice va n vc] 37)
  have hsz := hlow5.size
  have H5 := Lib.hid rows5
  have HC := Lib.hid hch5
  have HV := Lib.hid hvv
  have HL := Lib.hid hlow5
  have E2 := Lib.hid e2
  clear c c3 o3 t3 f3 c4 ho4 t4 rows4 hr hr0 CH WR EN e1 e2 hn hch hvv t5 rows5 hch5 hlow5 hlow hb2 hb0 ha
  go_wp2_with (at_builtin; refine wpList_append_elem rowsElem rfl _ _ rfl w.heap.size ov (CutMath.feed h [] l).1.length vs rfl hrow ⟨w4.heap.size, 0, none⟩ 1 (.slice va n vc) rfl hcell rfl (by omega) (by omega) hsz ?_; intro ov' w5 h1 hg hb5)
  go_ret2
  refine ⟨_, _, rfl, by rw [E2.out]; exact H5.out.snoc HC.out (fun k hk => by omega) h1 hg hb5 (fun ad m c e => by injection e with e _ _; exact HV.out ad e), ?_⟩
  refine HL.out.trans ((Touch.of_grown (F := fun k => ov.ownBlock = some k) hg fun k hk => hk).below (fun k hk => (row_lt hrow hk).1) hsz)
end Go.Proofs.YtbicafgmfgdckaaGreatDoor
namespace Go.Proofs.YtbicafgmfgdckaaGreatDoor
open Go Go.RowKit

abbrev Pt := List (BitVec 8) × Nat
def partC (p : Pt) : List Value := keyC p.1 ++ ([.int .i64 (p.2 : Int)] : List Value)
def partOf (c : List (BitVec 8)) : Pt := (Sha.sum c, c.length)
def partsOf (h : CutMath.Sh) (l : List (BitVec 8)) : List Pt := (CutMath.split h l).map partOf
theorem partC_len {p : Pt} (h : p.1.length = 32) : (partC p).length = 33 := by
 unfold partC keyC
 rw [List.length_append, List.length_map, h]
 rfl
theorem partsOf_len (h : CutMath.Sh) (l : List (BitVec 8)) : ∀ p ∈ partsOf h l, p.1.length = 32 := fun p hp => by
 obtain ⟨c, _, rfl⟩ := List.mem_map.1 hp
 exact sum_length c
theorem one_partC (p : Pt) : ∀ u ∈ partC p, u.oneCell' = true := fun u hu => by
 unfold partC at hu
 rcases List.mem_append.1 hu with h | h
 ·exact one_keyC _ u h
 ·rw [List.mem_singleton] at h; subst h; rfl
def zeroPart : Pt := (zeroKey, 0)
theorem part_info : (Tryz.prog.info? 60).map (fun i => (i.zero, i.size, i.bytes)) = some (some (.agg (partC zeroPart).toArray), 33, 40) := by kernel_rfl
theorem part_zsize : (Value.agg (partC zeroPart).toArray).cells.size = 33 := by
 show (partC zeroPart).toArray.size = 33
 rw [List.size_toArray, partC_len (by simp [zeroPart, zeroKey])]
theorem built_part' (n : Int) (c0 c1 c2 c3 c4 c5 c6 c7 c8 c9 c10 c11 c12 c13 c14 c15 c16 c17 c18 c19 c20 c21 c22 c23 c24 c25 c26 c27 c28 c29 c30 c31 : Value) : Program.built Tryz.prog 60 [(0, .agg ([c0, c1, c2, c3, c4, c5, c6, c7, c8, c9, c10, c11, c12, c13, c14, c15, c16, c17, c18, c19, c20, c21, c22, c23, c24, c25, c26, c27, c28, c29, c30, c31] : List Value).toArray), (1, .int .i64 n)] = some (([c0, c1, c2, c3, c4, c5, c6, c7, c8, c9, c10, c11, c12, c13, c14, c15, c16, c17, c18, c19, c20, c21, c22, c23, c24, c25, c26, c27, c28, c29, c30, c31] : List Value) ++ ([.int .i64 n] : List Value)).toArray := by kernel_rfl
theorem built_part (C : List Value) (hC : C.length = 32) (n : Int) : Program.built Tryz.prog 60 [(0, .agg C.toArray), (1, .int .i64 n)] = some (C ++ ([.int .i64 n] : List Value)).toArray := by
 match C, hC with
 | c0 :: c1 :: c2 :: c3 :: c4 :: c5 :: c6 :: c7 :: c8 :: c9 :: c10 :: c11 :: c12 :: c13 :: c14 :: c15 :: c16 :: c17 :: c18 :: c19 :: c20 :: c21 :: c22 :: c23 :: c24 :: c25 :: c26 :: c27 :: c28 :: c29 :: c30 :: c31 :: [], _ => exact built_part' n c0 c1 c2 c3 c4 c5 c6 c7 c8 c9 c10 c11 c12 c13 c14 c15 c16 c17 c18 c19 c20 c21 c22 c23 c24 c25 c26 c27 c28 c29 c30 c31
theorem run_neq_part (p q : Pt) (hp : p.1.length = 32) (hq : q.1.length = 32) (w : World) :
  (binOp .neq 60 (.agg (partC p).toArray) (.agg (partC q).toArray)).run Tryz.prog w = .ok (.bool (p != q)) w := by
 have u3 := Tryz.underlying3
 have a3 := Tryz.isAgg3
 have z3 := Tryz.sizeOf3
 have u4 := Tryz.underlying40
 have a4 := Tryz.isAgg40
 have z4 := Tryz.sizeOf40
 have hS : Tryz.prog.underlying 60 = some (.struct (Tryz.prog.fieldsOf 60)) := by kernel_rfl
 have hP : Tryz.prog.stoodInHeld 60 = false := by kernel_rfl
 have hid := run_equalIn_bytes (P := Tryz.prog) w 9997 40 5 32 Tryz.underlying40 Tryz.underlying5 (fun w => by kernel_rfl) (p.1.map ub) (q.1.map ub) (by simpa using hp) (by simpa using hq)
 rw [map_cell, map_cell, map_ub_beq] at hid
 have e1 : ∀ p : Pt, p.1.length = 32 -> (partC p).take 32 = p.1.map U8 := fun p hp => by
  unfold partC keyC
  simp [hp]
 have e2 : ∀ p : Pt, p.1.length = 32 -> (partC p).toArray[32]? = some (.int .i64 (p.2 : Int)) := fun p hp => by
  unfold partC keyC
  rw [List.getElem?_toArray, List.getElem?_append_right (by simp [hp])]
  simp [hp]
 have hnb : (p != q) = !(p.1 == q.1 && p.2 == q.2) := by
  obtain ⟨p1, p2⟩ := p
  obtain ⟨q1, q2⟩ := q
  rfl
 rw [run_neq_struct, show (10000 : Nat) = 9999 + 1 from rfl, run_equalIn_agg w 9999 60 _ _ hS hP]
 simp only [Program.fieldsOf, Tryz.underlying60]
 go_simp
 have e3 : ((p.2 : Int) = (q.2 : Int)) = (p.2 = q.2) := propext (by omega)
 simp only [e3]
 by_cases h1 : p.1 = q.1 <;> by_cases h2 : p.2 = q.2 <;> simp [h1, h2]
theorem OwnsRows.texts {F : Nat -> Prop} {w : World} {B : Nat} {E : TypeId} {v : Value} {vs : List Value} {ls : Txts} (h : OwnsRows F w B E v vs ls) : ∃ a cap, v = .slice a ls.length cap /\ Texts w a cap ls := by
 obtain ⟨a, cap, e, h1, h2, h3⟩ := h.form
 refine ⟨a, cap, e, h2, h3, ?_⟩
 by_cases hn : ls = []
 ·exact .inl hn
 ·right
  obtain ⟨g, cap', x, c, e2, _⟩ := h.at_ (i := 0) (List.length_pos_iff.2 hn)
  rw [e] at e2
  injection e2 with e3 _ e4
  refine ⟨g, 0, e3, fun i hi => ?_⟩
  obtain ⟨g', cap'', x, c, e5, h5, h6, _⟩ := h.at_ hi
  rw [e, e3] at e5
  injection e5 with e6 _ _
  injection e6 with e6
  injection e6 with e6 _ _
  subst e6
  rw [Nat.zero_add]
  exact ⟨x, c, h5, h6⟩
theorem split_short (h : CutMath.Sh) (l : List (BitVec 8)) : ∀ c ∈ CutMath.split h l, c.length <= l.length := fun c hc => by
 have := (List.sublist_flatten_of_mem hc).length_le
 rwa [CutMath.split_join] at this
theorem split_few (h : CutMath.Sh) (l : List (BitVec 8)) : (CutMath.split h l).length <= l.length + 1 := by
 have := CutMath.feed_few h l []
 unfold CutMath.split
 rw [List.length_append]
 split <;> simp <;> omega
def PartsRel (w : World) (ls : Txts) (v i : Value) (wr : World) : Prop :=
 ∃ k : Nat, k <= ls.length /\ i = .int .i64 k /\ OwnsC partC 33 wr w.heap.size 60 v ((ls.take k).map partOf) /\ Below w.heap.size w wr
set_option maxRecDepth 100000 in
set_option maxHeartbeats 4000000 in
theorem refParts_any (h : CutMath.Sh) (g : h.Good) (a : Option Addr) (cap : Nat) (l : List (BitVec 8)) (w : World) (hr : Reads w a cap l) (hl : l.length <= 100000) :
  Calls Tryz.prog 11 #[shV h, .slice a l.length cap] w fun e w' => ∃ v, e = .returned v /\ OwnsC partC 33 w' w.heap.size 60 v (partsOf h l) /\ Below w.heap.size w w' := by
 have RS := fun (v : World) (hr : Reads v a cap l) => refSplit_any h g a cap l v hr (by omega)
 unfold shV shapeV at *
 have hb0 := (Below.refl w.heap.size w).alloc (Nat.le_refl _) (.cells #[.int .i64 h.L, .int .i64 h.M, .int .i64 h.K, .int .i64 h.W, U32 h.s] 24)
 have bx := box_cells w #[.int .i64 h.L, .int .i64 h.M, .int .i64 h.K, .int .i64 h.W, U32 h.s] 24
 have RS1 := RS _ (hr.keeps (Keeps.alloc w (.cells #[.int .i64 h.L, .int .i64 h.M, .int .i64 h.K, .int .i64 h.W, U32 h.s] 24)))
 clear RS hr
 go_enter Tryz.func11, Tryz.ntmps11
 have c0 := bx _ (Below.refl _ _) 0
 have c1 := bx _ (Below.refl _ _) 1
 have c2 := bx _ (Below.refl _ _) 2
 have c3 := bx _ (Below.refl _ _) 3
 have c4 := bx _ (Below.refl _ _) 4
 go_wp2_with fail
 generalize w.alloc (.cells #[.int .i64 h.L, .int .i64 h.M, .int .i64 h.K, .int .i64 h.W, U32 h.s] 24) = w1 at *
 refine RS1.mono ?_
 rintro e w2 ⟨sv, svs, rfl, srows, hb2⟩
 obtain ⟨sa, sc, rfl, hT⟩ := srows.texts
 have hb02 := hb0.trans (hb2.mono hb0.size)
 have hfit := hT.fits
 have hroom := hT.room
 have HSH := Lib.hid (fun c hc => split_short h l c hc)
 have HFEW := Lib.hid (split_few h l)
 have HT := Lib.hid hT
 have HB0 := Lib.hid hb02
 have HS2 := Lib.hid hb02.size
 clear srows hT hb2 RS1 hb0 hb02 bx c0 c1 c2 c3 c4
 have HPO := Lib.hid (show partsOf h l = (CutMath.split h l).map partOf from rfl)
 generalize CutMath.split h l = ls at *
 go_wp2_with fail
 go_loopw [5, 8] (fun v i wr => PartsRel w2 ls v i wr) (fun _ i _ => ls.length - (intOf i).toNat)
 case atStart => exact ⟨0, Nat.zero_le _, rfl, ownsC_nil _ _ _, Below.refl _ _⟩
 case round =>
  obtain ⟨k, hk, rfl, HO, hbr⟩ := hrel
  by_cases hlt : k < ls.length
  ·obtain ⟨b, off, rfl, hrows⟩ := HT.out.rows.resolve_left (fun e => by rw [e] at hlt; simp at hlt)
   obtain ⟨x, c, hcell, hreads⟩ := hrows k hlt
   have hsn : (ls.take (k + 1)).map partOf = (ls.take k).map partOf ++ [partOf (txt ls k)] := by
    rw [List.take_succ_eq_append_getElem hlt, List.map_append, txt_lt hlt]; rfl
   have hfl : ((ls.take k).map partOf).length <= 100000 := by rw [List.length_map, List.length_take]; have := HFEW.out; omega
   have hml : (txt ls k).length <= 1000000 := by rw [txt_lt hlt]; have := HSH.out _ (List.getElem_mem hlt); omega
   have HFL := Lib.hid hfl
   have HSN := Lib.hid hsn
   have HO1 := Lib.hid HO
   have HBR := Lib.hid hbr
   have hcl : ∀ y : Later w2, y.to.cell? ⟨b, off + k, none⟩ = some (.slice x (txt ls k).length c) := fun y => Keeps.below y.below _ _ hcell
   have hreads := hreads.keeps (Keeps.below hbr)
   clear hsn HO hbr hrows hfl hcell
   generalize txt ls k = m at *
   generalize (ls.take k).map partOf = FL at *
   go_wp2_with fail
   refine wp_region_plan [([0, 1, 2, 3, 4, 6, 7, 8, 9, 10], some 5), ([11], some 12), ([], some 13), ([14], none)] (fun w' => ∃ y : Later w2, w' = y.to) (by kernel_rfl) (by kernel_rfl) (fun _ _ d _ _ h => by cases d <;> exact h) (later_of HBR.out.drew) ?_
   refine plan_some (show wpQuiet _ _ _ _ (_ :: _ :: _ :: _ :: _ :: _ :: _ :: _ :: _ :: _ :: []) _ from ?_)
   repeat (go_big_quiet_step (fail))
   refine wpQuiet_nil (show wpList _ _ _ (_ :: []) _ _ from ?_)
   have hr1 := hreads.keeps (Keeps.drewN wr 1)
   have hb1 := (Below.refl wr.heap.size wr).drew
   have RS := rsum_any x c m wr.drew hr1 hml
   generalize hw : wr.drew = w3 at *
   clear hw hr1
   go_wp2_with fail
   refine RS.mono ?_
   rintro e w4 ⟨rfl, hb4'⟩
   have hb4 := hb1.trans (hb4'.mono hb1.size)
   have hkl := sum_length m
   have hlen : (keyC (Sha.sum m)).length = 32 := by unfold keyC; rw [List.length_map]; exact hkl
   have BP := built_part (keyC (Sha.sum m)) hlen m.length
   have hkc : keyC (Sha.sum m) = (Sha.sum m).map U8 := rfl
   have hpc : partC (partOf m) = keyC (Sha.sum m) ++ ([.int .i64 (m.length : Int)] : List Value) := rfl
   have hones := one_partC (partOf m)
   have hpl : (partC (partOf m)).length = 33 := partC_len hkl
   rw [hpc] at hones hpl
   rw [hkc] at BP hpc hones hpl
   have HPC := Lib.hid hpc
   have HON := Lib.hid hones
   have HPL := Lib.hid hpl
   have HB4 := Lib.hid hb4
   clear hkc hlen hkl hpc hones hpl hb4' hb4 RS hb1
   generalize (Sha.sum m).map U8 = C at *
   obtain ⟨D, hD⟩ : ∃ D, C ++ ([.int .i64 (m.length : Int)] : List Value) = D := ⟨_, rfl⟩
   rw [hD] at BP HPC HON HPL
   clear hD
   go_wp2_with fail
   refine late_normal (fun _ h => h) (later_of (HBR.out.trans (HB4.out.mono HBR.out.size))) ?_
   refine plan_some (show wpQuiet _ _ _ _ (_ :: []) _ from ?_)
   go_big_quiet_want
   refine quiet_built 60 _ rfl D.toArray (by go_simp) ?_
   simp only [Act.put, List.setIfInBounds_toArray, List.set_cons_succ, List.set_cons_zero]
   go_big_quiet_on
   refine wpQuiet_nil (show wpList _ _ _ (_ :: []) _ _ from ?_)
   have HO4 := Lib.hid (HO1.out.below HB4.out)
   have HS4 := Lib.hid HB4.out.size
   refine wpList_lit_c Tryz.underlying35 part_info part_zsize rfl _ rfl D rfl HPL.out (by decide) (by decide) ?_
   have nA := (Below.refl w4.heap.size w4).alloc (Nat.le_refl _) (.cells D.toArray 60)
   have rA := rangeAt_row (heap_alloc_new w4 (.cells D.toArray 60))
   rw [List.toList_toArray] at rA
   have HBA := Lib.hid (HB4.out.trans (nA.mono HS4.out))
   have HOA := Lib.hid (HO4.out.below nA)
   have HSA := Lib.hid nA.size
   have hAD := fun (j : Nat) (u : Value) (e : D[j]? = some u) => (show (w4.alloc (.cells D.toArray 60)).cell? ((⟨w4.heap.size, 0, none⟩ : Addr).add j) = some u by rw [Addr.add_lit]; exact rA j u e)
   have HAD := Lib.hid hAD
   clear nA rA hAD
   generalize w4.alloc (.cells D.toArray 60) = w5 at *
   go_wp2_with fail
   refine late_normal (fun _ h => h) (later_of (HBR.out.trans (HBA.out.mono HBR.out.size))) ?_
   refine plan_some (show wpQuiet _ _ _ _ [] _ from ?_)
   refine wpQuiet_nil (show wpList _ _ _ (_ :: []) _ _ from ?_)
   refine wpList_append_c Tryz.underlying35 part_info part_zsize (by decide) rfl _ _ rfl w2.heap.size _ FL rfl HOA.out (partOf m) ⟨w4.heap.size, 0, none⟩ 1 rfl (fun j u e => HAD.out j u (by rw [<- HPC.out]; exact e)) (by rw [HPC.out]; exact HON.out) (by rw [HPC.out]; exact HPL.out) (by have := HFL.out; omega) (by decide) (Nat.le_trans HBR.out.size HBA.out.size) ?_
   intro v6 w6 HO6 hg6 _
   have t6 := (Touch.of_grown (F := fun q => Value.ownBlock u5 = some q) hg6 fun q hq => hq)
   have HB6 := Lib.hid (touch_own (HBR.out.trans (HBA.out.mono HBR.out.size)) (Nat.le_refl _) HOA.out t6)
   have HOF := Lib.hid HO6
   clear t6 hg6 HO6
   go_wp2_with fail
   refine late_normal (fun _ h => h) (later_of HB6.out) ?_
   refine plan_none (show wpQuiet _ _ _ _ (_ :: []) _ from ?_)
   repeat (go_big_quiet_step (fail))
   refine wpQuiet_nil (plan_nil ?_)
   go_wp2
   go_roundw
   case rel => exact ⟨k + 1, by omega, by go_num, by rw [HSN.out]; exact HOF.out, HB6.out⟩
   case measure => simp [intOf]; omega
  ·obtain rfl : k = ls.length := by omega
   rw [List.take_length] at HO
   have HO1 := Lib.hid HO
   have HBR := Lib.hid hbr
   clear HO hbr
   go_wp2
   go_ret
   exact ⟨_, rfl, by rw [HPO.out]; exact HO1.out.mono HS2.out, HB0.out.trans (HBR.out.mono HS2.out)⟩
def SamPRel (w : World) (n : Nat) (x : Value) (wr : World) : Prop := ∃ i : Nat, i <= n /\ x = .int .i64 i /\ Below w.heap.size w wr
set_option maxHeartbeats 2000000 in
theorem sameParts_any (w : World) (a a2 : Option Addr) (cap cap2 : Nat) (L : List Pt) (hk : ∀ k ∈ L, k.1.length = 32) (hr1 : RowsC partC 33 w a cap L) (hr2 : RowsC partC 33 w a2 cap2 L) :
  Calls Tryz.prog 10 #[.slice a L.length cap, .slice a2 L.length cap2] w fun e w' => e = .returned (.bool true) /\ Below w.heap.size w w' := by
 have hfit1 := hr1.fits
 have hroom1 := hr1.room
 have hfit2 := hr2.fits
 have hroom2 := hr2.room
 have HR1 := Lib.hid hr1
 have HR2 := Lib.hid hr2
 have HK := Lib.hid hk
 clear hr1 hr2 hk
 go_enter Tryz.func10, Tryz.ntmps10
 go_wp2_with fail
 go_loopw [5] (fun y wr => SamPRel w L.length y wr) (fun y _ => L.length - (intOf y).toNat)
 case atStart => exact ⟨0, Nat.zero_le _, rfl, Below.refl _ _⟩
 case round =>
  obtain ⟨i, hi, rfl, hbr⟩ := hrel
  by_cases hlt : i < L.length
  ·have hne : L ≠ [] := fun e => by rw [e] at hlt; simp at hlt
   obtain ⟨b1, o1, rfl, hrow1⟩ := (HR1.out.below hbr).rows.resolve_left hne
   obtain ⟨b2, o2, rfl, hrow2⟩ := (HR2.out.below hbr).rows.resolve_left hne
   have hkey := HK.out L[i] (List.getElem_mem hlt)
   have hm1 : wr.rangeAt b1 (o1 + i * 33) (partC L[i]) := hrow1 i hlt
   have hm2 : wr.rangeAt b2 (o2 + i * 33) (partC L[i]) := hrow2 i hlt
   have hiM : (Tryz.prog.info? 60).map (·.size) = some (partC L[i]).length := by rw [partC_len hkey]; kernel_rfl
   have HNE := fun w => run_neq_part L[i] L[i] hkey hkey w
   rw [bne_self_eq_false] at HNE
   have HBR := Lib.hid hbr
   clear hrow1 hrow2 hkey hbr hne
   generalize partC L[i] = M at *
   go_wp2_with fail
   refine wp_region_quiet_lit (by kernel_rfl) (by kernel_rfl) ?_
   repeat (first
    |(go_big_quiet_want; refine quiet_mid_of (fun w' e => (show w'.rangeAt b1 (o1 + i * 33) M from by obtain ⟨_, rfl⟩ := e; exact hm1)) Tryz.underlying60 rfl hiM rfl rfl ?_; simp only [Act.put, List.setIfInBounds_toArray, List.set_cons_succ, List.set_cons_zero]; go_big_quiet_on)
    |(go_big_quiet_want; refine quiet_mid_of (fun w' e => (show w'.rangeAt b2 (o2 + i * 33) M from by obtain ⟨_, rfl⟩ := e; exact hm2)) Tryz.underlying60 rfl hiM rfl rfl ?_; simp only [Act.put, List.setIfInBounds_toArray, List.set_cons_succ, List.set_cons_zero]; go_big_quiet_on)
    | go_big_quiet_step (fail)
    | quiet_step (fail))
   refine wpQuiet_nil ?_
   rintro _ ⟨nq, rfl⟩
   have HB5 := Lib.hid (below_drewN HBR.out nq)
   clear HNE hm1 hm2
   go_wp2
   go_roundw
   case rel => exact ⟨i + 1, by omega, by go_num, HB5.out⟩
   case measure => simp [intOf]; omega
  ·obtain rfl : i = L.length := by omega
   go_wp2
   go_ret
   exact ⟨rfl, hbr⟩
end Go.Proofs.YtbicafgmfgdckaaGreatDoor
