/- A cutter's Write: what it gives. -/
import Derived.Test.YtbjaeofooaikkaaCutPut
namespace Go.Proofs.Ytbjaeofooaikkaa
open Go Go.RowKit

/-- The cutter's blocks now, and what was there ahead of the call beside the cutter's blocks of then. -/
def WF (w : World) (b r : Nat) (v0 v : Value) (k : Nat) : Prop := Foot b r v k ∨ (k < w.heap.size ∧ ¬ Foot b r v0 k)
structure WriteInv (w : World) (B b r : Nat) (v0 : Value) (h : CutMath.Sh) (held l : List (BitVec 8)) (k : Nat) (v ov : Value) (vs : List Value) (wr : World) : Prop where
  le : k ≤ l.length
  cut : Cutter wr B b r v h (CutMath.feed h held (l.take k)).2
  rows : OwnsRows (WF w b r v0 v) wr B 25 ov vs (CutMath.feed h held (l.take k)).1
  touch : Touch (Foot b r v0) w wr
  foot : ∀ q, Foot b r v q → Foot b r v0 q ∨ w.heap.size ≤ q
theorem feed_take (h : CutMath.Sh) (held l : List (BitVec 8)) (k : Nat) (hk : k < l.length) :
    CutMath.feed h held (l.take (k + 1)) = if CutMath.ends h ((CutMath.feed h held (l.take k)).2 ++ [byteAt l k]) then ((CutMath.feed h held (l.take k)).1 ++ [(CutMath.feed h held (l.take k)).2 ++ [byteAt l k]], []) else ((CutMath.feed h held (l.take k)).1, (CutMath.feed h held (l.take k)).2 ++ [byteAt l k]) := by
  rw [take_snoc l k hk, CutMath.feed_snoc]
theorem foot_mono {b r : Nat} {v v' : Value} {n k : Nat} (hb : v'.ownBlock = v.ownBlock ∨ ∃ q, v'.ownBlock = some q ∧ n ≤ q) (hk : Foot b r v' k) : Foot b r v k ∨ n ≤ k := by
  rcases hk with e | e | e
  · exact .inl (.inl e)
  · exact .inl (.inr (.inl e))
  · rcases hb with e2 | ⟨q, e2, e3⟩
    · exact .inl (.inr (.inr (e2 ▸ e)))
    · rw [e] at e2; injection e2 with e2; exact .inr (by omega)
theorem foot_nil {b r : Nat} {v : Value} {k : Nat} (hk : Foot b r (.slice none 0 0) k) : Foot b r v k := by
  rcases hk with e | e | e
  · exact .inl e
  · exact .inr (.inl e)
  · simp [Value.ownBlock] at e
theorem foot_nil' {b r : Nat} {k : Nat} (hk : Foot b r (.slice none 0 0) k) : k = b ∨ k = r := by
  rcases hk with e | e | e
  · exact .inl e
  · exact .inr e
  · simp [Value.ownBlock] at e
section
variable {w wr w2 w3 w5 : World} {B b r : Nat} {v0 v v' ov ov' : Value} {h : CutMath.Sh} {held l : List (BitVec 8)} {k : Nat} {vs : List Value}
theorem WriteInv.no (i : WriteInv w B b r v0 h held l k v ov vs wr) (hk : k < l.length) (he : CutMath.ends h ((CutMath.feed h held (l.take k)).2 ++ [byteAt l k]) = false)
    (c : Cutter w2 B b r v' h ((CutMath.feed h held (l.take k)).2 ++ [byteAt l k])) (t : Touch (Foot b r v) wr w2) (hb : v'.ownBlock = v.ownBlock ∨ ∃ q, v'.ownBlock = some q ∧ wr.heap.size ≤ q) :
    WriteInv w B b r v0 h held l (k + 1) v' ov vs w2 := by
  have hf := feed_take h held l k hk
  rw [he, if_neg (by simp)] at hf
  have hs := i.touch.size
  refine ⟨by omega, by rw [hf]; exact c, ?_, i.touch.trans' t i.foot, fun q hq => ?_⟩
  · rw [hf]
    refine (i.rows.less (G := fun q => WF w b r v0 v' q ∨ Foot b r v q) ?_).touch (t.mono fun q e => .inr e) |>.less fun q e => .inl (.inl e)
    rintro q ((e | e) | e)
    · rcases foot_mono hb e with e2 | e2
      · exact .inl (.inl e2)
      · exact .inr e2
    · exact .inl (.inr e)
    · exact .inl (.inl e)
  · rcases foot_mono hb hq with e | e
    · exact i.foot q e
    · exact .inr (by omega)
/-- What take left, and the chunk. -/
theorem WriteInv.yes (i : WriteInv w B b r v0 h held l k v ov vs wr) (hk : k < l.length) (he : CutMath.ends h ((CutMath.feed h held (l.take k)).2 ++ [byteAt l k]) = true)
    (c : Cutter w2 B b r v' h ((CutMath.feed h held (l.take k)).2 ++ [byteAt l k])) (t : Touch (Foot b r v) wr w2) (hb : v'.ownBlock = v.ownBlock ∨ ∃ q, v'.ownBlock = some q ∧ wr.heap.size ≤ q)
    (c3 : Cutter w3 B b r (.slice none 0 0) h []) (ho : Owns w3 B 5 v' ((CutMath.feed h held (l.take k)).2 ++ [byteAt l k])) (t3 : Touch (Foot b r (.slice none 0 0)) w2 w3)
    (h1 : w5.ownsRow B 25 1 ov' ((CutMath.feed h held (l.take k)).1.length + 1) (vs ++ [v'])) (hg : (w3.alloc (.cells #[v'] 25)).grownBy w5 ov.ownBlock) (hb5 : ov'.ownBlock = ov.ownBlock ∨ ov'.ownBlock = some (w3.alloc (.cells #[v'] 25)).heap.size) :
    WriteInv w B b r v0 h held l (k + 1) (.slice none 0 0) ov' (vs ++ [v']) w5 := by
  have hf := feed_take h held l k hk
  rw [he, if_pos rfl] at hf
  have hs := i.touch.size
  have rows2 : OwnsRows (fun q => WF w b r v0 v' q ∨ Foot b r v q) w2 B 25 ov vs (CutMath.feed h held (l.take k)).1 := by
    refine (i.rows.less ?_).touch (t.mono fun q e => .inr e)
    rintro q ((e | e) | e)
    · rcases foot_mono hb e with e2 | e2
      · exact .inl (.inl e2)
      · exact .inr e2
    · exact .inl (.inr e)
    · exact .inl (.inl e)
  have rows3 : OwnsRows (fun q => WF w b r v0 (.slice none 0 0) q ∨ v'.ownBlock = some q) w3 B 25 ov vs (CutMath.feed h held (l.take k)).1 := by
    refine (rows2.touch (t3.mono fun q e => .inl (.inl (foot_nil e)))).less ?_
    rintro q ((e | e) | e)
    · exact .inl (.inl (.inl (foot_nil e)))
    · exact .inl (.inl (.inr e))
    · exact .inl (.inl (.inl (.inr (.inr e))))
  have t4 : Touch (fun _ => False) w3 (w3.alloc (.cells #[v'] 25)) := (Touch.refl _ _).alloc _
  have rows4 : OwnsRows (WF w b r v0 (.slice none 0 0)) (w3.alloc (.cells #[v'] 25)) B 25 ov vs (CutMath.feed h held (l.take k)).1 :=
    (rows3.less (fun q e => .inl (.inl e))).touch (t4.mono fun _ f => f.elim)
  have hov : ∀ q, ov.ownBlock = some q → ¬ (q = b ∨ q = r) := fun q hq e => rows4.out q hq (.inl (e.elim .inl fun e => .inr (.inl e)))
  have t5 : Touch (fun q => ov.ownBlock = some q) (w3.alloc (.cells #[v'] 25)) w5 := .of_grown hg fun q hq => hq
  have tl : Touch (Foot b r v0) w w3 := (i.touch.trans' t i.foot).trans' t3 fun q e => .inl (by
    rcases foot_nil' e with rfl | rfl
    · exact .inl rfl
    · exact .inr (.inl rfl))
  have hvo : ∀ q, v'.ownBlock = some q → ¬ WF w b r v0 (.slice none 0 0) q := by
    rintro q hq (e | e)
    · rcases foot_nil' e with rfl | rfl
      · exact c.vb hq
      · exact c.vr hq
    · rcases foot_mono hb (b := b) (r := r) (.inr (.inr hq)) with e2 | e2
      · rcases i.foot q e2 with e3 | e3
        · exact e.2 e3
        · have := e.1; omega
      · have := e.1; omega
  have hov0 : ∀ q, ov.ownBlock = some q → Foot b r v0 q ∨ w.heap.size ≤ q := fun q hq => by
    by_cases hlt : q < w.heap.size
    · by_cases hf0 : Foot b r v0 q
      · exact .inl hf0
      · exact (rows4.out q hq (.inr ⟨hlt, hf0⟩)).elim
    · exact .inr (by omega)
  have ch : Chunk (WF w b r v0 (.slice none 0 0)) (w3.alloc (.cells #[v'] 25)) v' ((CutMath.feed h held (l.take k)).2 ++ [byteAt l k]) := by
    obtain ⟨a, cap, e, rd⟩ := ho.reads
    refine ⟨a, cap, e, t4.reads rd fun _ _ f => f, fun ad e2 => ?_⟩
    subst e2
    have hq : ∃ g, v'.ownBlock = some g ∧ g = ad.block := by
      rcases ho.2 with ⟨e3, _⟩ | ⟨g, cap3, cur, e3, _⟩
      · rw [e3] at e; injection e with e _ _; cases e
      · rw [e3] at e
        injection e with e _ _
        injection e with e
        exact ⟨g, by rw [e3]; rfl, by rw [← e]⟩
    obtain ⟨q, hq, rfl⟩ := hq
    exact ⟨hvo _ hq, Nat.lt_of_lt_of_le (row_lt ho hq).2 (by simp)⟩
  refine ⟨by omega, ?_, ?_, (tl.trans (t4.mono fun _ f => f.elim)).trans' t5 hov0, ?_⟩
  · rw [hf]
    refine (c3.touch t4 fun _ _ f => f).touch t5 fun q e => ?_
    intro hq
    exact hov q hq (foot_nil' e)
  · rw [hf]
    refine rows4.snoc ch ?_ h1 hg hb5 ?_
    · rintro q (e | e)
      · have := (c3.foot_lt e).2; simp; omega
      · have := tl.size; simp; omega
    · intro ad n cp e hv
      obtain ⟨q, hq⟩ : ∃ q, v'.ownBlock = some q := by
        rcases ho.2 with ⟨e3, h0⟩ | ⟨g, cap3, cur, e3, _⟩
        · simp at h0
        · exact ⟨g, by rw [e3]; rfl⟩
      have e4 : q = ad.block := by
        rcases ho.2 with ⟨e3, h0⟩ | ⟨g, cap3, cur, e3, _⟩
        · simp at h0
        · rw [e3] at e hq
          injection e with e _ _
          injection e with e
          simp only [Value.ownBlock, Option.some.injEq] at hq
          rw [← hq, ← e]
      exact rows3.out ad.block hv (.inr (by rw [hq, e4]))
  · intro q hq
    rcases foot_nil' hq with rfl | rfl
    · exact .inl (.inl rfl)
    · exact .inl (.inr (.inl rfl))
end
/-- What Write gives: the chunks that ended, and the cutter with what is held. -/
def Writes (B b r : Nat) (v0 : Value) (h : CutMath.Sh) (held l : List (BitVec 8)) (w : World) (e : Ending) (w' : World) : Prop :=
  ∃ v ov vs, e = .returned ov ∧ Cutter w' B b r v h (CutMath.feed h held l).2 ∧ OwnsRows (WF w b r v0 v) w' B 25 ov vs (CutMath.feed h held l).1 ∧ Touch (Foot b r v0) w w' ∧ ∀ q, Foot b r v q → Foot b r v0 q ∨ w.heap.size ≤ q
def WriteRel (w : World) (B b r : Nat) (v0 : Value) (h : CutMath.Sh) (held l : List (BitVec 8)) (ov i : Value) (wr : World) : Prop :=
  ∃ k v vs, i = .int .i64 (k : Nat) ∧ WriteInv w B b r v0 h held l k v ov vs wr
set_option maxHeartbeats 800000 in
theorem cutWrite_some {w : World} {B b r : Nat} {v0 : Value} {h : CutMath.Sh} {held : List (BitVec 8)} (g : h.Good) (c : Cutter w B b r v0 h held) (hB : B ≤ w.heap.size) (hop : CutMath.Open h held)
    (g0 off cap : Nat) (l : List (BitVec 8)) (hl : l.length ≤ 1048576) (hby : BytesAt w g0 off l) (hoff : ¬ Foot b r v0 g0) :
    Calls Try.prog 22 #[.pointer (some ⟨b, 0, none⟩), .slice (some ⟨g0, off, none⟩) l.length cap] w (Writes B b r v0 h held l w) := by
  have OK := cutOk_any c.at_
  have i0 : WriteInv w B b r v0 h held l 0 v0 (.slice none 0 0) [] w := ⟨Nat.zero_le _, c, ownsRows_nil _ _ _ _, Touch.refl _ _, fun q hq => .inl hq⟩
  have HL := Lib.hid hl
  go_enter Try.func22, Try.ntmps22
  go_wp2_with fail
  refine OK.mono ?_
  rintro e w' ⟨rfl, rfl⟩
  go_wp2
  go_loopw [5, 13] (fun ov i wr => WriteRel w B b r v0 h held l ov i wr) (fun _ i _ => l.length - (intOf i).toNat)
  case atStart => exact ⟨0, v0, [], rfl, i0⟩
  case round =>
    clear i0 OK
    obtain ⟨k, v, vs, rfl, i⟩ := hrel
    by_cases hlt : k < l.length
    · have hc := i.touch.bytes hby hoff k hlt
      have hbnd := CutMath.open_lt g (CutMath.feed_open h (l.take k) held hop)
      have hM := g.m
      have hBr := Nat.le_trans hB i.touch.size
      have PU := cutPut_any g i.cut (by omega) hBr (byteAt l k)
      have hfew := CutMath.feed_few h (l.take k) held
      have hlk : (l.take k).length ≤ k := List.length_take_le _ _
      generalize hx : byteAt l k = x at *
      clear hbnd hM
      go_wp2_with fail
      refine PU.mono ?_
      rintro e w2 ⟨v', rfl, c2, t2, hb2⟩
      subst hx
      cases he : CutMath.ends h ((CutMath.feed h held (l.take k)).2 ++ [byteAt l k])
      · have i2 := i.no hlt he c2 t2 hb2
        have HI := Lib.hid i2
        clear i2 i c c2 t2 hb2 he PU hc hfew hlk
        go_wp2
        go_roundw
        case rel => exact ⟨k + 1, _, _, by go_num, HI.out⟩
        case measure => simp [intOf]; omega
      · have TK := cutTake_any c2
        have HE := Lib.hid he
        clear he PU hc
        go_wp2_with fail
        refine TK.mono ?_
        rintro e w3 ⟨rfl, c3, ho3, t3⟩
        obtain ⟨a', cp', rfl⟩ := row_form ho3
        generalize hn' : ((CutMath.feed h held (l.take k)).2 ++ [byteAt l k]).length = n' at *
        have t4 : Touch (fun _ => False) w3 (w3.alloc (.cells #[.slice a' n' cp'] 25)) := (Touch.refl _ _).alloc _
        have hrow := t4.row (t3.row (t2.row i.rows.row fun q hq e => i.rows.out q hq (.inl e)) fun q hq e => by
          rcases foot_nil' e with rfl | rfl
          · exact i.rows.out q hq (.inl (.inl rfl))
          · exact i.rows.out _ hq (.inl (.inr (.inl rfl)))) fun _ _ f => f
        have hcell : (w3.alloc (.cells #[.slice a' n' cp'] 25)).cell? ⟨w3.heap.size, 0, none⟩ = some (.slice a' n' cp') := alloc_cell w3 _ _ 0
        have hsz : B ≤ (w3.alloc (.cells #[.slice a' n' cp'] 25)).heap.size := by
          have h1 := t2.size
          have h2 := t3.size
          simp; omega
        have HI := Lib.hid i
        have HC := Lib.hid c2
        have HT := Lib.hid t2
        have HB := Lib.hid hb2
        have H3 := Lib.hid c3
        have HO := Lib.hid ho3
        have HT3 := Lib.hid t3
        have HN := Lib.hid hn'
        clear i c c2 t2 hb2 c3 ho3 t3 t4 hn' TK hby hoff
        go_wp2_with (at_builtin; refine wpList_append_elem rowsElem rfl _ _ rfl B u5 (CutMath.feed h held (l.take k)).1.length vs rfl hrow ⟨w3.heap.size, 0, none⟩ 1 (.slice a' n' cp') rfl hcell rfl (by omega) (by omega) hsz ?_; intro ov' w5 h1 hg hb5)
        go_roundw
        case rel => exact ⟨k + 1, _, _, by go_num, HI.out.yes hlt HE.out HC.out HT.out HB.out H3.out HO.out HT3.out h1 hg hb5⟩
        case measure => simp [intOf]; omega
    · have hk := i.le
      obtain rfl : k = l.length := by omega
      have h1 := i.cut
      have h2 := i.rows
      rw [List.take_length] at h1 h2
      have HI := Lib.hid i
      have H1 := Lib.hid h1
      have H2 := Lib.hid h2
      clear i h1 h2 hby c
      go_wp2
      go_ret
      exact ⟨v, _, vs, rfl, H1.out, H2.out, HI.out.touch, HI.out.foot⟩
theorem cutWrite_none {w : World} {B b r : Nat} {v0 : Value} {h : CutMath.Sh} {held : List (BitVec 8)} (c : Cutter w B b r v0 h held) (a : Option Addr) (cap : Nat) :
    Calls Try.prog 22 #[.pointer (some ⟨b, 0, none⟩), .slice a 0 cap] w (Writes B b r v0 h held [] w) := by
  have OK := cutOk_any c.at_
  have HC := Lib.hid c
  clear c
  go_enter Try.func22, Try.ntmps22
  go_wp2_with fail
  refine OK.mono ?_
  rintro e w' ⟨rfl, rfl⟩
  go_wp2
  refine wp_loop_once ?_
  go_wp2
  go_ret
  exact ⟨v0, _, [], rfl, HC.out, ownsRows_nil _ _ _ _, Touch.refl _ _, fun q hq => .inl hq⟩
theorem cutWrite_any {w : World} {B b r : Nat} {v0 : Value} {h : CutMath.Sh} {held : List (BitVec 8)} (g : h.Good) (c : Cutter w B b r v0 h held) (hB : B ≤ w.heap.size) (hop : CutMath.Open h held)
    (a : Option Addr) (cap : Nat) (l : List (BitVec 8)) (hl : l.length ≤ 1048576) (hr : Reads w a cap l) (hoff : l ≠ [] → ∀ ad, a = some ad → ¬ Foot b r v0 ad.block) :
    Calls Try.prog 22 #[.pointer (some ⟨b, 0, none⟩), .slice a l.length cap] w (Writes B b r v0 h held l w) := by
  by_cases hne : l = []
  · subst hne; exact cutWrite_none c a cap
  · rcases hr.bytes with e | ⟨g0, off, rfl, hb⟩
    · exact (hne e).elim
    · exact cutWrite_some g c hB hop g0 off cap l hl hb (hoff hne _ rfl)
end Go.Proofs.Ytbjaeofooaikkaa
