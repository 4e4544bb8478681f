/- The law's walk: CutPieces. -/
import Derived.Test.YtbjaeofooaikkaaCutJoinsW
namespace Go.Proofs.Ytbjaeofooaikkaa
open Go Go.RowKit

theorem getD_append_left {vs xs : List Value} {i : Nat} (h : i < vs.length) : (vs ++ xs).getD i undef = vs.getD i undef := by simp [List.getD_eq_getElem?_getD, List.getElem?_append_left h]
theorem getD_append_right {vs xs : List Value} {i : Nat} (h : vs.length ≤ i) : (vs ++ xs).getD i undef = xs.getD (i - vs.length) undef := by simp [List.getD_eq_getElem?_getD, List.getElem?_append_right h]
theorem rgetD_append_left {vs xs : Rows} {i : Nat} (h : i < vs.length) : (vs ++ xs).getD i [] = vs.getD i [] := by simp [List.getD_eq_getElem?_getD, List.getElem?_append_left h]
theorem rgetD_append_right {vs xs : Rows} {i : Nat} (h : vs.length ≤ i) : (vs ++ xs).getD i [] = xs.getD (i - vs.length) [] := by simp [List.getD_eq_getElem?_getD, List.getElem?_append_right h]
/-- Rows behind rows. -/
theorem OwnsRows.join {F : Nat → Prop} {w w' : World} {B B2 : Nat} {E : TypeId} {v v' x : Value} {vs xs : List Value} {ls ms : Rows} (h : OwnsRows F w B E v vs ls) (hx : OwnsRows F w B2 E x xs ms) (hF : ∀ k, F k → k < w.heap.size)
    (h1 : w'.ownsRow B E 1 v' (ls.length + ms.length) (vs ++ xs)) (hg : w.grownBy w' v.ownBlock) (hb : v'.ownBlock = v.ownBlock ∨ v'.ownBlock = some w.heap.size) (hnx : ∀ i ad n c, i < ms.length → xs.getD i undef = .slice (some ad) n c → v.ownBlock ≠ some ad.block) :
    OwnsRows F w' B E v' (vs ++ xs) (ls ++ ms) := by
  have t : Touch (fun k => v.ownBlock = some k) w w' := .of_grown hg fun k hk => hk
  have keep : ∀ (u : Value) (m : List (BitVec 8)), Chunk F w u m → (∀ ad n c, u = .slice (some ad) n c → v.ownBlock ≠ some ad.block) → Chunk F w' u m := by
    intro u m hc hn
    obtain ⟨a, cap, e, r, f⟩ := hc
    refine ⟨a, cap, e, ?_, fun ad e => ⟨(f ad e).1, Nat.lt_of_lt_of_le (f ad e).2 hg.size⟩⟩
    exact t.reads r fun ad e2 => by subst e2; exact hn ad _ _ e
  have hvl := h.len
  have hxl := hx.len
  have old : ∀ i ad n c, i < ls.length + ms.length → (vs ++ xs).getD i undef = .slice (some ad) n c → v.ownBlock ≠ some ad.block ∧ ad.block < w.heap.size := by
    intro i ad n c hi e
    by_cases hlt : i < ls.length
    · rw [getD_append_left (by omega)] at e
      obtain ⟨a, cap, e2, _, f⟩ := h.chunk i hlt
      refine ⟨h.apart i ad n c hlt e, ?_⟩
      rw [e] at e2; injection e2 with e4; exact (f ad e4.symm).2
    · rw [getD_append_right (by omega)] at e
      obtain ⟨a, cap, e2, _, f⟩ := hx.chunk (i - vs.length) (by omega)
      refine ⟨hnx _ ad n c (by omega) e, ?_⟩
      rw [e] at e2; injection e2 with e4; exact (f ad e4.symm).2
  refine ⟨by rw [List.length_append]; exact h1, by rw [List.length_append, List.length_append, hvl, hxl], ?_, ?_, ?_⟩
  · intro k hk hf
    rcases hb with e | e
    · exact h.out k (by rw [← e]; exact hk) hf
    · rw [e] at hk; injection hk with hk; subst hk; have := hF _ hf; omega
  · intro i hi
    rw [List.length_append] at hi
    by_cases hlt : i < ls.length
    · rw [getD_append_left (by omega), rgetD_append_left hlt]
      exact keep _ _ (h.chunk i hlt) fun ad n c e => h.apart i ad n c hlt e
    · rw [getD_append_right (by omega), rgetD_append_right (by omega), hvl]
      exact keep _ _ (hx.chunk (i - ls.length) (by omega)) fun ad n c e => hnx _ ad n c (by omega) e
  · intro i ad n c hi e hv
    rw [List.length_append] at hi
    obtain ⟨o1, o2⟩ := old i ad n c hi e
    rcases hb with e2 | e2
    · rw [e2] at hv; exact o1 hv
    · rw [e2] at hv; injection hv with hv; omega
/-- 'append(s, x...)' of rows. -/
theorem wpList_append_rows {P : Program} {w : World} {ops : Array Oper} {rest : List Oper} {o : Oper} {act : Act} {Q : Exit → Act → World → Prop} {t e : TypeId} {z : Value} {bytes : Nat} (T : Elem P t e z bytes)
    (hgd : o.guard = none) (s x : Operand) (ho : o.op = .call { callee := .builtin .append, args := #[s, x], argTypes := #[t, t] })
    (B : Nat) (v : Value) (n : Nat) (xs : List Value) (hs : act.eval s = v) (hown : w.ownsRow B e 1 v n xs)
    {F : Nat → Prop} {B2 : Nat} (xv : Value) (ys : List Value) (ms : Rows) (hx : act.eval x = xv) (hrow : OwnsRows F w B2 e xv ys ms)
    (hlen : n + ms.length ≤ 9223372036854775807) (hby : (n + ms.length) * bytes ≤ 140737488355328) (hbase : B ≤ w.heap.size)
    (h : ∀ v' w', w'.ownsRow B e 1 v' (n + ms.length) (xs ++ ys) → w.grownBy w' v.ownBlock → (v'.ownBlock = v.ownBlock ∨ v'.ownBlock = some w.heap.size) → wpList P ops Q rest (act.put o.dst v') w') : wpList P ops Q (o :: rest) act w := by
  obtain ⟨i, hi, hz0, hz1, hz2⟩ := info_parts T.info
  rcases hrow.row.2 with ⟨rfl, h0⟩ | ⟨g, cap, cur, rfl, hbg, hh, r⟩
  · have e1 : ms = [] := List.eq_nil_of_length_eq_zero h0
    have e2 : ys = [] := List.eq_nil_of_length_eq_zero (by rw [hrow.len, e1]; rfl)
    subst e1 e2
    refine wpList_append_own_none hgd s x t ho B e i 1 T.slice hi v n xs hs hown hx ?_
    exact h v w (by simpa using hown) ⟨rfl, rfl, rfl, Nat.le_refl _, fun _ _ _ => rfl⟩ (.inl rfl)
  · refine wpList_append_own_at w hgd s x t ho B e i z 1 bytes T.slice hi hz0 hz1 hz2 T.one (by decide) v n xs hs hown ⟨g, 0, none⟩ ms.length cap ys hx (by rw [hrow.len, Nat.mul_one]) ?_ ?_ ?_ hby hbase ?_
    · intro j u hu
      exact hrow.row.cells (g := g) rfl j u hu
    · intro u hu
      obtain ⟨j, hj, rfl⟩ := List.mem_iff_getElem.1 hu
      obtain ⟨a, c, e1, _⟩ := hrow.chunk j (by rw [← hrow.len]; exact hj)
      rw [List.getD_eq_getElem?_getD, List.getElem?_eq_getElem hj, Option.getD_some] at e1
      rw [e1]; rfl
    · unfold maxLen; omega
    · intro v' w' h2 h3 _ h5
      exact h v' w' h2 h3 h5
/-- A cutter, and all chunks that it told of. -/
structure Told (w1 : World) (b r : Nat) (h : CutMath.Sh) (m : List (BitVec 8)) (v gv : Value) (gvs : List Value) (wr : World) : Prop where
  cut : Cutter wr w1.heap.size b r v h (CutMath.feed h [] m).2
  rows : OwnsRows (Foot b r v) wr w1.heap.size 25 gv gvs (CutMath.feed h [] m).1
  below : Below w1.heap.size w1 wr
/-- A piece more: what Write told, appended. -/
theorem Told.step {w1 wr w5 w6 : World} {b r : Nat} {h : CutMath.Sh} {m q : List (BitVec 8)} {v v' gv gv' ov : Value} {gvs vs : List Value} (i : Told w1 b r h m v gv gvs wr)
    (c : Cutter w5 w1.heap.size b r v' h (CutMath.feed h (CutMath.feed h [] m).2 q).2) (o : OwnsRows (WF wr b r v v') w5 w1.heap.size 25 ov vs (CutMath.feed h (CutMath.feed h [] m).2 q).1) (t : Touch (Foot b r v) wr w5) (f : ∀ k, Foot b r v' k → Foot b r v k ∨ wr.heap.size ≤ k)
    (h1 : w6.ownsRow w1.heap.size 25 1 gv' ((CutMath.feed h [] m).1.length + (CutMath.feed h (CutMath.feed h [] m).2 q).1.length) (gvs ++ vs)) (hg : w5.grownBy w6 gv.ownBlock) (hb : gv'.ownBlock = gv.ownBlock ∨ gv'.ownBlock = some w5.heap.size) :
    Told w1 b r h (m ++ q) v' gv' (gvs ++ vs) w6 := by
  have hfa := CutMath.feed_append h m q []
  have rows5 : OwnsRows (Foot b r v') w5 w1.heap.size 25 gv gvs (CutMath.feed h [] m).1 := by
    refine (i.rows.less (G := fun k => Foot b r v' k ∨ Foot b r v k) ?_).touch (t.mono fun k e => .inr e) |>.less fun k e => .inl (.inl e)
    rintro k (e | e)
    · exact f k e
    · exact .inl e
  have hgv : ∀ k, gv.ownBlock = some k → ¬ Foot b r v k ∧ ¬ Foot b r v' k ∧ k < wr.heap.size := fun k hk => ⟨i.rows.out k hk, rows5.out k hk, (row_lt i.rows.row hk).2⟩
  have t6 : Touch (fun k => gv.ownBlock = some k) w5 w6 := .of_grown hg fun k hk => hk
  have hs := t.size
  have hB : w1.heap.size ≤ wr.heap.size := i.below.size
  refine ⟨?_, ?_, ?_⟩
  · rw [hfa]
    exact c.touch t6 fun k e hk => (hgv k hk).2.1 e
  · rw [hfa]
    refine rows5.join (o.less fun k e => .inl (.inl e)) (fun k e => (c.foot_lt e).2) h1 hg hb ?_
    intro j ad n cp hj e hk
    obtain ⟨a, c2, e2, _, ff⟩ := o.chunk j hj
    rw [e] at e2
    injection e2 with e3 _ _
    obtain ⟨f1, _⟩ := ff ad e3.symm
    obtain ⟨g1, _, g3⟩ := hgv _ hk
    exact f1 (.inr ⟨g3, g1⟩)
  · have h5 : Below w1.heap.size wr w5 := t.below (fun k e => (i.cut.foot_lt e).1) hB
    exact i.below.trans (h5.trans (t6.below (fun k hk => (row_lt i.rows.row hk).1) (Nat.le_trans hB hs)))
theorem Told.end_ {w1 w6 w7 : World} {b r : Nat} {h : CutMath.Sh} {m : List (BitVec 8)} {v gv : Value} {gvs : List Value} (i : Told w1 b r h m v gv gvs w6)
    (_ho : Owns w7 w1.heap.size 5 v (CutMath.feed h [] m).2) (t : Touch (Foot b r (.slice none 0 0)) w6 w7) :
    OwnsRows (fun k => v.ownBlock = some k) w7 w1.heap.size 25 gv gvs (CutMath.feed h [] m).1 ∧ Below w1.heap.size w1 w7 := by
  have t' : Touch (Foot b r v) w6 w7 := t.mono fun k f => foot_nil f
  have q := i.rows.touch t'
  exact ⟨q.less fun k e => .inl (.inr (.inr e)), i.below.trans (t'.below (fun k f => (i.cut.foot_lt f).1) i.below.size)⟩
theorem cutPieces_bad (L M K W : Int) (s : BitVec 32) (a : Option Addr) (cap : Nat) (l : List (BitVec 8)) (v : Value) (w : World) (hr : Reads w a cap l) (h : W < 1 ∨ 63 < W ∨ L < W ∨ M < L ∨ 8192 < M ∨ K < 0 ∨ 20 < K) :
    Calls Try.prog 5 #[shapeV L M K W s, .slice a l.length cap, v] w fun e w' => e = .returned (.bool true) ∧ Below w.heap.size w w' := by
  have SP := fun v => cutNew_bad L M K W s v h
  unfold shapeV at *
  clear h
  have hb0 := (Below.refl w.heap.size w).alloc (Nat.le_refl _) (.cells #[.int .i64 L, .int .i64 M, .int .i64 K, .int .i64 W, U32 s] 24)
  have bx := box5 w (.int .i64 L) (.int .i64 M) (.int .i64 K) (.int .i64 W) (U32 s) 24
  have hr0 := hr.keeps (Keeps.below hb0)
  clear hr
  go_enter Try.func5, Try.ntmps5
  go_wp2_with fail
  generalize w.alloc (.cells #[.int .i64 L, .int .i64 M, .int .i64 K, .int .i64 W, U32 s] 24) = w1 at *
  refine (cut_any a cap l 3000 _ _ rfl hr0 (by decide)).mono ?_
  rintro e w' ⟨rfl, rfl⟩
  generalize (l.take 3000).length = m at *
  clear hr0
  obtain ⟨c0, c1, c2, c3, c4⟩ := bx _ (Below.refl _ _)
  go_wp2_with fail
  refine (SP _).mono ?_
  rintro e w3 ⟨rfl, hb3⟩
  clear c0 c1 c2 c3 c4
  go_wp2_with fail
  refine (lives_any _).mono ?_
  rintro e w7 ⟨rfl, hb7⟩
  have hb7 := hb3.trans (hb7.mono hb3.size)
  go_wp2
  go_ret
  exact ⟨rfl, hb0.trans (hb7.mono hb0.size)⟩
def PiecesRel (w1 : World) (cap b r : Nat) (h : CutMath.Sh) (m : List (BitVec 8)) (cuts : List Int) (gv rest i : Value) (wr : World) : Prop :=
  ∃ (p k : Nat) (A : Option Addr) (v : Value) (gvs : List Value), p ≤ m.length ∧ k ≤ cuts.length ∧ i = .int .i64 k ∧ rest = .slice A (m.length - p) (cap - p) ∧ Reads w1 A (cap - p) (m.drop p) ∧ Told w1 b r h (m.take p) v gv gvs wr
theorem within_nat (x : Int) (q : Nat) : ∃ n : Nat, within x 0 q = n ∧ n ≤ q := by
  unfold within
  split
  · exact ⟨0, rfl, Nat.zero_le _⟩
  · split
    · exact ⟨q, rfl, Nat.le_refl _⟩
    · exact ⟨x.toNat, by omega, by omega⟩
theorem told_write {w1 wr : World} {b r : Nat} {h : CutMath.Sh} {m : List (BitVec 8)} {v gv : Value} {gvs : List Value} (g : h.Good) (i : Told w1 b r h m v gv gvs wr) (A : Option Addr) (cap n : Nat) (q : List (BitVec 8)) (hn : q.length = n) (hl : q.length ≤ 1048576) (hr : Reads w1 A cap q) :
    Calls Try.prog 22 #[.pointer (some ⟨b, 0, none⟩), .slice A n cap] wr (Writes w1.heap.size b r v h (CutMath.feed h [] m).2 q wr) := by
  subst hn
  refine cutWrite_any g i.cut i.below.size (CutMath.feed_open h m [] (CutMath.open_nil h)) A cap q hl (hr.keeps (Keeps.below i.below)) fun hne ad e f => ?_
  have := reads_addr hr hne ad e
  have := (i.cut.foot_lt f).1
  omega
set_option maxRecDepth 40000 in
set_option maxHeartbeats 4000000 in
theorem cutPieces_good (h : CutMath.Sh) (g : h.Good) (a : Option Addr) (cap : Nat) (l : List (BitVec 8)) (a2 : Option Addr) (cap2 : Nat) (cuts : List Int) (w : World) (hr : Reads w a cap l) (hr2 : IReads w a2 cap2 cuts) :
    Calls Try.prog 5 #[shV h, .slice a l.length cap, .slice a2 cuts.length cap2] w fun e w' => e = .returned (.bool true) ∧ Below w.heap.size w w' := by
  have SP := fun (v : World) (a : Option Addr) (cap : Nat) (l : List (BitVec 8)) (hl : l.length ≤ 3000) (hr : Reads v a cap l) => cutSplit_good h g a cap l v (by omega) hr
  have NW := fun v => cutNew_good h g v
  unfold shV shapeV at *
  have hb0 := (Below.refl w.heap.size w).alloc (Nat.le_refl _) (.cells #[.int .i64 h.L, .int .i64 h.M, .int .i64 h.K, .int .i64 h.W, U32 h.s] 24)
  have bx := box5 w (.int .i64 h.L) (.int .i64 h.M) (.int .i64 h.K) (.int .i64 h.W) (U32 h.s) 24
  have hr0 := hr.keeps (Keeps.below hb0)
  have hr20 := hr2.keeps (Keeps.below hb0)
  clear hr hr2
  go_enter Try.func5, Try.ntmps5
  go_wp2_with fail
  generalize w.alloc (.cells #[.int .i64 h.L, .int .i64 h.M, .int .i64 h.K, .int .i64 h.W, U32 h.s] 24) = w1 at *
  refine (cut_any a cap l 3000 _ _ rfl hr0 (by decide)).mono ?_
  rintro e w' ⟨rfl, rfl⟩
  have hm := hr0.take 3000
  have hlen : (l.take 3000).length ≤ 3000 := by rw [List.length_take]; omega
  generalize l.take 3000 = m at *
  clear hr0
  obtain ⟨c0, c1, c2, c3, c4⟩ := bx _ (Below.refl _ _)
  go_wp2_with fail
  refine (NW _).mono ?_
  rintro e w2 ⟨b, r, rfl, c, hb2⟩
  have told0 : Told w1 b r h [] (.slice none 0 0) (.slice none 0 0) [] w2 := ⟨c, ownsRows_nil _ _ _ _, hb2⟩
  clear c0 c1 c2 c3 c4 c NW hb2
  have hmf := hm.fits
  have hmr := hm.room
  have h2f := hr20.fits
  have h2r := hr20.room
  go_wp2
  go_loopw [9, 10, 11, 12] (fun gv rest i _ wr => PiecesRel w1 cap b r h m cuts gv rest i wr) (fun _ _ i _ _ => cuts.length - (intOf i).toNat)
  case atStart => exact ⟨0, 0, a, _, [], Nat.zero_le _, Nat.zero_le _, rfl, rfl, by simpa using hm, told0⟩
  case round =>
    clear told0
    obtain ⟨p, k, A, v, gvs, hp, hk, rfl, rfl, hA, told⟩ := hrel
    have hqe : (m.drop p).length = m.length - p := List.length_drop
    have hq3 : m.length - p ≤ 3000 := by omega
    generalize hq : m.length - p = q at *
    have hqc : q ≤ cap - p := by omega
    have HQ := Lib.hid hq; clear hq
    by_cases hin : k < cuts.length ∧ k < 40
    · obtain ⟨hin1, hin2⟩ := hin
      rcases hr20.ints with e | ⟨b2, off2, rfl, hints⟩
      · rw [e] at hin1; simp at hin1
      · have d1 := Keeps.below told.below _ _ (hints k hin1)
        generalize cuts.getD k 0 = x at *
        have WI := fun v => within_any x 0 q v
        obtain ⟨n, hn, hnq⟩ := within_nat x q
        rw [hn] at WI
        have WR := told_write g told A (cap - p) n ((m.drop p).take n) (by rw [List.length_take]; omega) (by rw [List.length_take]; omega) (hA.take n)
        have hpd := hA.drop n (by omega)
        have sl := fun w => slice_row w A q (cap - p) n (by omega)
        have sl2 := fun w => slice_rest w A q (cap - p) n (by omega)
        have hfew := CutMath.feed_few h (m.take p) []
        have hfew2 := CutMath.feed_few h ((m.drop p).take n) (CutMath.feed h [] (m.take p)).2
        have hl1 : (m.take p).length ≤ 3000 := by rw [List.length_take]; omega
        have hl2 : ((m.drop p).take n).length ≤ 3000 := by rw [List.length_take]; omega
        have H20 := Lib.hid hr20
        have HA := Lib.hid hA
        clear hints hn hm bx hr20 hA hqe
        go_wp2_with fail
        refine (WI _).mono ?_
        rintro e w' ⟨rfl, rfl⟩
        clear WI
        go_wp2_with fail
        refine WR.mono ?_
        rintro e w5 ⟨v', ov, vs, rfl, c5, o5, t5, f5⟩
        have rows5 : w5.ownsRow w1.heap.size 25 1 u9 (CutMath.feed h [] (m.take p)).1.length gvs := t5.row told.rows.row told.rows.out
        have hB5 : w1.heap.size ≤ w5.heap.size := Nat.le_trans told.below.size t5.size
        have HT := Lib.hid told
        clear told WR
        go_wp2_with (at_builtin; refine wpList_append_rows rowsElem rfl _ _ rfl w1.heap.size u9 (CutMath.feed h [] (m.take p)).1.length gvs rfl rows5 ov vs _ rfl o5 (by omega) (by omega) hB5 ?_; intro gv' w6 h1 hg hb)
        go_roundw
        case rel =>
          have ht := HT.out.step c5 o5 t5 f5 h1 hg hb
          rw [← List.take_add] at ht
          refine ⟨p + n, k + 1, dropAddr A (cap - p) n, v', _, by have := HQ.out; omega, by omega, by go_num, ?_, ?_, ht⟩
          · rw [show m.length - (p + n) = q - n by have := HQ.out; omega, show cap - (p + n) = cap - p - n by omega]
          · rw [← List.drop_drop, show cap - (p + n) = cap - p - n by omega]; exact hpd
        case measure => simp [intOf]; omega
    · have hex : ¬ k < cuts.length ∨ (k < cuts.length ∧ ¬ k < 40) := by omega
      have WR := told_write g told A (cap - p) q (m.drop p) hqe (by omega) hA
      have hfew := CutMath.feed_few h (m.take p) []
      have hfew2 := CutMath.feed_few h (m.drop p) (CutMath.feed h [] (m.take p)).2
      have hl1 : (m.take p).length ≤ 3000 := by rw [List.length_take]; omega
      have hmp := Lib.hid (List.take_append_drop p m)
      have HM := Lib.hid hm
      have HX := Lib.hid bx
      have H20 := Lib.hid hr20
      have HA := Lib.hid hA
      have HB0 := Lib.hid hb0
      clear hin hA hr20 hm bx hqc hb0
      rcases hex with hx | ⟨hx, hx2⟩
      all_goals
        go_wp2_with fail
        refine WR.mono ?_
        rintro e w5 ⟨v', ov, vs, rfl, c5, o5, t5, f5⟩
        have rows5 : w5.ownsRow w1.heap.size 25 1 u9 (CutMath.feed h [] (m.take p)).1.length gvs := t5.row told.rows.row told.rows.out
        have hB5 : w1.heap.size ≤ w5.heap.size := Nat.le_trans told.below.size t5.size
        have HT := Lib.hid told
        clear told WR
        go_wp2_with (at_builtin; refine wpList_append_rows rowsElem rfl _ _ rfl w1.heap.size u9 (CutMath.feed h [] (m.take p)).1.length gvs rfl rows5 ov vs _ rfl o5 (by omega) (by omega) hB5 ?_; intro gv' w6 h1 hg hb)
        have ht := HT.out.step c5 o5 t5 f5 h1 hg hb
        rw [hmp.out] at ht
        clear HT c5 o5 t5 f5 h1 hg hb rows5 hfew hfew2 hl1
        have EN := cutEnd_any ht.cut
        refine EN.mono ?_
        rintro e w7 ⟨rfl, c7, ho7, t7⟩
        obtain ⟨rows7, hb7⟩ := ht.end_ ho7 t7
        have hfew := CutMath.feed_few h m []
        obtain ⟨va, vc, rfl⟩ := row_form ho7
        clear ht EN c7 t7
        rcases split_cases h m with ⟨e1, e2⟩ | ⟨e1, e2⟩
        · rw [← e2] at rows7
          obtain ⟨ga, gc, rfl, grr⟩ := rows7.rr
          rw [e1]
          have SP1 := SP w7 a cap m hlen (HM.out.keeps (Keeps.below hb7))
          obtain ⟨c0, c1, c2, c3, c4⟩ := HX.out _ hb7
          clear rows7 e1 e2 ho7 hfew SP
          go_wp2_with fail
          refine SP1.mono ?_
          rintro e w8 ⟨lv, lvs, rfl, lrows, hb8⟩
          obtain ⟨la, lc, rfl, lrr⟩ := lrows.rr
          have SA := sameRows_any ga la gc lc _ _ w8 (grr.keeps (Keeps.below hb8)) lrr
          rw [beq_rows] at SA
          have hb9 := hb7.trans (hb8.mono hb7.size)
          clear lrows lrr grr SP1 c0 c1 c2 c3 c4 hb8
          go_wp2_with fail
          refine SA.mono ?_
          rintro e w9 ⟨j9, rfl, rfl⟩
          have hb10 := below_drewN hb9 j9
          go_wp2_with fail
          refine (lives_any _).mono ?_
          rintro e w10 ⟨rfl, hb11⟩
          go_wp2
          go_ret
          exact ⟨rfl, HB0.out.trans ((hb10.trans (hb11.mono hb10.size)).mono HB0.out.size)⟩
        · have hpos : (0 : Int) < (((CutMath.feed h [] m).2.length : Nat) : Int) := by
            have := List.length_pos_iff.2 e1; omega
          have hch : Chunk (fun _ => False) w7 (.slice va (CutMath.feed h [] m).2.length vc) (CutMath.feed h [] m).2 := ho7.chunk fun _ _ f => f
          have hvv : ∀ ad, va = some ad → gv'.ownBlock ≠ some ad.block := fun ad e hv => by
            subst e
            exact rows7.out _ hv (own_block ho7)
          generalize hn : (CutMath.feed h [] m).2.length = n at *
          have t8 : Touch (fun _ => False) w7 (w7.alloc (.cells #[.slice va n vc] 25)) := (Touch.refl _ _).alloc _
          have rows8 := (rows7.less (G := fun _ => False) fun k e => e.elim).touch t8
          have hch8 := hch.touch t8
          have hrow := rows8.row
          have hcell : (w7.alloc (.cells #[.slice va n vc] 25)).cell? ⟨w7.heap.size, 0, none⟩ = some (.slice va n vc) := alloc_cell w7 _ _ 0
          have hb8 := hb7.alloc hb7.size (.cells #[.slice va n vc] 25)
          have hsz := hb8.size
          have H5 := Lib.hid rows8
          have HC := Lib.hid hch8
          have HV := Lib.hid hvv
          have HL := Lib.hid hb8
          have E2 := Lib.hid e2
          clear ho7 rows7 hn hch hvv t8 rows8 hch8 hb8 hb7 e1 e2
          go_wp2_with (at_builtin; refine wpList_append_elem rowsElem rfl _ _ rfl w1.heap.size gv' (CutMath.feed h [] m).1.length _ rfl hrow ⟨w7.heap.size, 0, none⟩ 1 (.slice va n vc) rfl hcell rfl (by omega) (by omega) hsz ?_; intro gv'' w8 h1 hg hb5; have hb9 := HL.out.trans ((Touch.of_grown (F := fun k => gv'.ownBlock = some k) hg fun k hk => hk).below (fun k hk => (row_lt hrow hk).1) hsz); obtain ⟨c0, c1, c2, c3, c4⟩ := HX.out _ hb9)
          have rows9 := H5.out.snoc HC.out (fun k hk => hk.elim) h1 hg hb5 (fun ad m c e => by injection e with e _ _; exact HV.out ad e)
          rw [← E2.out] at rows9
          obtain ⟨ga, gc, rfl, grr⟩ := rows9.rr
          have SP1 := SP w8 a cap m hlen (HM.out.keeps (Keeps.below hb9))
          clear rows9 hfew SP h1 hg hb5 H5 HC HV HL E2 hrow hcell hsz
          refine SP1.mono ?_
          rintro e w8 ⟨lv, lvs, rfl, lrows, hb8⟩
          obtain ⟨la, lc, rfl, lrr⟩ := lrows.rr
          have SA := sameRows_any ga la gc lc _ _ w8 (grr.keeps (Keeps.below hb8)) lrr
          rw [beq_rows] at SA
          have hb9 := hb9.trans (hb8.mono hb9.size)
          clear lrows lrr grr SP1 c0 c1 c2 c3 c4 hb8
          go_wp2_with fail
          refine SA.mono ?_
          rintro e w9 ⟨j9, rfl, rfl⟩
          have hb10 := below_drewN hb9 j9
          go_wp2_with fail
          refine (lives_any _).mono ?_
          rintro e w10 ⟨rfl, hb11⟩
          go_wp2
          go_ret
          exact ⟨rfl, HB0.out.trans ((hb10.trans (hb11.mono hb10.size)).mono HB0.out.size)⟩
theorem cutPieces_walk (L M K W : Int) (s : BitVec 32) (a : Option Addr) (cap : Nat) (l : List (BitVec 8)) (a2 : Option Addr) (cap2 : Nat) (cuts : List Int) (w : World) (hr : Reads w a cap l) (hr2 : IReads w a2 cap2 cuts) :
    Calls Try.prog 5 #[shapeV L M K W s, .slice a l.length cap, .slice a2 cuts.length cap2] w fun e w' => e = .returned (.bool true) ∧ Below w.heap.size w w' := by
  cases hg : goodB L M K W
  · exact cutPieces_bad L M K W s a cap l _ w hr (bad_iff.1 hg)
  · obtain ⟨h, g, e, _⟩ := good_of (s := s) hg
    rw [e]
    exact cutPieces_good h g a cap l a2 cap2 cuts w hr hr2
end Go.Proofs.Ytbjaeofooaikkaa
