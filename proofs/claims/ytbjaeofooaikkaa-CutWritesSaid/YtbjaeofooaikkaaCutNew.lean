/- A new cutter; Split and Sizes of the program. -/
import Derived.Test.YtbjaeofooaikkaaCutWrite
namespace Go.Proofs.Ytbjaeofooaikkaa
open Go Go.RowKit

theorem cutNew_bad (L M K W : Int) (s : BitVec 32) (w : World) (h : W < 1 ∨ 63 < W ∨ L < W ∨ M < L ∨ 8192 < M ∨ K < 0 ∨ 20 < K) :
    Calls Try.prog 20 #[shapeV L M K W s] w fun e w' => e = .returned (.tuple #[.pointer none, .int .i64 2]) ∧ Below w.heap.size w w' := by
  have CH := fun v => check_no L M K W s v h
  unfold shapeV at *
  clear h
  have hb0 := (Below.refl w.heap.size w).alloc (Nat.le_refl _) (.cells #[.int .i64 L, .int .i64 M, .int .i64 K, .int .i64 W, U32 s] 24)
  go_enter Try.func20, Try.ntmps20
  go_wp2_with fail
  refine (CH _).mono ?_
  rintro e w2 ⟨rfl, hb⟩
  go_wp2
  go_ret2
  exact ⟨rfl, hb0.trans (hb.mono hb0.size)⟩
/-- What New gives. -/
def NewsC (h : CutMath.Sh) (w : World) (e : Ending) (w' : World) : Prop :=
  ∃ b r, e = .returned (.tuple #[.pointer (some ⟨b, 0, none⟩), .int .i64 0]) ∧ Cutter w' w.heap.size b r (.slice none 0 0) h [] ∧ Below w.heap.size w w'
set_option maxHeartbeats 800000 in
theorem cutNew_good (h : CutMath.Sh) (g : h.Good) (w : World) : Calls Try.prog 20 #[shV h] w (NewsC h w) := by
  have CH := fun v => check_yes h.L h.M h.K h.W h.s v (by have := g.w1; omega) (by have := g.w63; omega) (by have := g.wl; omega) (by have := g.lm; omega) (by have := g.m; omega) (by omega) (by have := g.k; omega)
  have NW := fun v => new_some v h.s h.W g.w1 g.w63
  have bx := box_cells w #[.int .i64 h.L, .int .i64 h.M, .int .i64 h.K, .int .i64 h.W, U32 h.s] 24
  have hb0 := (Below.refl w.heap.size w).alloc (Nat.le_refl _) (.cells #[.int .i64 h.L, .int .i64 h.M, .int .i64 h.K, .int .i64 h.W, U32 h.s] 24)
  unfold shV shapeV at *
  go_enter Try.func20, Try.ntmps20
  go_wp2_with fail
  generalize w.alloc (.cells #[.int .i64 h.L, .int .i64 h.M, .int .i64 h.K, .int .i64 h.W, U32 h.s] 24) = w1 at *
  refine (CH _).mono ?_
  rintro e w2 ⟨rfl, hb2⟩
  have c3 := bx _ hb2 3
  have c4 := bx _ hb2 4
  go_wp2_with fail
  refine (NW _).mono ?_
  rintro e w3 ⟨r, hr, rfl, hR, hb3⟩
  have hb4 := hb2.trans (hb3.mono hb2.size)
  clear c3 c4
  have c0 := bx _ hb4 0
  have c1 := bx _ hb4 1
  have c2 := bx _ hb4 2
  have c3 := bx _ hb4 3
  have c4 := bx _ hb4 4
  have sh := fun (t : TypeId) => u32_shld t 1 .i64 (h.K : Int) (by decide) (by decide) (by omega)
  go_wp2_with fail
  go_still_tail 7, (by kernel_rfl)
  change wpList _ _ _ _ _ w3.drew
  have hb5 := hb4.drew
  have hR5 : Roller w3.drew r h.s h.W [] := hR.drewN 1
  have hr5 : w.heap.size ≤ r := Nat.le_trans (Nat.le_trans hb0.size hb2.size) hr
  clear c0 c1 c2 c3 c4 hR hb3
  generalize w3.drew = w4 at *
  have hlt := hR5.lt
  have h0 := hb0.trans (hb5.mono hb0.size)
  go_wp2
  go_ret2
  refine ⟨w4.heap.size, r, rfl, ⟨⟨?_, ?_, ?_, ?_, ?_, ?_, ?_, ?_, fun o => alloc_thawed _ _ _ o⟩, by omega, ?_, owns_nil _ _ _, by simp [Value.ownBlock], by simp [Value.ownBlock], h0.size, hr5⟩, h0.alloc h0.size _⟩
  all_goals first | exact alloc_cell _ _ _ _ | skip
  rw [given_nil h [] (by simp)]
  exact hR5.touch (F := fun _ => False) ((Touch.refl _ _).alloc _) fun f => f
/-- What Split gives: all chunks, in memory of their own. -/
def SplitsC (h : CutMath.Sh) (l : List (BitVec 8)) (w : World) (e : Ending) (w' : World) : Prop :=
  ∃ v vs, e = .returned (.tuple #[v, .int .i64 0]) ∧ OwnsRows (fun k => k < w.heap.size) w' w.heap.size 25 v vs (CutMath.split h l) ∧ Below w.heap.size w w'
theorem cutSplit_bad (L M K W : Int) (s : BitVec 32) (a : Option Addr) (n cap : Nat) (w : World) (h : W < 1 ∨ 63 < W ∨ L < W ∨ M < L ∨ 8192 < M ∨ K < 0 ∨ 20 < K) :
    Calls Try.prog 12 #[shapeV L M K W s, .slice a n cap] w fun e w' => e = .returned (.tuple #[.slice none 0 0, .int .i64 2]) ∧ Below w.heap.size w w' := by
  have CH := fun v => cutNew_bad L M K W s v h
  unfold shapeV at *
  clear h
  have hb0 := (Below.refl w.heap.size w).alloc (Nat.le_refl _) (.cells #[.int .i64 L, .int .i64 M, .int .i64 K, .int .i64 W, U32 s] 24)
  go_enter Try.func12, Try.ntmps12
  go_wp2_with fail
  refine (CH _).mono ?_
  rintro e w2 ⟨rfl, hb⟩
  go_wp2
  go_ret2
  exact ⟨rfl, hb0.trans (hb.mono hb0.size)⟩
theorem split_cases (h : CutMath.Sh) (l : List (BitVec 8)) : ((CutMath.feed h [] l).2 = [] ∧ CutMath.split h l = (CutMath.feed h [] l).1) ∨ ((CutMath.feed h [] l).2 ≠ [] ∧ CutMath.split h l = (CutMath.feed h [] l).1 ++ [(CutMath.feed h [] l).2]) := by
  by_cases e : (CutMath.feed h [] l).2 = []
  · exact .inl ⟨e, by unfold CutMath.split; rw [if_pos e, List.append_nil]⟩
  · exact .inr ⟨e, by unfold CutMath.split; rw [if_neg e]⟩
theorem own_block {w : World} {B : Nat} {E : TypeId} {g : Addr} {n cap : Nat} {l : List (BitVec 8)} (h : Owns w B E (.slice (some g) n cap) l) : (Value.slice (some g) n cap).ownBlock = some g.block := by
  rcases h.2 with ⟨e3, _⟩ | ⟨g', cap3, cur, e3, _⟩
  · injection e3 with e _ _; cases e
  · injection e3 with e _ _; injection e with e; rw [e]; rfl
/-- Bytes of the call's own, as a chunk. -/
theorem Owns.chunk {F : Nat → Prop} {w : World} {B : Nat} {E : TypeId} {v : Value} {l : List (BitVec 8)} (h : Owns w B E v l) (hF : ∀ k, v.ownBlock = some k → ¬ F k) : Chunk F w v l := by
  obtain ⟨a, cap, e, r⟩ := h.reads
  subst e
  refine ⟨a, cap, rfl, r, fun ad e => ?_⟩
  subst e
  have := own_block h
  exact ⟨hF _ this, (row_lt h this).2⟩
set_option maxHeartbeats 800000 in
theorem cutSplit_good (h : CutMath.Sh) (g : h.Good) (a : Option Addr) (cap : Nat) (l : List (BitVec 8)) (w : World) (hl : l.length ≤ 1048576) (hr : Reads w a cap l) :
    Calls Try.prog 12 #[shV h, .slice a l.length cap] w (SplitsC h l w) := by
  have ha := reads_addr hr
  have CH := fun v => cutNew_good h g v
  have hb0 := (Below.refl w.heap.size w).alloc (Nat.le_refl _) (.cells #[.int .i64 h.L, .int .i64 h.M, .int .i64 h.K, .int .i64 h.W, U32 h.s] 24)
  have hr0 := hr.keeps (Keeps.below hb0)
  have hs0 := hb0.size
  unfold shV shapeV at *
  go_enter Try.func12, Try.ntmps12
  go_wp2_with fail
  generalize w.alloc (.cells #[.int .i64 h.L, .int .i64 h.M, .int .i64 h.K, .int .i64 h.W, U32 h.s] 24) = w1 at *
  refine (CH _).mono ?_
  rintro e w2 ⟨b, r, rfl, c, hb2⟩
  have hb := c.low.1
  have hrr := c.low.2
  have WR := cutWrite_any g c hb2.size (CutMath.open_nil h) a cap l hl (hr0.keeps (Keeps.below hb2)) fun hne ad e f => by
    have := ha hne ad e
    rcases foot_nil' f with e2 | e2 <;> omega
  go_wp2_with fail
  refine WR.mono ?_
  rintro e w3 ⟨v, ov, vs, rfl, c3, o3, t3, f3⟩
  have EN := cutEnd_any c3
  go_wp2_with fail
  refine EN.mono ?_
  rintro e w4 ⟨rfl, c4, ho4, t4⟩
  have hB2 : ∀ k, Foot b r (.slice none 0 0) k → w1.heap.size ≤ k := fun k f => by rcases foot_nil' f with e | e <;> omega
  have hlow : Below w.heap.size w w4 := by
    refine hb0.trans ((hb2.mono hs0).trans (((t3.below hB2 hb2.size).mono hs0).trans ((t4.below hB2 ?_).mono hs0)))
    exact Nat.le_trans hb2.size t3.size
  have rows4 : OwnsRows (fun k => k < w.heap.size ∨ v.ownBlock = some k) w4 w.heap.size 25 ov vs (CutMath.feed h [] l).1 := by
    have q := (o3.touch (t4.mono (fun k f => .inl (foot_nil f)))).less (G := fun k => k < w.heap.size ∨ v.ownBlock = some k) ?_
    · exact ⟨row_mono q.row (fun k hk => Nat.le_trans hs0 (row_lt q.row hk).1), q.len, q.out, q.chunk, q.apart⟩
    · have := hb2.size
      rintro k (e | e)
      · exact .inl (.inr ⟨by omega, fun f => by have := hB2 k f; omega⟩)
      · exact .inl (.inl (.inr (.inr e)))
  have hfew := CutMath.feed_few h l []
  rcases split_cases h l with ⟨e1, e2⟩ | ⟨e1, e2⟩
  · obtain ⟨va, vc, rfl⟩ := row_form ho4
    rw [e1] at ho4
    have hres := Lib.hid (show OwnsRows (fun k => k < w.heap.size) w4 w.heap.size 25 ov vs (CutMath.split h l) by rw [e2]; exact rows4.less fun k e => .inl (.inl e))
    have hz : (((CutMath.feed h [] l).2.length : Nat) : Int) = 0 := by rw [e1]; rfl
    rw [e1]
    clear c c3 o3 t3 f3 c4 ho4 t4 rows4 hr hr0 CH WR EN e1 e2 hfew hz
    go_wp2
    go_ret2
    exact ⟨_, vs, rfl, hres.out, hlow⟩
  · obtain ⟨va, vc, rfl⟩ := row_form ho4
    have hpos : (0 : Int) < (((CutMath.feed h [] l).2.length : Nat) : Int) := by
      have := List.length_pos_iff.2 e1; omega
    have hch : Chunk (fun k => k < w.heap.size) w4 (.slice va (CutMath.feed h [] l).2.length vc) (CutMath.feed h [] l).2 := ho4.chunk fun k hk => by
      have := (row_lt ho4 hk).1; omega
    have hvv : ∀ ad, va = some ad → ov.ownBlock ≠ some ad.block := fun ad e hv => by
      subst e
      exact rows4.out _ hv (.inr (own_block ho4))
    generalize hn : (CutMath.feed h [] l).2.length = n at *
    have t5 : Touch (fun _ => False) w4 (w4.alloc (.cells #[.slice va n vc] 25)) := (Touch.refl _ _).alloc _
    have rows5 := (rows4.less (G := fun k => k < w.heap.size) fun k e => .inl (.inl e)).touch (t5.mono fun _ f => f.elim)
    have hch5 := hch.touch (t5.mono fun _ f => f.elim)
    have hrow := rows5.row
    have hcell : (w4.alloc (.cells #[.slice va n vc] 25)).cell? ⟨w4.heap.size, 0, none⟩ = some (.slice va n vc) := alloc_cell w4 _ _ 0
    have hlow5 := hlow.alloc hlow.size (.cells #[.slice va n vc] 25)
    have hsz := hlow5.size
    have H5 := Lib.hid rows5
    have HC := Lib.hid hch5
    have HV := Lib.hid hvv
    have HL := Lib.hid hlow5
    have E2 := Lib.hid e2
    clear c c3 o3 t3 f3 c4 ho4 t4 rows4 hr hr0 CH WR EN e1 e2 hn hch hvv t5 rows5 hch5 hlow5 hlow hb2 hb0 ha
    go_wp2_with (at_builtin; refine wpList_append_elem rowsElem rfl _ _ rfl w.heap.size ov (CutMath.feed h [] l).1.length vs rfl hrow ⟨w4.heap.size, 0, none⟩ 1 (.slice va n vc) rfl hcell rfl (by omega) (by omega) hsz ?_; intro ov' w5 h1 hg hb5)
    go_ret2
    refine ⟨_, _, rfl, by rw [E2.out]; exact H5.out.snoc HC.out (fun k hk => by omega) h1 hg hb5 (fun ad m c e => by injection e with e _ _; exact HV.out ad e), ?_⟩
    refine HL.out.trans ((Touch.of_grown (F := fun k => ov.ownBlock = some k) hg fun k hk => hk).below (fun k hk => (row_lt hrow hk).1) hsz)
end Go.Proofs.Ytbjaeofooaikkaa
