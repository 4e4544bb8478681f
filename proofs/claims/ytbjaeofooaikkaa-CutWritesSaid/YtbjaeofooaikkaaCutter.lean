/- A cutter in memory; what its methods give. -/
import Derived.Test.YtbjaeofooaikkaaRefSplit
namespace Go.Proofs.Ytbjaeofooaikkaa
open Go Go.RowKit

structure CutterAt (w : World) (b r : Nat) (h : CutMath.Sh) (v : Value) : Prop where
  c0 : w.cell? ⟨b, 0, none⟩ = some (.int .i64 h.L)
  c1 : w.cell? ⟨b, 1, none⟩ = some (.int .i64 h.M)
  c2 : w.cell? ⟨b, 2, none⟩ = some (.int .i64 h.K)
  c3 : w.cell? ⟨b, 3, none⟩ = some (.int .i64 h.W)
  c4 : w.cell? ⟨b, 4, none⟩ = some (U32 h.s)
  c5 : w.cell? ⟨b, 5, none⟩ = some (.pointer (some ⟨r, 0, none⟩))
  c6 : w.cell? ⟨b, 6, none⟩ = some (U32 (CutMath.maskOf h.K))
  c7 : w.cell? ⟨b, 7, none⟩ = some v
  thawed : ∀ o, w.frozen? ⟨b, o, none⟩ = false
/-- What the roller was given last. -/
def given (h : CutMath.Sh) (held : List (BitVec 8)) : List (BitVec 8) := lastN h.W (held.drop (h.L - h.W))
structure Cutter (w : World) (B b r : Nat) (v : Value) (h : CutMath.Sh) (held : List (BitVec 8)) : Prop where
  at_ : CutterAt w b r h v
  ne : r ≠ b
  roll : Roller w r h.s h.W (given h held)
  own : Owns w B 5 v held
  vb : v.ownBlock ≠ some b
  vr : v.ownBlock ≠ some r
  low : B ≤ b ∧ B ≤ r
def Foot (b r : Nat) (v : Value) (k : Nat) : Prop := k = b ∨ k = r ∨ v.ownBlock = some k
section
variable {w w' : World} {B b r : Nat} {v v' : Value} {h : CutMath.Sh} {held : List (BitVec 8)}
theorem CutterAt.lt (c : CutterAt w b r h v) : b < w.heap.size := World.block_lt_of_cell? w _ c.c0
theorem CutterAt.touch {F : Nat → Prop} (c : CutterAt w b r h v) (t : Touch F w w') (hn : ¬ F b) : CutterAt w' b r h v :=
  ⟨t.cell c.c0 hn, t.cell c.c1 hn, t.cell c.c2 hn, t.cell c.c3 hn, t.cell c.c4 hn, t.cell c.c5 hn, t.cell c.c6 hn, t.cell c.c7 hn, fun o => by rw [t.frozen c.lt hn]; exact c.thawed o⟩
theorem CutterAt.hold (c : CutterAt w b r h v) (u : Value) : CutterAt (w.setCell ⟨b, 7, none⟩ u) b r h u :=
  ⟨set_other c.c0 (by omega), set_other c.c1 (by omega), set_other c.c2 (by omega), set_other c.c3 (by omega), set_other c.c4 (by omega), set_other c.c5 (by omega), set_other c.c6 (by omega), set_same c.c7, fun o => by rw [World.frozen?_setCell]; exact c.thawed o⟩
theorem RollerAt.touch {F : Nat → Prop} {s x : BitVec 32} {win n at_ : Nat} {ring : Nat → BitVec 8} (c : RollerAt w r s win n at_ x ring) (t : Touch F w w') (hn : ¬ F r) : RollerAt w' r s win n at_ x ring :=
  ⟨fun i hi => t.cell (c.words i hi) hn, fun i hi => t.cell (c.ring i hi) hn, t.cell c.win hn, t.cell c.n hn, t.cell c.at_ hn, t.cell c.x hn, fun o => (t.frozen (a := ⟨r, o, none⟩) (World.block_lt_of_cell? w ⟨r, 319, none⟩ c.win) hn).trans (c.thawed o)⟩
theorem Roller.touch {F : Nat → Prop} {s : BitVec 32} {win : Nat} {L : List (BitVec 8)} (c : Roller w r s win L) (t : Touch F w w') (hn : ¬ F r) : Roller w' r s win L := by
  obtain ⟨at_, ring, h1, h2⟩ := c
  exact ⟨at_, ring, h1.touch t hn, h2⟩
theorem Roller.lt {s : BitVec 32} {win : Nat} {L : List (BitVec 8)} (c : Roller w r s win L) : r < w.heap.size := by
  obtain ⟨at_, ring, h1, h2⟩ := c
  exact World.block_lt_of_cell? w _ h1.win
theorem Cutter.touch {F : Nat → Prop} (c : Cutter w B b r v h held) (t : Touch F w w') (hn : ∀ k, Foot b r v k → ¬ F k) : Cutter w' B b r v h held :=
  ⟨c.at_.touch t (hn b (.inl rfl)), c.ne, c.roll.touch t (hn r (.inr (.inl rfl))), t.owns c.own fun k hk => hn k (.inr (.inr hk)), c.vb, c.vr, c.low⟩
theorem Cutter.drewN (c : Cutter w B b r v h held) (n : Nat) : Cutter (w.drewN n) B b r v h held := c.touch (F := fun _ => False) ((Touch.refl _ _).drewN n) fun _ _ f => f
/-- The blocks are there. -/
theorem Cutter.foot_lt (c : Cutter w B b r v h held) {k : Nat} (hk : Foot b r v k) : B ≤ k ∧ k < w.heap.size := by
  rcases hk with rfl | rfl | hk
  · exact ⟨c.low.1, c.at_.lt⟩
  · exact ⟨c.low.2, c.roll.lt⟩
  · exact row_lt c.own hk
end
theorem given_nil (h : CutMath.Sh) (held : List (BitVec 8)) (hl : held.length ≤ h.L - h.W) : given h held = [] := by
  unfold given; rw [List.drop_eq_nil_of_le hl]; unfold lastN; simp
theorem given_push (h : CutMath.Sh) (g : h.Good) (held : List (BitVec 8)) (c : BitVec 8) (hl : h.L - h.W ≤ held.length) : given h (held ++ [c]) = pushed h.W (given h held) c := by
  unfold given
  rw [List.drop_append_of_le_length hl, pushed_last _ _ _ g.w1]
theorem given_last (h : CutMath.Sh) (g : h.Good) (held : List (BitVec 8)) (hl : h.L ≤ held.length) : given h held = lastN h.W held := lastN_drop held (by have := g.wl; omega)

theorem cutOk_any {w : World} {b r : Nat} {h : CutMath.Sh} {v : Value} (c : CutterAt w b r h v) :
    Calls Try.prog 29 #[.pointer (some ⟨b, 0, none⟩)] w fun e w' => e = .returned (.bool true) ∧ w = w' := by
  have c5 := c.c5
  go_enter Try.func29, Try.ntmps29
  go_wp2
  go_ret
  exact ⟨rfl, rfl⟩
theorem cutHeld_any {w : World} {B b r : Nat} {v : Value} {h : CutMath.Sh} {held : List (BitVec 8)} (c : Cutter w B b r v h held) :
    Calls Try.prog 25 #[.pointer (some ⟨b, 0, none⟩)] w fun e w' => e = .returned (.int .i64 held.length) ∧ w = w' := by
  have c7 := c.at_.c7
  have OK := cutOk_any c.at_
  obtain ⟨a, cap, rfl, _⟩ := c.own.reads
  go_enter Try.func25, Try.ntmps25
  go_wp2_with fail
  refine OK.mono ?_
  rintro e w' ⟨rfl, rfl⟩
  go_wp2
  go_ret
  exact ⟨rfl, rfl⟩
/-- What take gives: the bytes that were held, and the cutter with none. -/
def Takes (B b r : Nat) (v : Value) (h : CutMath.Sh) (held : List (BitVec 8)) (w : World) (e : Ending) (w' : World) : Prop :=
  e = .returned v ∧ Cutter w' B b r (.slice none 0 0) h [] ∧ Owns w' B 5 v held ∧ Touch (Foot b r (.slice none 0 0)) w w'
theorem cutTake_any {w : World} {B b r : Nat} {v : Value} {h : CutMath.Sh} {held : List (BitVec 8)} (c : Cutter w B b r v h held) :
    Calls Try.prog 31 #[.pointer (some ⟨b, 0, none⟩)] w (Takes B b r v h held w) := by
  have c7 := c.at_.c7
  have f7 := c.at_.thawed 7
  have hne := c.ne
  have c5 : (w.setCell ⟨b, 7, none⟩ (.slice none 0 0)).cell? ⟨b, 5, none⟩ = some (.pointer (some ⟨r, 0, none⟩)) := (c.at_.hold _).c5
  have t1 : Touch (fun k => k = b) w (w.setCell ⟨b, 7, none⟩ (.slice none 0 0)) := Touch.set w b 7 _ rfl
  have CL := clear_any _ r h.s h.W _ (c.roll.touch t1 c.ne)
  have hv : ∃ a n cap, v = .slice a n cap := by obtain ⟨a, cap, e, _⟩ := c.own.reads; exact ⟨a, _, cap, e⟩
  obtain ⟨a, n, cap, rfl⟩ := hv
  go_enter Try.func31, Try.ntmps31
  go_wp2_with fail
  refine CL.mono ?_
  rintro e w2 ⟨rfl, h2, o2⟩
  go_wp2
  go_ret
  have t2 : Touch (fun k => k = r) (w.setCell ⟨b, 7, none⟩ (.slice none 0 0)) w2 := .of_only o2 rfl
  refine ⟨rfl, ⟨((c.at_.hold _).touch t2 (fun e => hne e.symm)), hne, ?_, owns_nil _ _ _, by simp [Value.ownBlock], by simp [Value.ownBlock], c.low⟩, ?_, ?_⟩
  · rw [given_nil h [] (by simp)]; exact h2
  · exact t2.owns (t1.owns c.own fun k hk e => c.vb (by rw [hk, e])) fun k hk e => c.vr (by rw [hk, e])
  · exact (t1.mono fun k e => .inl e).trans (t2.mono fun k e => .inr (.inl e))
theorem cutEnd_any {w : World} {B b r : Nat} {v : Value} {h : CutMath.Sh} {held : List (BitVec 8)} (c : Cutter w B b r v h held) :
    Calls Try.prog 23 #[.pointer (some ⟨b, 0, none⟩)] w (Takes B b r v h held w) := by
  have OK := cutOk_any c.at_
  have TK := cutTake_any c
  go_enter Try.func23, Try.ntmps23
  go_wp2_with fail
  refine OK.mono ?_
  rintro e w' ⟨rfl, rfl⟩
  go_wp2_with fail
  refine TK.mono ?_
  rintro e w' ⟨rfl, h1⟩
  go_wp2
  go_ret
  exact ⟨rfl, h1⟩
end Go.Proofs.Ytbjaeofooaikkaa
