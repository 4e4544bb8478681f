/- A roller in memory, and what its methods give. A roller's Put: what it gives. A roller's Put: what it gives. What a roller's methods give. A new roller. A new roller. Plain facts on streams that are cut: where a chunk ends, which chunks a stream has. No program stands here. Ground for the cutter: the last bytes, worlds that part in some blocks alone, shapes. Whether a shape is right: in the program and in the document's answer. -/
import Derived.Test.YtbicafgmfgdckaaGreatDoorMgAi
import Derived.Test.YtbicafgmfgdckaaGreatDoorMgAb
namespace Go.Proofs.YtbicafgmfgdckaaGreatDoor
open Go Go.RowKit

structure RollerAt (w : World) (b : Nat) (s : BitVec 32) (win n at_ : Nat) (x : BitVec 32) (ring : Nat -> BitVec 8) : Prop where
 words : ∀ i, i < 256 -> w.cell? ⟨b, i, none⟩ = some (U32 (RollMath.word s (BitVec.ofNat 8 i)))
 ring : ∀ i, i < 63 -> w.cell? ⟨b, 256 + i, none⟩ = some (U8 (ring i))
 win : w.cell? ⟨b, 319, none⟩ = some (.int .i64 win)
 n : w.cell? ⟨b, 320, none⟩ = some (.int .i64 n)
 at_ : w.cell? ⟨b, 321, none⟩ = some (.int .i64 at_)
 x : w.cell? ⟨b, 322, none⟩ = some (U32 x)
 thawed : ∀ o, w.frozen? ⟨b, o, none⟩ = false

section
variable {w : World} {b : Nat} {s x : BitVec 32} {win n at_ : Nat} {ring : Nat -> BitVec 8}
theorem RollerAt.word_at (h : RollerAt w b s win n at_ x ring) (c : BitVec 8) : w.cell? ⟨b, idx c, none⟩ = some (U32 (RollMath.word s c)) := by
 have := h.words c.toNat c.isLt
 rw [BitVec.ofNat_toNat, BitVec.setWidth_eq] at this
 exact this
end
theorem idx8_lt (c : BitVec 8) : idx c < 256 := c.isLt

theorem turn32_quiet (x : BitVec 32) (N : Int) (w : World) (n : Nat) : Calls Tryz.prog 111 #[U32 x, .int .i64 N] (w.drewN n) fun e w'' => e = .returned (U32 (RollMath.rot x (N % 32).toNat)) /\ ∃ m, w'' = w.drewN m :=
 (turn32_any x N _).mono fun e w' ⟨m, he, hw⟩ => ⟨he, n + m, by rw [hw, World.drewN_drewN]⟩
theorem ok_some (w : World) (b win : Nat) (h : w.cell? ⟨b, 319, none⟩ = some (.int .i64 win)) (hw : 0 < win) :
  Calls Tryz.prog 110 #[.pointer (some ⟨b, 0, none⟩)] w fun e w' => e = .returned (.bool true) /\ w = w' := by
 go_enter Tryz.func110, Tryz.ntmps110
 go_wp2
 go_ret
 exact ⟨rfl, rfl⟩

def Only (b : Nat) (w w' : World) : Prop := w.grownBy w' (some b)
theorem Only.trans {b : Nat} {w w1 w2 : World} (h : Only b w w1) (k : Only b w1 w2) : Only b w w2 :=
 ⟨k.os.trans h.os, k.tape.trans h.tape, k.output.trans h.output, Nat.le_trans h.size k.size, fun i hi hne => (k.block i (Nat.lt_of_lt_of_le hi h.size) hne).trans (h.block i hi hne)⟩
theorem Only.drewN (b : Nat) (w : World) (n : Nat) : Only b w (w.drewN n) := ⟨rfl, rfl, rfl, Nat.le_refl _, fun _ _ _ => rfl⟩
theorem Only.set (w : World) (b o : Nat) (v : Value) : Only b w (w.setCell ⟨b, o, none⟩ v) :=
 ⟨rfl, rfl, rfl, by simp, fun k _ hk => Below.heap_setCell w ⟨b, o, none⟩ v k (fun e => hk (by rw [e]))⟩
section
variable {w w' : World} {b : Nat} {s x : BitVec 32} {win n at_ : Nat} {ring : Nat -> BitVec 8}
theorem RollerAt.drewN (h : RollerAt w b s win n at_ x ring) (m : Nat) : RollerAt (w.drewN m) b s win n at_ x ring := ⟨h.words, h.ring, h.win, h.n, h.at_, h.x, h.thawed⟩
theorem set_other {o o' : Nat} {v u : Value} (h : w.cell? ⟨b, o', none⟩ = some u) (hne : o' ≠ o) : (w.setCell ⟨b, o, none⟩ v).cell? ⟨b, o', none⟩ = some u := by
 rw [World.cell?_setCell_other _ _ _ _ (by intro e; injection e with _ e2; exact hne e2.symm)]; exact h
theorem set_same {o : Nat} {v u : Value} (h : w.cell? ⟨b, o, none⟩ = some u) : (w.setCell ⟨b, o, none⟩ v).cell? ⟨b, o, none⟩ = some v := World.cell?_setCell_same w _ v h
theorem RollerAt.setX (h : RollerAt w b s win n at_ x ring) (y : BitVec 32) : RollerAt (w.setCell ⟨b, 322, none⟩ (U32 y)) b s win n at_ y ring :=
 ⟨fun i hi => set_other (h.words i hi) (by omega), fun i hi => set_other (h.ring i hi) (by omega), set_other h.win (by omega), set_other h.n (by omega), set_other h.at_ (by omega), set_same h.x,
  fun o => by rw [World.frozen?_setCell]; exact h.thawed o⟩
theorem RollerAt.setN (h : RollerAt w b s win n at_ x ring) (m : Nat) : RollerAt (w.setCell ⟨b, 320, none⟩ (.int .i64 m)) b s win m at_ x ring :=
 ⟨fun i hi => set_other (h.words i hi) (by omega), fun i hi => set_other (h.ring i hi) (by omega), set_other h.win (by omega), set_same h.n, set_other h.at_ (by omega), set_other h.x (by omega),
  fun o => by rw [World.frozen?_setCell]; exact h.thawed o⟩
theorem RollerAt.setAt (h : RollerAt w b s win n at_ x ring) (m : Nat) : RollerAt (w.setCell ⟨b, 321, none⟩ (.int .i64 m)) b s win n m x ring :=
 ⟨fun i hi => set_other (h.words i hi) (by omega), fun i hi => set_other (h.ring i hi) (by omega), set_other h.win (by omega), set_other h.n (by omega), set_same h.at_, set_other h.x (by omega),
  fun o => by rw [World.frozen?_setCell]; exact h.thawed o⟩
theorem RollerAt.setRing (h : RollerAt w b s win n at_ x ring) (k : Nat) (hk : k < 63) (c : BitVec 8) : RollerAt (w.setCell ⟨b, 256 + k, none⟩ (U8 c)) b s win n at_ x (fun i => if i = k then c else ring i) :=
 ⟨fun i hi => set_other (h.words i hi) (by omega),
  fun i hi => by
   by_cases e : i = k
   ·subst e; rw [if_pos rfl]; exact set_same (h.ring i hi)
   ·rw [if_neg e]; exact set_other (h.ring i hi) (by omega),
  set_other h.win (by omega), set_other h.n (by omega), set_other h.at_ (by omega), set_other h.x (by omega), fun o => by rw [World.frozen?_setCell]; exact h.thawed o⟩
end

structure RState (win : Nat) (L : List (BitVec 8)) (at_ : Nat) (ring : Nat -> BitVec 8) : Prop where
 len : L.length <= win
 lt : at_ < win
 cells : ∀ i, i < L.length -> ring ((at_ + (win - L.length) + i) % win) = byteAt L i
theorem mod_add_self (a n : Nat) : (a + n) % n = a % n := Nat.add_mod_right a n
theorem byteAt_append_lt {L : List (BitVec 8)} {c : BitVec 8} {i : Nat} (h : i < L.length) : byteAt (L ++ [c]) i = byteAt L i := by
 simp [byteAt, List.getD_eq_getElem?_getD, List.getElem?_append_left h]
theorem byteAt_append_eq (L : List (BitVec 8)) (c : BitVec 8) : byteAt (L ++ [c]) L.length = c := by
 simp [byteAt, List.getD_eq_getElem?_getD]
theorem not_at {win at_ k : Nat} (hat : at_ < win) (h0 : 0 < k) (hk : k < win) : (at_ + k) % win ≠ at_ := by
 by_cases h : at_ + k < win
 ·rw [Nat.mod_eq_of_lt h]; omega
 ·rw [Nat.mod_eq_sub_mod (by omega), Nat.mod_eq_of_lt (by omega)]; omega
theorem next_at {win at_ k : Nat} (_hat : at_ < win) : ((at_ + 1) % win + k) % win = (at_ + 1 + k) % win := by rw [Nat.mod_add_mod]
theorem RState.push {win at_ : Nat} {L : List (BitVec 8)} {ring : Nat -> BitVec 8} (h : RState win L at_ ring) (c : BitVec 8) (hlt : L.length < win) :
  RState win (L ++ [c]) ((at_ + 1) % win) (fun i => if i = at_ then c else ring i) := by
 have h2 := h.lt
 refine ⟨by simp; omega, Nat.mod_lt _ (by omega), fun i hi => ?_⟩
 rw [List.length_append, List.length_singleton] at hi ⊢
 have e : ((at_ + 1) % win + (win - (L.length + 1)) + i) % win = (at_ + (win - L.length + i)) % win := by
  rw [Nat.add_assoc, next_at h2]; congr 1; omega
 rw [e]
 by_cases hi2 : i < L.length
 ·rw [if_neg (not_at h2 (by omega) (by omega)), byteAt_append_lt hi2, <- h.cells i hi2, Nat.add_assoc]
 ·have : i = L.length := by omega
  subst this
  rw [show win - L.length + L.length = win by omega, mod_add_self, Nat.mod_eq_of_lt h2, if_pos rfl, byteAt_append_eq]
theorem RState.slide {win at_ : Nat} {d : BitVec 8} {L : List (BitVec 8)} {ring : Nat -> BitVec 8} (h : RState win (d :: L) at_ ring) (c : BitVec 8) (he : L.length + 1 = win) :
  ring at_ = d /\ RState win (L ++ [c]) ((at_ + 1) % win) (fun i => if i = at_ then c else ring i) := by
 have h2 := h.lt
 have h0 := h.cells 0 (by simp)
 rw [List.length_cons, he, Nat.sub_self, Nat.add_zero, Nat.mod_eq_of_lt h2] at h0
 refine ⟨h0, by simp; omega, Nat.mod_lt _ (by omega), fun i hi => ?_⟩
 rw [List.length_append, List.length_singleton] at hi ⊢
 have e : ((at_ + 1) % win + (win - (L.length + 1)) + i) % win = (at_ + (1 + i)) % win := by
  rw [Nat.add_assoc, next_at h2]; congr 1; omega
 rw [e]
 by_cases hi2 : i < L.length
 ·rw [if_neg (not_at h2 (by omega) (by omega)), byteAt_append_lt hi2]
  have := h.cells (1 + i) (by simp; omega)
  rw [List.length_cons, he, Nat.sub_self, Nat.add_zero] at this
  rw [this]; simp [byteAt, List.getD_eq_getElem?_getD, Nat.add_comm]
 ·have : i = L.length := by omega
  subst this
  rw [show at_ + (1 + L.length) = at_ + win by omega, mod_add_self, Nat.mod_eq_of_lt h2, if_pos rfl, byteAt_append_eq]

def Roller (w : World) (b : Nat) (s : BitVec 32) (win : Nat) (L : List (BitVec 8)) : Prop := ∃ at_ ring, RollerAt w b s win L.length at_ (RollMath.sum s L) ring /\ RState win L at_ ring
def pushed (win : Nat) (L : List (BitVec 8)) (c : BitVec 8) : List (BitVec 8) := if L.length < win then L ++ [c] else L.drop 1 ++ [c]
def Puts (b : Nat) (w : World) (s : BitVec 32) (win : Nat) (L : List (BitVec 8)) (e : Ending) (w' : World) : Prop := e = .returned (U32 (RollMath.sum s L)) /\ Roller w' b s win L /\ Only b w w'

end Go.Proofs.YtbicafgmfgdckaaGreatDoor
namespace Go.Proofs.YtbicafgmfgdckaaGreatDoor
open Go Go.RowKit

theorem wrap_succ (n : Nat) (h : n <= 63) : IntKind.i64.wrap ((n : Int) + 1) = (n : Int) + 1 := IntWalk.i64_in _ (by omega)

set_option maxRecDepth 100000 in
set_option maxHeartbeats 2000000 in
theorem put_room (w : World) (b : Nat) (s x : BitVec 32) (win n at_ : Nat) (ring : Nat -> BitVec 8) (c : BitVec 8) (h : RollerAt w b s win n at_ x ring) (h1 : 1 <= win) (h63 : win <= 63) (hn : n < win) (hat : at_ < win) :
  Calls Tryz.prog 96 #[.pointer (some ⟨b, 0, none⟩), U8 c] w fun e w' =>
   e = .returned (U32 (RollMath.rot x 1 ^^^ RollMath.word s c)) /\ RollerAt w' b s win (n + 1) ((at_ + 1) % win) (RollMath.rot x 1 ^^^ RollMath.word s c) (fun i => if i = at_ then c else ring i) /\ Only b w w' := by
 obtain ⟨X, hX⟩ : ∃ X, RollMath.rot x 1 ^^^ RollMath.word s c = X := ⟨_, rfl⟩
 obtain ⟨ring', hR⟩ : ∃ r', (fun i => if i = at_ then c else ring i) = r' := ⟨_, rfl⟩
 rw [hX, hR]
 have HX := Lib.hid hX
 have HR := Lib.hid hR
 clear hX hR
 have c1 := h.win
 have c2 := h.x
 have c3 := h.word_at c
 have c4 := h.thawed 322
 have hi := idx8_lt c
 have ht : ((n : Int) == (win : Int)) = false := by rw [beq_eq_false_iff_ne]; omega
 go_enter Tryz.func96, Tryz.ntmps96
 go_wp2_with fail
 refine (ok_some w b win c1 h1).mono ?_
 rintro e w' ⟨rfl, rfl⟩
 go_wp2_with fail
 refine wp_region_mid 15 (by kernel_rfl) (by kernel_rfl) rfl ?_
 simp only [List.take_succ_cons, List.take_zero, List.drop_zero]
 repeat (first | go_big_quiet_step (exact turn32_quiet _ _ _ _) | quiet_step (exact turn32_quiet _ _ _ _))
 refine wpQuiet_nil ?_
 intro j
 rw [show ((1 : Int) % 32).toNat = 1 from rfl]
 go_wp2
 refine midPost_normal (rest_quiet (by kernel_rfl) ?_)
 simp only [List.drop_succ_cons, List.drop_nil]
 refine wpQuiet_nil ?_
 intro j'
 have h2 := ((h.drewN j).setX (RollMath.rot x 1 ^^^ RollMath.word s c)).drewN j'
 have o2 := ((Only.drewN b w j).trans (Only.set _ b 322 (U32 (RollMath.rot x 1 ^^^ RollMath.word s c)))).trans (Only.drewN b _ j')
 rw [HX.out] at h2 o2 ⊢
 generalize ((w.drewN j).setCell ⟨b, 322, none⟩ (U32 X)).drewN j' = w1 at *
 clear c1 c2 c3 c4 h
 have c1 := h2.win
 have c2 := h2.n
 have c3 := h2.thawed 320
 have hw := wrap_succ n (by omega)
 go_wp2_with fail
 go_quiet (fail)
 go_wp2_with fail
 have h3 := (h2.drewN nq).setN (n + 1)
 have o3 := (o2.trans (Only.drewN b _ nq)).trans (Only.set _ b 320 (.int .i64 ((n : Int) + 1)))
 rw [show (((n + 1 : Nat) : Int)) = (n : Int) + 1 from rfl] at h3
 generalize (w1.drewN nq).setCell ⟨b, 320, none⟩ (.int .i64 ((n : Int) + 1)) = w2 at *
 clear h2 o2 c1 c2 c3 hw ht
 have c1 := h3.at_
 have c2 := h3.thawed (256 + at_)
 have c3 := h3.ring at_ (by omega)
 have c4 : at_ < 63 := by omega
 refine wp_region_mid 9 (by kernel_rfl) (by kernel_rfl) rfl ?_
 simp only [List.take_succ_cons, List.take_zero, List.drop_zero]
 repeat (first | go_big_quiet_step (fail) | quiet_step (fail))
 refine wpQuiet_nil ?_
 intro j2
 go_wp2
 refine midPost_normal (rest_quiet (by kernel_rfl) ?_)
 simp only [List.drop_succ_cons, List.drop_nil]
 refine wpQuiet_nil ?_
 intro j3
 have h4 := ((h3.drewN j2).setRing at_ c4 c).drewN j3
 have o4 := ((o3.trans (Only.drewN b _ j2)).trans (Only.set _ b (256 + at_) (U8 c))).trans (Only.drewN b _ j3)
 generalize ((w2.drewN j2).setCell ⟨b, 256 + at_, none⟩ (U8 c)).drewN j3 = w3 at *
 rw [HR.out] at h4
 clear h3 o3 c1 c2 c3
 have c1 := h4.at_
 have c2 := h4.win
 have c3 := h4.thawed 321
 have hw := wrap_succ at_ (by omega)
 have c5 : (0 : Int) <= (at_ : Int) + 1 := by omega
 go_wp2_with fail
 refine wp_region_mid 13 (by kernel_rfl) (by kernel_rfl) rfl ?_
 simp only [List.take_succ_cons, List.take_zero, List.drop_zero]
 repeat (first | go_big_quiet_step (fail) | quiet_step (fail))
 refine wpQuiet_nil ?_
 intro j4
 go_wp2
 refine midPost_normal (rest_quiet (by kernel_rfl) ?_)
 simp only [List.drop_succ_cons, List.drop_nil]
 refine wpQuiet_nil ?_
 intro j5
 have h5 := ((h4.drewN j4).setAt ((at_ + 1) % win)).drewN j5
 have o5 := ((o4.trans (Only.drewN b _ j4)).trans (Only.set _ b 321 (.int .i64 (((at_ + 1) % win : Nat) : Int)))).trans (Only.drewN b _ j5)
 rw [show ((((at_ + 1) % win : Nat) : Int)) = ((at_ : Int) + 1) % (win : Int) from rfl] at h5 o5
 generalize ((w3.drewN j4).setCell ⟨b, 321, none⟩ (.int .i64 (((at_ : Int) + 1) % (win : Int)))).drewN j5 = w4 at *
 clear h4 o4 c1 c2 c3 hw
 have c1 := h5.x
 go_wp2
 go_ret
 exact ⟨rfl, h5, o5⟩
end Go.Proofs.YtbicafgmfgdckaaGreatDoor
namespace Go.Proofs.YtbicafgmfgdckaaGreatDoor
open Go Go.RowKit

set_option maxRecDepth 100000 in
set_option maxHeartbeats 2000000 in
theorem put_full (w : World) (b : Nat) (s x : BitVec 32) (win n at_ : Nat) (ring : Nat -> BitVec 8) (c : BitVec 8) (h : RollerAt w b s win n at_ x ring) (h1 : 1 <= win) (h63 : win <= 63) (hn : win = n) (hat : at_ < win) :
  Calls Tryz.prog 96 #[.pointer (some ⟨b, 0, none⟩), U8 c] w fun e w' =>
   e = .returned (U32 (RollMath.rot x 1 ^^^ RollMath.word s c ^^^ RollMath.rot (RollMath.word s (ring at_)) (win % 32))) /\ RollerAt w' b s win win ((at_ + 1) % win) (RollMath.rot x 1 ^^^ RollMath.word s c ^^^ RollMath.rot (RollMath.word s (ring at_)) (win % 32)) (fun i => if i = at_ then c else ring i) /\ Only b w w' := by
 subst hn
 obtain ⟨X, hX⟩ : ∃ X, RollMath.rot x 1 ^^^ RollMath.word s c = X := ⟨_, rfl⟩
 obtain ⟨ring', hR⟩ : ∃ r', (fun i => if i = at_ then c else ring i) = r' := ⟨_, rfl⟩
 obtain ⟨Y, hY⟩ : ∃ Y, X ^^^ RollMath.rot (RollMath.word s (ring at_)) (win % 32) = Y := ⟨_, rfl⟩
 rw [hX, hR, hY]
 have HY := Lib.hid hY
 clear hY
 have HX := Lib.hid hX
 have HR := Lib.hid hR
 clear hX hR
 have c1 := h.win
 have c2 := h.x
 have c3 := h.word_at c
 have c4 := h.thawed 322
 have hi := idx8_lt c
 go_enter Tryz.func96, Tryz.ntmps96
 go_wp2_with fail
 refine (ok_some w b win c1 h1).mono ?_
 rintro e w' ⟨rfl, rfl⟩
 go_wp2_with fail
 refine wp_region_mid 15 (by kernel_rfl) (by kernel_rfl) rfl ?_
 simp only [List.take_succ_cons, List.take_zero, List.drop_zero]
 repeat (first | go_big_quiet_step (exact turn32_quiet _ _ _ _) | quiet_step (exact turn32_quiet _ _ _ _))
 refine wpQuiet_nil ?_
 intro j
 rw [show ((1 : Int) % 32).toNat = 1 from rfl]
 go_wp2
 refine midPost_normal (rest_quiet (by kernel_rfl) ?_)
 simp only [List.drop_succ_cons, List.drop_nil]
 refine wpQuiet_nil ?_
 intro j'
 have h2 := ((h.drewN j).setX (RollMath.rot x 1 ^^^ RollMath.word s c)).drewN j'
 have o2 := ((Only.drewN b w j).trans (Only.set _ b 322 (U32 (RollMath.rot x 1 ^^^ RollMath.word s c)))).trans (Only.drewN b _ j')
 rw [HX.out] at h2 o2 ⊢
 generalize ((w.drewN j).setCell ⟨b, 322, none⟩ (U32 X)).drewN j' = w1 at *
 clear c1 c2 c3 c4 h
 have c1 := h2.win
 have c2 := h2.n
 go_wp2_with fail
 go_quiet (fail)
 have h2 := h2.drewN nq
 have o2 := o2.trans (Only.drewN b _ nq)
 generalize w1.drewN nq = w2 at *
 clear c1 c2
 have c1 := h2.win
 have c2 := h2.x
 have c3 := h2.thawed 322
 have c4 := h2.at_
 have c5 := h2.ring at_ (by omega)
 have c6 : at_ < 63 := by omega
 have c7 := h2.word_at (ring at_)
 have c8 := idx8_lt (ring at_)
 generalize ring at_ = d at *
 go_wp2_with fail
 refine wp_region_mid 26 (by kernel_rfl) (by kernel_rfl) rfl ?_
 simp only [List.take_succ_cons, List.take_zero, List.drop_zero]
 repeat (first | go_big_quiet_step (exact turn32_quiet _ _ _ _) | quiet_step (exact turn32_quiet _ _ _ _))
 refine wpQuiet_nil ?_
 intro k1
 rw [HY.out]
 go_wp2
 refine midPost_normal (rest_quiet (by kernel_rfl) ?_)
 simp only [List.drop_succ_cons, List.drop_nil]
 refine wpQuiet_nil ?_
 intro k2
 have h3 := ((h2.drewN k1).setX Y).drewN k2
 have o3 := ((o2.trans (Only.drewN b _ k1)).trans (Only.set _ b 322 (U32 Y))).trans (Only.drewN b _ k2)
 generalize ((w2.drewN k1).setCell ⟨b, 322, none⟩ (U32 Y)).drewN k2 = w2 at *
 clear h2 o2 c1 c2 c3 c4 c5 c6 c7 c8
 have c1 := h3.at_
 have c2 := h3.thawed (256 + at_)
 have c3 := h3.ring at_ (by omega)
 have c6 : at_ < 63 := by omega
 go_wp2_with fail
 refine wp_region_mid 9 (by kernel_rfl) (by kernel_rfl) rfl ?_
 simp only [List.take_succ_cons, List.take_zero, List.drop_zero]
 repeat (first | go_big_quiet_step (fail) | quiet_step (fail))
 refine wpQuiet_nil ?_
 intro j2
 go_wp2
 refine midPost_normal (rest_quiet (by kernel_rfl) ?_)
 simp only [List.drop_succ_cons, List.drop_nil]
 refine wpQuiet_nil ?_
 intro j3
 have h4 := ((h3.drewN j2).setRing at_ c6 c).drewN j3
 have o4 := ((o3.trans (Only.drewN b _ j2)).trans (Only.set _ b (256 + at_) (U8 c))).trans (Only.drewN b _ j3)
 generalize ((w2.drewN j2).setCell ⟨b, 256 + at_, none⟩ (U8 c)).drewN j3 = w3 at *
 rw [HR.out] at h4
 clear h3 o3 c1 c2 c3
 have c1 := h4.at_
 have c2 := h4.win
 have c3 := h4.thawed 321
 have hw := wrap_succ at_ (by omega)
 have c5 : (0 : Int) <= (at_ : Int) + 1 := by omega
 go_wp2_with fail
 refine wp_region_mid 13 (by kernel_rfl) (by kernel_rfl) rfl ?_
 simp only [List.take_succ_cons, List.take_zero, List.drop_zero]
 repeat (first | go_big_quiet_step (fail) | quiet_step (fail))
 refine wpQuiet_nil ?_
 intro j4
 go_wp2
 refine midPost_normal (rest_quiet (by kernel_rfl) ?_)
 simp only [List.drop_succ_cons, List.drop_nil]
 refine wpQuiet_nil ?_
 intro j5
 have h5 := ((h4.drewN j4).setAt ((at_ + 1) % win)).drewN j5
 have o5 := ((o4.trans (Only.drewN b _ j4)).trans (Only.set _ b 321 (.int .i64 (((at_ + 1) % win : Nat) : Int)))).trans (Only.drewN b _ j5)
 rw [show ((((at_ + 1) % win : Nat) : Int)) = ((at_ : Int) + 1) % (win : Int) from rfl] at h5 o5
 generalize ((w3.drewN j4).setCell ⟨b, 321, none⟩ (.int .i64 (((at_ : Int) + 1) % (win : Int)))).drewN j5 = w4 at *
 clear h4 o4 c1 c2 c3 hw
 have c1 := h5.x
 go_wp2
 go_ret
 exact ⟨rfl, h5, o5⟩
end Go.Proofs.YtbicafgmfgdckaaGreatDoor
namespace Go.Proofs.YtbicafgmfgdckaaGreatDoor
open Go Go.RowKit

theorem put_any (w : World) (b : Nat) (s : BitVec 32) (win : Nat) (L : List (BitVec 8)) (c : BitVec 8) (h : Roller w b s win L) (h63 : win <= 63) :
  Calls Tryz.prog 96 #[.pointer (some ⟨b, 0, none⟩), U8 c] w fun e w' => Puts b w s win (pushed win L c) e w' := by
 obtain ⟨at_, ring, h1, h2⟩ := h
 have h3 := h2.lt
 have h4 := h2.len
 by_cases hlt : L.length < win
 ·have e : pushed win L c = L ++ [c] := if_pos hlt
  rw [e]
  refine (put_room w b s _ win L.length at_ ring c h1 (by omega) h63 hlt h3).mono ?_
  rintro e w' ⟨he, hr, ho⟩
  rw [<- RollMath.sum_snoc] at he hr
  refine ⟨he, ⟨_, _, ?_, h2.push c hlt⟩, ho⟩
  rw [List.length_append, List.length_singleton]
  exact hr
 ·have e : pushed win L c = L.drop 1 ++ [c] := if_neg hlt
  rw [e]
  obtain ⟨d, L, rfl⟩ : ∃ d L', L = d :: L' := by
   cases L with
   | nil => simp at hlt; omega
   | cons d L' => exact ⟨d, L', rfl⟩
  rw [List.length_cons] at h4 hlt
  have hn : win = L.length + 1 := by omega
  obtain ⟨hd, hs⟩ := h2.slide c hn.symm
  refine (put_full w b s _ win _ at_ ring c h1 (by omega) h63 (by rw [List.length_cons]; exact hn) h3).mono ?_
  rintro e w' ⟨he, hr, ho⟩
  rw [hd, RollMath.rot_mod, hn, RollMath.sum_slide] at he hr
  rw [List.drop_succ_cons, List.drop_zero]
  refine ⟨he, ⟨_, _, ?_, hs⟩, ho⟩
  rw [List.length_append, List.length_singleton, <- hn]
  rw [<- hn] at hr
  exact hr
theorem value_any (w : World) (b : Nat) (s : BitVec 32) (win : Nat) (L : List (BitVec 8)) (h : Roller w b s win L) :
  Calls Tryz.prog 97 #[.pointer (some ⟨b, 0, none⟩)] w fun e w' => e = .returned (U32 (RollMath.sum s L)) /\ w = w' := by
 obtain ⟨at_, ring, h1, h2⟩ := h
 have h3 := h2.lt
 have OK := ok_some w b win h1.win (by omega)
 have c1 := h1.x
 generalize RollMath.sum s L = X at *
 clear h1 h2
 go_enter Tryz.func97, Tryz.ntmps97
 go_wp2_with fail
 refine OK.mono ?_
 rintro e w' ⟨rfl, rfl⟩
 go_wp2
 go_ret
 exact ⟨rfl, rfl⟩
theorem clear_any (w : World) (b : Nat) (s : BitVec 32) (win : Nat) (L : List (BitVec 8)) (h : Roller w b s win L) :
  Calls Tryz.prog 98 #[.pointer (some ⟨b, 0, none⟩)] w fun e w' => e = .returned (.tuple #[]) /\ Roller w' b s win [] /\ Only b w w' := by
 obtain ⟨at_, ring, h1, h2⟩ := h
 have h3 := h2.lt
 have OK := ok_some w b win h1.win (by omega)
 have c1 := h1.n
 have c2 := h1.at_
 have c3 := h1.x
 have c4 := h1.thawed 320
 have c5 := h1.thawed 321
 have c6 := h1.thawed 322
 generalize RollMath.sum s L = X at *
 generalize L.length = n at *
 go_enter Tryz.func98, Tryz.ntmps98
 go_wp2_with fail
 refine OK.mono ?_
 rintro e w' ⟨rfl, rfl⟩
 go_wp2
 refine bodyPost_end (results_none rfl _ _ _) rfl ⟨rfl, ⟨0, ring, ((h1.setN 0).setAt 0).setX 0#32, ⟨Nat.zero_le _, by omega, fun i hi => absurd hi (by simp)⟩⟩, ?_⟩
 exact ((Only.set w b 320 _).trans (Only.set _ b 321 _)).trans (Only.set _ b 322 _)
end Go.Proofs.YtbicafgmfgdckaaGreatDoor
namespace Go.Proofs.YtbicafgmfgdckaaGreatDoor
open Go Go.RowKit

def zeroCells : Array Value := (List.replicate 256 (U32 0#32) ++ (List.replicate 63 (U8 0#8) ++ [.int .i64 0, .int .i64 0, .int .i64 0, U32 0#32])).toArray
theorem zero_is (w : World) : Sem.run Tryz.prog (zeroValue 155) w = .ok (.agg zeroCells) w := by kernel_rfl
theorem zero_word (i : Nat) (h : i < 256) : zeroCells[i]? = some (U32 0#32) := by
 unfold zeroCells
 rw [List.getElem?_toArray, List.getElem?_append_left (by rw [List.length_replicate]; exact h), List.getElem?_replicate, if_pos h]
theorem zero_ring (i : Nat) (h : i < 63) : zeroCells[256 + i]? = some (U8 0#8) := by
 unfold zeroCells
 rw [List.getElem?_toArray, List.getElem?_append_right (by rw [List.length_replicate]; omega), List.length_replicate, Nat.add_sub_cancel_left, List.getElem?_append_left (by rw [List.length_replicate]; exact h), List.getElem?_replicate, if_pos h]
theorem zero_roller : ∃ Z : Array Value, (∀ w, Sem.run Tryz.prog (zeroValue 155) w = .ok (.agg Z) w) /\ Z.size = 323 /\ (∀ i, i < 256 -> Z[i]? = some (U32 0#32)) /\ (∀ i, i < 63 -> Z[256 + i]? = some (U8 0#8)) /\ Z[319]? = some (.int .i64 0) /\ Z[320]? = some (.int .i64 0) /\ Z[321]? = some (.int .i64 0) /\ Z[322]? = some (U32 0#32) :=
 ⟨zeroCells, zero_is, by kernel_rfl, zero_word, zero_ring, by kernel_rfl, by kernel_rfl, by kernel_rfl, by kernel_rfl⟩

theorem alloc_cell (w : World) (cs : Array Value) (E : TypeId) (i : Nat) : (w.alloc (.cells cs E)).cell? ⟨w.heap.size, i, none⟩ = cs[i]? := by
 unfold World.cell?; rw [heap_alloc_new]; simp
theorem alloc_thawed (w : World) (cs : Array Value) (E : TypeId) (i : Nat) : (w.alloc (.cells cs E)).frozen? ⟨w.heap.size, i, none⟩ = false := by
 rw [RowKit.frozen?_alloc_cells]
 simp [World.frozen?]

structure Fresh (w : World) (b : Nat) (s : BitVec 32) (win k : Nat) : Prop where
 words : ∀ i, i < 256 -> ∃ v, w.cell? ⟨b, i, none⟩ = some v /\ (i < k -> v = U32 (RollMath.word s (BitVec.ofNat 8 i)))
 ring : ∀ i, i < 63 -> w.cell? ⟨b, 256 + i, none⟩ = some (U8 0#8)
 win : w.cell? ⟨b, 319, none⟩ = some (.int .i64 win)
 n : w.cell? ⟨b, 320, none⟩ = some (.int .i64 (0 : Nat))
 at_ : w.cell? ⟨b, 321, none⟩ = some (.int .i64 (0 : Nat))
 x : w.cell? ⟨b, 322, none⟩ = some (U32 0#32)
 thawed : ∀ o, w.frozen? ⟨b, o, none⟩ = false
section
variable {w : World} {b : Nat} {s : BitVec 32} {win k : Nat}
theorem Fresh.drewN (h : Fresh w b s win k) (m : Nat) : Fresh (w.drewN m) b s win k := ⟨h.words, h.ring, h.win, h.n, h.at_, h.x, h.thawed⟩
theorem Fresh.step (h : Fresh w b s win k) (hk : k < 256) : Fresh (w.setCell ⟨b, k, none⟩ (U32 (RollMath.word s (BitVec.ofNat 8 k)))) b s win (k + 1) :=
 ⟨fun i hi => by
   by_cases e : i = k
   ·subst e
    obtain ⟨v, hv, _⟩ := h.words i hi
    exact ⟨_, set_same hv, fun _ => rfl⟩
   ·obtain ⟨v, hv, hw⟩ := h.words i hi
    exact ⟨v, set_other hv e, fun h2 => hw (by omega)⟩,
  fun i hi => set_other (h.ring i hi) (by omega), set_other h.win (by omega), set_other h.n (by omega), set_other h.at_ (by omega), set_other h.x (by omega), fun o => by rw [World.frozen?_setCell]; exact h.thawed o⟩
theorem Fresh.done (h : Fresh w b s win 256) (hw : 0 < win) : Roller w b s win [] :=
 ⟨0, fun _ => 0#8, ⟨fun i hi => by obtain ⟨v, hv, e⟩ := h.words i hi; rw [hv, e hi], h.ring, h.win, h.n, h.at_, h.x, h.thawed⟩, ⟨Nat.zero_le _, hw, fun i hi => absurd hi (by simp)⟩⟩
end
theorem fresh_new (w : World) (s : BitVec 32) (win : Nat) (Z : Array Value) (T : TypeId) (hs : Z.size = 323) (zw : ∀ i, i < 256 -> Z[i]? = some (U32 0#32)) (zr : ∀ i, i < 63 -> Z[256 + i]? = some (U8 0#8)) (z1 : Z[320]? = some (.int .i64 0)) (z2 : Z[321]? = some (.int .i64 0)) (z3 : Z[322]? = some (U32 0#32)) :
  Fresh (w.alloc (.cells (Z.setIfInBounds 319 (.int .i64 win)) T)) w.heap.size s win 0 := by
 refine ⟨fun i hi => ⟨U32 0#32, ?_, fun h => absurd h (by omega)⟩, fun i hi => ?_, ?_, ?_, ?_, ?_, fun o => alloc_thawed w _ T o⟩
 ·rw [alloc_cell, Array.getElem?_setIfInBounds_ne (by omega)]; exact zw i hi
 ·rw [alloc_cell, Array.getElem?_setIfInBounds_ne (by omega)]; exact zr i hi
 ·rw [alloc_cell, Array.getElem?_setIfInBounds_self_of_lt (by omega)]
 ·rw [alloc_cell, Array.getElem?_setIfInBounds_ne (by omega)]; exact z1
 ·rw [alloc_cell, Array.getElem?_setIfInBounds_ne (by omega)]; exact z2
 ·rw [alloc_cell, Array.getElem?_setIfInBounds_ne (by omega)]; exact z3
theorem word_quiet (s : BitVec 32) (c : BitVec 8) (w : World) (n : Nat) : Calls Tryz.prog 95 #[U32 s, U8 c] (w.drewN n) fun e w'' => e = .returned (U32 (RollMath.word s c)) /\ ∃ m, w'' = w.drewN m :=
 (word_any s c _).mono fun _ _ ⟨he, hw⟩ => ⟨he, n, hw.symm⟩
def FreshRel (w : World) (s : BitVec 32) (win : Nat) (i : Value) (wr : World) : Prop := ∃ k : Nat, k <= 256 /\ i = .int .i64 k /\ Fresh wr w.heap.size s win k /\ Below w.heap.size w wr

end Go.Proofs.YtbicafgmfgdckaaGreatDoor
namespace Go.Proofs.YtbicafgmfgdckaaGreatDoor
open Go Go.RowKit

theorem small_u8 (k : Nat) (h : k < 256) : Value.int .u8 (k : Int) = U8 (BitVec.ofNat 8 k) := by
 have : (BitVec.ofNat 8 k).toNat = k := by rw [BitVec.toNat_ofNat]; omega
 unfold U8; rw [this]
theorem word_small (s : BitVec 32) (k : Nat) (h : k < 256) (w : World) (n : Nat) : Calls Tryz.prog 95 #[U32 s, .int .u8 k] (w.drewN n) fun e w'' => e = .returned (U32 (RollMath.word s (BitVec.ofNat 8 k))) /\ ∃ m, w'' = w.drewN m := by
 rw [small_u8 k h]; exact word_quiet s _ w n

set_option maxRecDepth 100000 in
set_option maxHeartbeats 400000 in
theorem new_some (w : World) (s : BitVec 32) (win : Nat) (h1 : 1 <= win) (h63 : win <= 63) :
  Calls Tryz.prog 73 #[U32 s, .int .i64 win] w fun e w' => ∃ b, w.heap.size <= b /\ e = .returned (.tuple #[.pointer (some ⟨b, 0, none⟩), .int .i64 0]) /\ Roller w' b s win [] /\ Below w.heap.size w w' := by
 obtain ⟨Z, hz, hs, zw, zr, z0, z1, z2, z3⟩ := zero_roller
 go_enter Tryz.func73, Tryz.ntmps73
 go_wp2
 have hf := fresh_new w s win Z 155 hs zw zr z1 z2 z3
 have hb : Below w.heap.size w (w.alloc (.cells (Z.setIfInBounds 319 (.int .i64 win)) 155)) := (Below.refl _ _).alloc (Nat.le_refl _) _
 clear hz hs zw zr z0 z1 z2 z3
 generalize w.alloc (.cells (Z.setIfInBounds 319 (.int .i64 win)) 155) = w1 at *
 generalize Z.setIfInBounds 319 (.int .i64 win) = Z' at *
 generalize decide ((win : Int) < 1) = q1
 generalize decide ((63 : Int) < win) = q2
 go_loopw [17] (fun i wr => FreshRel w s win i wr) (fun i _ => 256 - (intOf i).toNat)
 case atStart => exact ⟨0, by omega, rfl, hf, hb⟩
 case round =>
  clear hf hb
  obtain ⟨k, hk, rfl, hf, hb⟩ := hrel
  by_cases hlt : k < 256
  ·obtain ⟨v, c1, _⟩ := hf.words k hlt
   have c2 := hf.thawed k
   have WQ := word_small s k hlt
   go_wp2_with fail
   refine wp_region_mid 9 (by kernel_rfl) (by kernel_rfl) rfl ?_
   simp only [List.take_succ_cons, List.take_zero, List.drop_zero]
   repeat (first | go_big_quiet_step (exact WQ _ _) | quiet_step (exact WQ _ _))
   refine wpQuiet_nil ?_
   intro j
   go_wp2
   refine midPost_normal (rest_quiet (by kernel_rfl) ?_)
   simp only [List.drop_succ_cons, List.drop_nil]
   refine wpQuiet_nil ?_
   intro j'
   have hf2 := Lib.hid (((hf.drewN j).step hlt).drewN j')
   have hb2 := Lib.hid (below_drewN ((below_drewN hb j).setCell (p := ⟨w.heap.size, k, none⟩) (Nat.le_refl _) (U32 (RollMath.word s (BitVec.ofNat 8 k)))) j')
   clear hf hb c1 c2
   go_wp2
   go_roundw
   case rel => exact ⟨k + 1, by omega, by go_num, hf2.out, hb2.out⟩
   case measure => simp [intOf]; omega
  ·obtain rfl : k = 256 := by omega
   go_wp2
   go_ret2
   exact ⟨_, Nat.le_refl _, rfl, hf.done h1, hb⟩
end Go.Proofs.YtbicafgmfgdckaaGreatDoor
namespace CutMath

abbrev B := BitVec 8
structure Sh where
 L : Nat
 M : Nat
 K : Nat
 W : Nat
 s : BitVec 32
structure Sh.Good (h : Sh) : Prop where
 w1 : 1 <= h.W
 w63 : h.W <= 63
 wl : h.W <= h.L
 lm : h.L <= h.M
 m : h.M <= 8192
 k : h.K <= 20

def lastB (n : Nat) (l : List B) : List B := l.drop (l.length - n)
def maskOf (k : Nat) : BitVec 32 := 1#32 <<< k - 1#32
def ends (h : Sh) (b : List B) : Bool := if b.length = h.M then true else if b.length < h.L then false else decide (RollMath.sum h.s (lastB h.W b) &&& maskOf h.K = 0#32)

theorem mask_mod (x : BitVec 32) (k : Nat) (hk : k <= 20) : x &&& maskOf k = 0#32 ↔ x.toNat % 2 ^ k = 0 := by
 have hp : 2 ^ k <= 2 ^ 20 := Nat.pow_le_pow_right (by decide) hk
 have hp0 : 0 < 2 ^ k := Nat.pow_pos (by decide)
 have hm : (maskOf k).toNat = 2 ^ k - 1 := by
  unfold maskOf
  have e : (1#32 <<< k).toNat = 2 ^ k := by
   rw [BitVec.toNat_shiftLeft, Nat.shiftLeft_eq]
   show 1 * 2 ^ k % 2 ^ 32 = 2 ^ k
   rw [Nat.one_mul, Nat.mod_eq_of_lt (by omega)]
  rw [BitVec.toNat_sub, e]
  show (2 ^ 32 - 1 + 2 ^ k) % 2 ^ 32 = 2 ^ k - 1
  omega
 rw [<- BitVec.toNat_inj, BitVec.toNat_and, hm, Nat.and_two_pow_sub_one_eq_mod]
 exact Iff.rfl

def feed (h : Sh) : List B -> List B -> List (List B) × List B
 | held, [] => ([], held)
 | held, c :: r => if ends h (held ++ [c]) then ((held ++ [c]) :: (feed h [] r).1, (feed h [] r).2) else feed h (held ++ [c]) r

theorem feed_nil (h : Sh) (held : List B) : feed h held [] = ([], held) := rfl
theorem feed_cons (h : Sh) (held : List B) (c : B) (r : List B) :
  feed h held (c :: r) = if ends h (held ++ [c]) then ((held ++ [c]) :: (feed h [] r).1, (feed h [] r).2) else feed h (held ++ [c]) r := rfl
theorem feed_append (h : Sh) : ∀ (a b held : List B), feed h held (a ++ b) = ((feed h held a).1 ++ (feed h (feed h held a).2 b).1, (feed h (feed h held a).2 b).2)
 | [], b, held => by simp [feed_nil]
 | c :: a, b, held => by
  rw [List.cons_append, feed_cons, feed_cons]
  split
  ·rw [feed_append h a b []]; rfl
  ·rw [feed_append h a b (held ++ [c])]
theorem feed_snoc (h : Sh) (a held : List B) (c : B) :
  feed h held (a ++ [c]) = if ends h ((feed h held a).2 ++ [c]) then ((feed h held a).1 ++ [(feed h held a).2 ++ [c]], []) else ((feed h held a).1, (feed h held a).2 ++ [c]) := by
 rw [feed_append, feed_cons]
 split <;> simp [feed_nil]
theorem feed_join (h : Sh) : ∀ (a held : List B), (feed h held a).1.flatten ++ (feed h held a).2 = held ++ a
 | [], held => by simp [feed_nil]
 | c :: a, held => by
  rw [feed_cons]
  split
  ·simp only [List.flatten_cons]
   rw [List.append_assoc, feed_join h a []]; simp
  ·rw [feed_join h a]; simp
def Open (h : Sh) (held : List B) : Prop := ∀ n, 1 <= n -> n <= held.length -> ends h (held.take n) = false
theorem open_nil (h : Sh) : Open h [] := fun n h1 h2 => by simp at h2; omega
theorem open_snoc {h : Sh} {held : List B} {c : B} (ho : Open h held) (he : ends h (held ++ [c]) = false) : Open h (held ++ [c]) := by
 intro n h1 h2
 rw [List.length_append, List.length_singleton] at h2
 by_cases hn : n <= held.length
 ·rw [List.take_append_of_le_length hn]; exact ho n h1 hn
 ·rw [List.take_of_length_le (by rw [List.length_append, List.length_singleton]; omega)]; exact he
theorem feed_open (h : Sh) : ∀ (a held : List B), Open h held -> Open h (feed h held a).2
 | [], _, ho => ho
 | c :: a, held, ho => by
  rw [feed_cons]
  split
  ·exact feed_open h a [] (open_nil h)
  ·rename_i he; exact feed_open h a _ (open_snoc ho (Bool.eq_false_iff.2 he))
def Whole (h : Sh) (c : List B) : Prop := ends h c = true /\ ∃ d x, c = d ++ [x] /\ Open h d
theorem open_lt {h : Sh} (g : h.Good) {held : List B} (ho : Open h held) : held.length < h.M := by
 have h1 := g.w1
 have h2 := g.wl
 have h3 := g.lm
 rcases Nat.lt_or_ge held.length h.M with hl | hl
 ·exact hl
 ·exfalso
  have := ho h.M (by omega) hl
  unfold ends at this
  rw [if_pos (by rw [List.length_take]; omega)] at this
  cases this
theorem feed_hit (h : Sh) : ∀ (r held : List B) (n : Nat), 1 <= n -> n <= r.length -> (∀ m, 1 <= m -> m < n -> ends h (held ++ r.take m) = false) -> ends h (held ++ r.take n) = true ->
  feed h held r = ((held ++ r.take n) :: (feed h [] (r.drop n)).1, (feed h [] (r.drop n)).2)
 | [], _, n, h1, h2, _, _ => by simp at h2; omega
 | c :: r, held, n, h1, h2, h3, h4 => by
  rw [feed_cons]
  by_cases hn : n = 1
  ·subst hn
   rw [if_pos (by simpa using h4)]
   simp
  ·have := h3 1 (Nat.le_refl _) (by omega)
   rw [if_neg (by simpa using this)]
   obtain ⟨m, rfl⟩ : ∃ m, n = m + 1 := ⟨n - 1, by omega⟩
   rw [feed_hit h r (held ++ [c]) m (by omega) (by simp at h2; omega) (fun j hj1 hj2 => by have := h3 (j + 1) (by omega) (by omega); simpa using this) (by simpa using h4)]
   simp
theorem feed_miss (h : Sh) : ∀ (r held : List B), (∀ m, 1 <= m -> m <= r.length -> ends h (held ++ r.take m) = false) -> feed h held r = ([], held ++ r)
 | [], held, _ => by simp [feed_nil]
 | c :: r, held, h3 => by
  rw [feed_cons, if_neg (by have := h3 1 (by omega) (by simp); simpa using this), feed_miss h r (held ++ [c]) (fun m h1 h2 => by have := h3 (m + 1) (by omega) (by simp; omega); simpa using this)]
  simp

def split (h : Sh) (b : List B) : List (List B) := (feed h [] b).1 ++ (if (feed h [] b).2 = [] then [] else [(feed h [] b).2])
def endedB (h : Sh) (b : List B) : Bool := decide ((feed h [] b).2 = [])
theorem split_join (h : Sh) (b : List B) : (split h b).flatten = b := by
 have := feed_join h b []
 unfold split
 split
 ·rename_i e; rw [e] at this; simpa using this
 ·rw [List.flatten_append]; simpa using this
theorem split_nil (h : Sh) : split h [] = [] := rfl
theorem split_hit {h : Sh} {r : List B} {n : Nat} (h1 : 1 <= n) (h2 : n <= r.length) (h3 : ∀ m, 1 <= m -> m < n -> ends h (r.take m) = false) (h4 : ends h (r.take n) = true) :
  split h r = r.take n :: split h (r.drop n) := by
 unfold split
 rw [feed_hit h r [] n h1 h2 (by simpa using h3) (by simpa using h4)]
 simp
theorem split_miss {h : Sh} {r : List B} (h3 : ∀ m, 1 <= m -> m <= r.length -> ends h (r.take m) = false) (hr : r ≠ []) : split h r = [r] := by
 unfold split
 rw [feed_miss h r [] (by simpa using h3)]
 simp [hr]
theorem ended_hit {h : Sh} {r : List B} {n : Nat} (h1 : 1 <= n) (h2 : n <= r.length) (h3 : ∀ m, 1 <= m -> m < n -> ends h (r.take m) = false) (h4 : ends h (r.take n) = true) :
  endedB h r = endedB h (r.drop n) := by
 unfold endedB
 rw [feed_hit h r [] n h1 h2 (by simpa using h3) (by simpa using h4)]
theorem ended_miss {h : Sh} {r : List B} (h3 : ∀ m, 1 <= m -> m <= r.length -> ends h (r.take m) = false) (hr : r ≠ []) : endedB h r = false := by
 unfold endedB
 rw [feed_miss h r [] (by simpa using h3)]
 simp [hr]
def pre (l : List (List B)) (p : Nat) : Nat := ((l.take p).map List.length).sum
theorem feed_few (h : Sh) : ∀ (a held : List B), (feed h held a).1.length <= a.length
 | [], _ => Nat.le_refl _
 | c :: a, held => by
  rw [feed_cons]
  split
  ·have := feed_few h a []; simp; omega
  ·have := feed_few h a (held ++ [c]); simp; omega
end CutMath
namespace Go.Proofs.YtbicafgmfgdckaaGreatDoor
open Go Go.RowKit

def lastN (n : Nat) (l : List (BitVec 8)) : List (BitVec 8) := l.drop (l.length - n)
theorem lastN_length (n : Nat) (l : List (BitVec 8)) : (lastN n l).length = min n l.length := by
 unfold lastN; rw [List.length_drop]; omega
theorem lastN_short {n : Nat} {l : List (BitVec 8)} (h : l.length <= n) : lastN n l = l := by
 unfold lastN; rw [show l.length - n = 0 by omega, List.drop_zero]
theorem pushed_last (n : Nat) (l : List (BitVec 8)) (c : BitVec 8) (hn : 0 < n) : pushed n (lastN n l) c = lastN n (l ++ [c]) := by
 unfold pushed
 rw [lastN_length]
 by_cases h : l.length < n
 ·rw [if_pos (by omega), lastN_short (by omega), lastN_short (by rw [List.length_append, List.length_singleton]; omega)]
 ·rw [if_neg (by omega)]
  unfold lastN
  rw [List.length_append, List.length_singleton, List.drop_drop, List.drop_append_of_le_length (by omega)]
  congr 2
  omega
theorem lastN_drop {n m : Nat} (l : List (BitVec 8)) (h : n + m <= l.length) : lastN n (l.drop m) = lastN n l := by
 unfold lastN; rw [List.drop_drop, List.length_drop]; congr 1; omega
theorem Roller.drewN {w : World} {b : Nat} {s : BitVec 32} {win : Nat} {L : List (BitVec 8)} (h : Roller w b s win L) (n : Nat) : Roller (w.drewN n) b s win L := by
 obtain ⟨at_, ring, h1, h2⟩ := h
 exact ⟨at_, ring, h1.drewN n, h2⟩
theorem Touch.of_only {F : Nat -> Prop} {b : Nat} {w w' : World} (h : Only b w w') (hb : F b) : Touch F w w' :=
 ⟨h.os, h.tape, h.output, h.size, fun k hk hn => h.block k hk (fun e => hn (Option.some.inj e ▸ hb))⟩

def shapeV (L M K W : Int) (s : BitVec 32) : Value := .agg #[.int .i64 L, .int .i64 M, .int .i64 K, .int .i64 W, U32 s]
def goodB (L M K W : Int) : Bool := decide (1 <= W /\ W <= 63 /\ W <= L /\ L <= M /\ M <= 8192 /\ 0 <= K /\ K <= 20)
end Go.Proofs.YtbicafgmfgdckaaGreatDoor
namespace Go.Proofs.YtbicafgmfgdckaaGreatDoor
open Go Go.RowKit

set_option maxRecDepth 100000 in
set_option maxHeartbeats 2000000 in
theorem check_yes (L M K W : Int) (s : BitVec 32) (w : World) (h1 : 1 <= W) (h2 : W <= 63) (h3 : W <= L) (h4 : L <= M) (h5 : M <= 8192) (h6 : 0 <= K) (h7 : K <= 20) :
  Calls Tryz.prog 20 #[shapeV L M K W s] w fun e w' => e = .returned (.int .i64 0) /\ Below w.heap.size w w' := by
 unfold shapeV
 go_enter Tryz.func20, Tryz.ntmps20
 go_wp2
 go_ret
 exact ⟨rfl, (Below.refl _ _).alloc (Nat.le_refl _) _⟩
set_option maxRecDepth 100000 in
set_option maxHeartbeats 2000000 in
theorem check_no (L M K W : Int) (s : BitVec 32) (w : World) (h : W < 1 \/ 63 < W \/ L < W \/ M < L \/ 8192 < M \/ K < 0 \/ 20 < K) :
  Calls Tryz.prog 20 #[shapeV L M K W s] w fun e w' => e = .returned (.int .i64 2) /\ Below w.heap.size w w' := by
 unfold shapeV
 have key : W < 1 \/ (1 <= W /\ 63 < W) \/ (1 <= W /\ W <= 63 /\ L < W) \/ (1 <= W /\ W <= 63 /\ W <= L /\ M < L) \/ (1 <= W /\ W <= 63 /\ W <= L /\ L <= M /\ 8192 < M) \/ (1 <= W /\ W <= 63 /\ W <= L /\ L <= M /\ M <= 8192 /\ K < 0) \/ (1 <= W /\ W <= 63 /\ W <= L /\ L <= M /\ M <= 8192 /\ 0 <= K /\ 20 < K) := by omega
 clear h
 rcases key with h1 | ⟨h1, h2⟩ | ⟨h1, h2, h3⟩ | ⟨h1, h2, h3, h4⟩ | ⟨h1, h2, h3, h4, h5⟩ | ⟨h1, h2, h3, h4, h5, h6⟩ | ⟨h1, h2, h3, h4, h5, h6, h7⟩
 all_goals
  go_enter Tryz.func20, Tryz.ntmps20
  go_wp2
  go_ret
  exact ⟨rfl, (Below.refl _ _).alloc (Nat.le_refl _) _⟩
theorem good_iff {L M K W : Int} : goodB L M K W = true ↔ 1 <= W /\ W <= 63 /\ W <= L /\ L <= M /\ M <= 8192 /\ 0 <= K /\ K <= 20 := by unfold goodB; rw [decide_eq_true_eq]
theorem bad_iff {L M K W : Int} : goodB L M K W = false ↔ W < 1 \/ 63 < W \/ L < W \/ M < L \/ 8192 < M \/ K < 0 \/ 20 < K := by
 unfold goodB; rw [decide_eq_false_iff_not]; omega
set_option maxRecDepth 100000 in
set_option maxHeartbeats 2000000 in
theorem refCheck_yes (L M K W : Int) (s : BitVec 32) (w : World) (h1 : 1 <= W) (h2 : W <= 63) (h3 : W <= L) (h4 : L <= M) (h5 : M <= 8192) (h6 : 0 <= K) (h7 : K <= 20) :
  Calls Tryz.prog 8 #[shapeV L M K W s] w fun e w' => e = .returned (.bool true) /\ Below w.heap.size w w' := by
 unfold shapeV
 go_enter Tryz.func8, Tryz.ntmps8
 go_wp2
 go_ret
 exact ⟨rfl, (Below.refl _ _).alloc (Nat.le_refl _) _⟩
set_option maxRecDepth 100000 in
set_option maxHeartbeats 2000000 in
theorem refCheck_no (L M K W : Int) (s : BitVec 32) (w : World) (h : W < 1 \/ 63 < W \/ L < W \/ M < L \/ 8192 < M \/ K < 0 \/ 20 < K) :
  Calls Tryz.prog 8 #[shapeV L M K W s] w fun e w' => e = .returned (.bool false) /\ Below w.heap.size w w' := by
 unfold shapeV
 have key : W < 1 \/ (1 <= W /\ 63 < W) \/ (1 <= W /\ W <= 63 /\ L < W) \/ (1 <= W /\ W <= 63 /\ W <= L /\ M < L) \/ (1 <= W /\ W <= 63 /\ W <= L /\ L <= M /\ 8192 < M) \/ (1 <= W /\ W <= 63 /\ W <= L /\ L <= M /\ M <= 8192 /\ K < 0) \/ (1 <= W /\ W <= 63 /\ W <= L /\ L <= M /\ M <= 8192 /\ 0 <= K /\ 20 < K) := by omega
 clear h
 rcases key with h1 | ⟨h1, h2⟩ | ⟨h1, h2, h3⟩ | ⟨h1, h2, h3, h4⟩ | ⟨h1, h2, h3, h4, h5⟩ | ⟨h1, h2, h3, h4, h5, h6⟩ | ⟨h1, h2, h3, h4, h5, h6, h7⟩
 all_goals
  go_enter Tryz.func8, Tryz.ntmps8
  go_wp2
  go_ret
  exact ⟨ret_bool (by first | rfl | (simp; omega)), (Below.refl _ _).alloc (Nat.le_refl _) _⟩
end Go.Proofs.YtbicafgmfgdckaaGreatDoor
