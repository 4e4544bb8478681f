/- A roller in memory, and what its methods give. -/
import Derived.Test.YtbjaeofooaikkaaRoll
import Derived.Test.YtbjaeofooaikkaaD
namespace Go.Proofs.Ytbjaeofooaikkaa
open Go Go.RowKit

/-- A roller's cells: the words of all bytes, the ring, the window, how many bytes are in the ring, where the next one goes, the sum. -/
structure RollerAt (w : World) (b : Nat) (s : BitVec 32) (win n at_ : Nat) (x : BitVec 32) (ring : Nat → BitVec 8) : Prop where
  words : ∀ i, i < 256 → w.cell? ⟨b, i, none⟩ = some (U32 (RollMath.word s (BitVec.ofNat 8 i)))
  ring : ∀ i, i < 63 → w.cell? ⟨b, 256 + i, none⟩ = some (U8 (ring i))
  win : w.cell? ⟨b, 319, none⟩ = some (.int .i64 win)
  n : w.cell? ⟨b, 320, none⟩ = some (.int .i64 n)
  at_ : w.cell? ⟨b, 321, none⟩ = some (.int .i64 at_)
  x : w.cell? ⟨b, 322, none⟩ = some (U32 x)
  thawed : ∀ o, w.frozen? ⟨b, o, none⟩ = false

section
variable {w : World} {b : Nat} {s x : BitVec 32} {win n at_ : Nat} {ring : Nat → BitVec 8}
theorem RollerAt.word_at (h : RollerAt w b s win n at_ x ring) (c : BitVec 8) : w.cell? ⟨b, idx c, none⟩ = some (U32 (RollMath.word s c)) := by
  have := h.words c.toNat c.isLt
  rw [BitVec.ofNat_toNat, BitVec.setWidth_eq] at this
  exact this
end
theorem idx8_lt (c : BitVec 8) : idx c < 256 := c.isLt

theorem turn32_quiet (x : BitVec 32) (N : Int) (w : World) (n : Nat) : Calls Try.prog 39 #[U32 x, .int .i64 N] (w.drewN n) fun e w'' => e = .returned (U32 (RollMath.rot x (N % 32).toNat)) ∧ ∃ m, w'' = w.drewN m :=
  (turn32_any x N _).mono fun e w' ⟨m, he, hw⟩ => ⟨he, n + m, by rw [hw, World.drewN_drewN]⟩
theorem ok_some (w : World) (b win : Nat) (h : w.cell? ⟨b, 319, none⟩ = some (.int .i64 win)) (hw : 0 < win) :
    Calls Try.prog 38 #[.pointer (some ⟨b, 0, none⟩)] w fun e w' => e = .returned (.bool true) ∧ w = w' := by
  go_enter Try.func38, Try.ntmps38
  go_wp2
  go_ret
  exact ⟨rfl, rfl⟩

/-- Nothing but one block is written. -/
def Only (b : Nat) (w w' : World) : Prop := w.grownBy w' (some b)
theorem Only.refl (b : Nat) (w : World) : Only b w w := ⟨rfl, rfl, rfl, Nat.le_refl _, fun _ _ _ => rfl⟩
theorem Only.trans {b : Nat} {w w1 w2 : World} (h : Only b w w1) (k : Only b w1 w2) : Only b w w2 :=
  ⟨k.os.trans h.os, k.tape.trans h.tape, k.output.trans h.output, Nat.le_trans h.size k.size, fun i hi hne => (k.block i (Nat.lt_of_lt_of_le hi h.size) hne).trans (h.block i hi hne)⟩
theorem Only.drewN (b : Nat) (w : World) (n : Nat) : Only b w (w.drewN n) := ⟨rfl, rfl, rfl, Nat.le_refl _, fun _ _ _ => rfl⟩
theorem Only.set (w : World) (b o : Nat) (v : Value) : Only b w (w.setCell ⟨b, o, none⟩ v) :=
  ⟨rfl, rfl, rfl, by simp, fun k _ hk => Below.heap_setCell w ⟨b, o, none⟩ v k (fun e => hk (by rw [e]))⟩
theorem Only.below {b B : Nat} {w w' : World} (h : Only b w w') (hB : B ≤ b) (hw : B ≤ w.heap.size) : Below B w w' :=
  ⟨h.os, h.tape, h.output, h.size, fun k hk => h.block k (by omega) (by simp; omega)⟩

section
variable {w w' : World} {b : Nat} {s x : BitVec 32} {win n at_ : Nat} {ring : Nat → BitVec 8}
theorem RollerAt.drewN (h : RollerAt w b s win n at_ x ring) (m : Nat) : RollerAt (w.drewN m) b s win n at_ x ring := ⟨h.words, h.ring, h.win, h.n, h.at_, h.x, h.thawed⟩
theorem set_other {o o' : Nat} {v u : Value} (h : w.cell? ⟨b, o', none⟩ = some u) (hne : o' ≠ o) : (w.setCell ⟨b, o, none⟩ v).cell? ⟨b, o', none⟩ = some u := by
  rw [World.cell?_setCell_other _ _ _ _ (by intro e; injection e with _ e2; exact hne e2.symm)]; exact h
theorem set_same {o : Nat} {v u : Value} (h : w.cell? ⟨b, o, none⟩ = some u) : (w.setCell ⟨b, o, none⟩ v).cell? ⟨b, o, none⟩ = some v := World.cell?_setCell_same w _ v h
theorem RollerAt.setX (h : RollerAt w b s win n at_ x ring) (y : BitVec 32) : RollerAt (w.setCell ⟨b, 322, none⟩ (U32 y)) b s win n at_ y ring :=
  ⟨fun i hi => set_other (h.words i hi) (by omega), fun i hi => set_other (h.ring i hi) (by omega), set_other h.win (by omega), set_other h.n (by omega), set_other h.at_ (by omega), set_same h.x,
    fun o => by rw [World.frozen?_setCell]; exact h.thawed o⟩
theorem RollerAt.setN (h : RollerAt w b s win n at_ x ring) (m : Nat) : RollerAt (w.setCell ⟨b, 320, none⟩ (.int .i64 m)) b s win m at_ x ring :=
  ⟨fun i hi => set_other (h.words i hi) (by omega), fun i hi => set_other (h.ring i hi) (by omega), set_other h.win (by omega), set_same h.n, set_other h.at_ (by omega), set_other h.x (by omega),
    fun o => by rw [World.frozen?_setCell]; exact h.thawed o⟩
theorem RollerAt.setAt (h : RollerAt w b s win n at_ x ring) (m : Nat) : RollerAt (w.setCell ⟨b, 321, none⟩ (.int .i64 m)) b s win n m x ring :=
  ⟨fun i hi => set_other (h.words i hi) (by omega), fun i hi => set_other (h.ring i hi) (by omega), set_other h.win (by omega), set_other h.n (by omega), set_same h.at_, set_other h.x (by omega),
    fun o => by rw [World.frozen?_setCell]; exact h.thawed o⟩
theorem RollerAt.setRing (h : RollerAt w b s win n at_ x ring) (k : Nat) (hk : k < 63) (c : BitVec 8) : RollerAt (w.setCell ⟨b, 256 + k, none⟩ (U8 c)) b s win n at_ x (fun i => if i = k then c else ring i) :=
  ⟨fun i hi => set_other (h.words i hi) (by omega),
    fun i hi => by
      by_cases e : i = k
      · subst e; rw [if_pos rfl]; exact set_same (h.ring i hi)
      · rw [if_neg e]; exact set_other (h.ring i hi) (by omega),
    set_other h.win (by omega), set_other h.n (by omega), set_other h.at_ (by omega), set_other h.x (by omega), fun o => by rw [World.frozen?_setCell]; exact h.thawed o⟩
end

/-- What a roller is when it was given these bytes last. -/
structure RState (win : Nat) (L : List (BitVec 8)) (at_ : Nat) (ring : Nat → BitVec 8) : Prop where
  len : L.length ≤ win
  lt : at_ < win
  cells : ∀ i, i < L.length → ring ((at_ + (win - L.length) + i) % win) = byteAt L i
theorem mod_add_self (a n : Nat) : (a + n) % n = a % n := Nat.add_mod_right a n
theorem byteAt_append_lt {L : List (BitVec 8)} {c : BitVec 8} {i : Nat} (h : i < L.length) : byteAt (L ++ [c]) i = byteAt L i := by
  simp [byteAt, List.getD_eq_getElem?_getD, List.getElem?_append_left h]
theorem byteAt_append_eq (L : List (BitVec 8)) (c : BitVec 8) : byteAt (L ++ [c]) L.length = c := by
  simp [byteAt, List.getD_eq_getElem?_getD]
/-- The place is not that of the next byte. -/
theorem not_at {win at_ k : Nat} (hat : at_ < win) (h0 : 0 < k) (hk : k < win) : (at_ + k) % win ≠ at_ := by
  by_cases h : at_ + k < win
  · rw [Nat.mod_eq_of_lt h]; omega
  · rw [Nat.mod_eq_sub_mod (by omega), Nat.mod_eq_of_lt (by omega)]; omega
theorem next_at {win at_ k : Nat} (_hat : at_ < win) : ((at_ + 1) % win + k) % win = (at_ + 1 + k) % win := by rw [Nat.mod_add_mod]
theorem RState.push {win at_ : Nat} {L : List (BitVec 8)} {ring : Nat → BitVec 8} (h : RState win L at_ ring) (c : BitVec 8) (hlt : L.length < win) :
    RState win (L ++ [c]) ((at_ + 1) % win) (fun i => if i = at_ then c else ring i) := by
  have h2 := h.lt
  refine ⟨by simp; omega, Nat.mod_lt _ (by omega), fun i hi => ?_⟩
  rw [List.length_append, List.length_singleton] at hi ⊢
  have e : ((at_ + 1) % win + (win - (L.length + 1)) + i) % win = (at_ + (win - L.length + i)) % win := by
    rw [Nat.add_assoc, next_at h2]; congr 1; omega
  rw [e]
  by_cases hi2 : i < L.length
  · rw [if_neg (not_at h2 (by omega) (by omega)), byteAt_append_lt hi2, ← h.cells i hi2, Nat.add_assoc]
  · have : i = L.length := by omega
    subst this
    rw [show win - L.length + L.length = win by omega, mod_add_self, Nat.mod_eq_of_lt h2, if_pos rfl, byteAt_append_eq]
theorem RState.slide {win at_ : Nat} {d : BitVec 8} {L : List (BitVec 8)} {ring : Nat → BitVec 8} (h : RState win (d :: L) at_ ring) (c : BitVec 8) (he : L.length + 1 = win) :
    ring at_ = d ∧ RState win (L ++ [c]) ((at_ + 1) % win) (fun i => if i = at_ then c else ring i) := by
  have h2 := h.lt
  have h0 := h.cells 0 (by simp)
  rw [List.length_cons, he, Nat.sub_self, Nat.add_zero, Nat.mod_eq_of_lt h2] at h0
  refine ⟨h0, by simp; omega, Nat.mod_lt _ (by omega), fun i hi => ?_⟩
  rw [List.length_append, List.length_singleton] at hi ⊢
  have e : ((at_ + 1) % win + (win - (L.length + 1)) + i) % win = (at_ + (1 + i)) % win := by
    rw [Nat.add_assoc, next_at h2]; congr 1; omega
  rw [e]
  by_cases hi2 : i < L.length
  · rw [if_neg (not_at h2 (by omega) (by omega)), byteAt_append_lt hi2]
    have := h.cells (1 + i) (by simp; omega)
    rw [List.length_cons, he, Nat.sub_self, Nat.add_zero] at this
    rw [this]; simp [byteAt, List.getD_eq_getElem?_getD, Nat.add_comm]
  · have : i = L.length := by omega
    subst this
    rw [show at_ + (1 + L.length) = at_ + win by omega, mod_add_self, Nat.mod_eq_of_lt h2, if_pos rfl, byteAt_append_eq]

/-- A roller that was given these bytes last. -/
def Roller (w : World) (b : Nat) (s : BitVec 32) (win : Nat) (L : List (BitVec 8)) : Prop := ∃ at_ ring, RollerAt w b s win L.length at_ (RollMath.sum s L) ring ∧ RState win L at_ ring
/-- One byte more. -/
def pushed (win : Nat) (L : List (BitVec 8)) (c : BitVec 8) : List (BitVec 8) := if L.length < win then L ++ [c] else L.drop 1 ++ [c]
/-- What Put gives. -/
def Puts (b : Nat) (w : World) (s : BitVec 32) (win : Nat) (L : List (BitVec 8)) (e : Ending) (w' : World) : Prop := e = .returned (U32 (RollMath.sum s L)) ∧ Roller w' b s win L ∧ Only b w w'

end Go.Proofs.Ytbjaeofooaikkaa
