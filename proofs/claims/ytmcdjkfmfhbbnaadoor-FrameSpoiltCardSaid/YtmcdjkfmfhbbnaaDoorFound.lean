/- What was found: how it is made, and which of it a text holds. -/
import Derived.Test.YtmcdjkfmfhbbnaaDoorFrameReadsW
import Derived.Test.YtmcdjkfmfhbbnaaDoorFrameBackW
namespace Go.Proofs.YtmcdjkfmfhbbnaaDoor
open Go Go.RowKit

/-- An entry that was found, where, and how long. -/
structure Fd where
  ent : Ent
  at_ : Nat
  n : Nat
def Fd.x (f : Fd) : List Value := [.int .i64 f.at_, .int .i64 f.n]
/-- Items that are these finds. -/
def AreFd (its : List Item) (L : List Fd) : Prop := its.map (fun it => (it.ent, it.x)) = L.map fun f => (f.ent, f.x)
theorem AreFd.length {its : List Item} {L : List Fd} (h : AreFd its L) : its.length = L.length := by
  have := congrArg List.length h
  simpa using this
theorem AreFd.snoc {its : List Item} {L : List Fd} (h : AreFd its L) (it : Item) (f : Fd) (h1 : it.ent = f.ent) (h2 : it.x = f.x) : AreFd (its ++ [it]) (L ++ [f]) := by
  unfold AreFd at *
  rw [List.map_append, List.map_append, h, List.map_singleton, List.map_singleton, h1, h2]
theorem AreFd.at {its : List Item} {L : List Fd} (h : AreFd its L) (i : Nat) (hi : i < L.length) : (itAt its i).ent = L[i].ent ∧ (itAt its i).x = L[i].x := by
  have hl := h.length
  have q := congrArg (fun l => l[i]?) h
  simp only [List.getElem?_map] at q
  rw [List.getElem?_eq_getElem hi, List.getElem?_eq_getElem (by omega)] at q
  simp only [Option.map_some, Option.some.injEq, Prod.mk.injEq] at q
  rw [itAt_lt (by omega)]
  exact q
theorem rd_n {l : List (BitVec 8)} (h : (rd l).err = 0) : 9 ≤ (rd l).n ∧ (rd l).n ≤ l.length := by
  obtain ⟨h9, hf, hnl, hs⟩ := rd_ok h
  rw [rd_yes h9 hf hnl hs]
  show 9 ≤ numAt l 4 ∧ numAt l 4 ≤ l.length
  refine ⟨?_, by omega⟩
  unfold fits at hf
  split at hf
  · have := of_decide_eq_true hf; omega
  · split at hf
    · have := of_decide_eq_true hf; omega
    · split at hf
      · have := of_decide_eq_true hf; omega
      · cases hf
def salvM : Nat → List (BitVec 8) → Nat → List Fd
  | 0, _, _ => []
  | f + 1, l, k => if k < l.length then (if (rd (l.drop k)).err = 0 then ⟨(rd (l.drop k)).ent, k, (rd (l.drop k)).n⟩ :: salvM f l (k + (rd (l.drop k)).n) else salvM f l (k + 1)) else []
def scanM : Nat → List (BitVec 8) → Nat → List Fd × Nat × Int
  | 0, _, k => ([], k, 0)
  | f + 1, l, k => if k < l.length then (if (rd (l.drop k)).err = 0 then (⟨(rd (l.drop k)).ent, k, (rd (l.drop k)).n⟩ :: (scanM f l (k + (rd (l.drop k)).n)).1, (scanM f l (k + (rd (l.drop k)).n)).2) else ([], k, (rd (l.drop k)).err)) else ([], k, 0)
theorem salv_end (f : Nat) (l : List (BitVec 8)) (k : Nat) (h : l.length ≤ k) : salvM f l k = [] := by
  cases f with
  | zero => rfl
  | succ f => rw [salvM, if_neg (by omega)]
theorem salv_yes {f : Nat} {l : List (BitVec 8)} {k : Nat} {E : Ent} {n : Nat} {er : Int} (h : k < l.length) (hR : rd (l.drop k) = ⟨E, n, er⟩) (he : er = 0) : salvM (f + 1) l k = ⟨E, k, n⟩ :: salvM f l (k + n) := by
  subst he
  rw [salvM, if_pos h, hR, if_pos rfl]
theorem salv_no {f : Nat} {l : List (BitVec 8)} {k : Nat} {E : Ent} {n : Nat} {er : Int} (h : k < l.length) (hR : rd (l.drop k) = ⟨E, n, er⟩) (he : er ≠ 0) : salvM (f + 1) l k = salvM f l (k + 1) := by
  rw [salvM, if_pos h, hR, if_neg he]
theorem scan_end (f : Nat) (l : List (BitVec 8)) (k : Nat) (h : l.length ≤ k) : scanM f l k = ([], k, 0) := by
  cases f with
  | zero => rfl
  | succ f => rw [scanM, if_neg (by omega)]
theorem scan_yes {f : Nat} {l : List (BitVec 8)} {k : Nat} {E : Ent} {n : Nat} {er : Int} (h : k < l.length) (hR : rd (l.drop k) = ⟨E, n, er⟩) (he : er = 0) : scanM (f + 1) l k = (⟨E, k, n⟩ :: (scanM f l (k + n)).1, (scanM f l (k + n)).2) := by
  subst he
  rw [scanM, if_pos h, hR, if_pos rfl]
theorem scan_no {f : Nat} {l : List (BitVec 8)} {k : Nat} {E : Ent} {n : Nat} {er : Int} (h : k < l.length) (hR : rd (l.drop k) = ⟨E, n, er⟩) (he : er ≠ 0) : scanM (f + 1) l k = ([], k, er) := by
  rw [scanM, if_pos h, hR, if_neg he]
theorem built_found' (p q : Int) (c0 c1 c2 c3 c4 c5 c6 c7 c8 c9 c10 c11 c12 c13 c14 c15 c16 c17 c18 c19 c20 c21 c22 c23 c24 c25 c26 c27 c28 c29 c30 c31 c32 c33 : Value) : Program.built Tryd.prog 54 [(0, .agg ([c0, c1, c2, c3, c4, c5, c6, c7, c8, c9, c10, c11, c12, c13, c14, c15, c16, c17, c18, c19, c20, c21, c22, c23, c24, c25, c26, c27, c28, c29, c30, c31, c32, c33] : List Value).toArray), (1, .int .i64 p), (2, .int .i64 q)] = some (([c0, c1, c2, c3, c4, c5, c6, c7, c8, c9, c10, c11, c12, c13, c14, c15, c16, c17, c18, c19, c20, c21, c22, c23, c24, c25, c26, c27, c28, c29, c30, c31, c32, c33] : List Value) ++ ([.int .i64 p, .int .i64 q] : List Value)).toArray := by kernel_rfl
theorem built_found (C : List Value) (hC : C.length = 34) (p q : Int) : Program.built Tryd.prog 54 [(0, .agg C.toArray), (1, .int .i64 p), (2, .int .i64 q)] = some (C ++ ([.int .i64 p, .int .i64 q] : List Value)).toArray := by
  match C, hC with
  | c0 :: c1 :: c2 :: c3 :: c4 :: c5 :: c6 :: c7 :: c8 :: c9 :: c10 :: c11 :: c12 :: c13 :: c14 :: c15 :: c16 :: c17 :: c18 :: c19 :: c20 :: c21 :: c22 :: c23 :: c24 :: c25 :: c26 :: c27 :: c28 :: c29 :: c30 :: c31 :: c32 :: c33 :: [], _ => exact built_found' p q c0 c1 c2 c3 c4 c5 c6 c7 c8 c9 c10 c11 c12 c13 c14 c15 c16 c17 c18 c19 c20 c21 c22 c23 c24 c25 c26 c27 c28 c29 c30 c31 c32 c33
theorem found_info : (Tryd.prog.info? 54).map (fun i => (i.zero, i.size, i.bytes)) = some (some (.agg (entC zeroEnt (.slice none 0 0) ++ ([.int .i64 0, .int .i64 0] : List Value)).toArray), 36, 80) := by kernel_rfl
theorem found_zsize : (Value.agg (entC zeroEnt (.slice none 0 0) ++ ([.int .i64 0, .int .i64 0] : List Value)).toArray).cells.size = 36 := by
  show (entC zeroEnt (.slice none 0 0) ++ ([.int .i64 0, .int .i64 0] : List Value)).toArray.size = 36
  rw [List.size_toArray, List.length_append, length_entC rfl]
  rfl
/-- The walk stands at an 'append': it waits there. -/
theorem hold_append {P : Program} {ops : Array Oper} {Q : Exit → Act → World → Prop} {rest : List Oper} {d : Option Tmp} {args : Array Operand} {ts : Array TypeId} {ty : TypeId} {pos : String} {after : Array Edge} {g : Option (Nat × Bool)} {a : Act} {w : World}
    (h : True → wpList P ops Q ({ dst := d, op := .call { callee := .builtin .append, args := args, argTypes := ts }, type := ty, pos, after, guard := g } :: rest) a w) : wpList P ops Q ({ dst := d, op := .call { callee := .builtin .append, args := args, argTypes := ts }, type := ty, pos, after, guard := g } :: rest) a w := h trivial
/-- Finds in memory of the call's own. -/
def FreshF (w : World) (l : List Item) : Prop := ∀ it ∈ l, ∀ ad, it.a = some ad → w.heap.size ≤ ad.block
def Founds (w : World) (v : Value) (its : List Item) (L : List Fd) (wr : World) : Prop :=
  OwnsIts wr w.heap.size 54 36 v its ∧ AreFd its L ∧ FreshF w its ∧ Below w.heap.size w wr
theorem founds_nil (w : World) : Founds w (.slice none 0 0) [] [] w := ⟨ownsIts_nil _ _ _ _, rfl, fun it h => by simp at h, Below.refl _ _⟩
def SalvPost (w : World) (l : List (BitVec 8)) (e : Ending) (w' : World) : Prop :=
  ∃ v its, e = .returned v ∧ Founds w v its (salvM l.length l 0) w'
def ScanPost (w : World) (l : List (BitVec 8)) (k : Nat) (e : Ending) (w' : World) : Prop :=
  ∃ v its, e = .returned (.tuple #[v, .int .i64 (scanM l.length l k).2.1, .int .i64 (scanM l.length l k).2.2]) ∧ Founds w v its (scanM l.length l k).1 w'
/-- Between two rounds. -/
def SalvRel (w : World) (l : List (BitVec 8)) (v i : Value) (wr : World) : Prop :=
  ∃ (k f : Nat) (its : List Item) (L : List Fd), i = .int .i64 k ∧ k ≤ l.length ∧ l.length ≤ k + f ∧ L ++ salvM f l k = salvM l.length l 0 ∧ L.length ≤ k ∧ Founds w v its L wr
def ScanRel (w : World) (l : List (BitVec 8)) (k0 : Nat) (v i : Value) (wr : World) : Prop :=
  ∃ (k f : Nat) (its : List Item) (L : List Fd), i = .int .i64 k ∧ k ≤ l.length ∧ l.length ≤ k + f ∧ L ++ (scanM f l k).1 = (scanM l.length l k0).1 ∧ (scanM f l k).2 = (scanM l.length l k0).2 ∧ L.length ≤ k ∧ Founds w v its L wr
end Go.Proofs.YtmcdjkfmfhbbnaaDoor
