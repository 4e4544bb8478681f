/- Slices of slices of bytes; slices of numbers: for any program. -/
import Derived.Test.YtahmnpbfjfllmaaB
namespace Go.Proofs.Ytahmnpbfjfllmaa
open Go Go.RowKit

/-- The address of 's[n:]'. -/
def dropAddr (a : Option Addr) (cap n : Nat) : Option Addr := if cap = n then a else a.map (·.add n)
theorem add_zero' (a : Addr) : a.add 0 = a := by simp [Addr.add]
theorem map_add_zero (a : Option Addr) : a.map (fun x => x.add 0) = a := by cases a <;> simp [add_zero']

section
variable {P : Program} {t e : TypeId} (T : ByteSlice P t e) (w : World) (a : Option Addr) (len cap : Nat)
include T
/-- 's[n:]' -/
theorem run_slice_from (k : IntKind) (n : Nat) (N : Int) (hN : N = n) (hn : n ≤ len) : (Instr.slice t (.slice a len cap) (some (.int k N)) none none).run P w = .ok (.slice (dropAddr a cap n) (len - n) (cap - n)) w := by
  obtain ⟨i, hi, _, hz1, _⟩ := info_parts T.info
  subst hN
  have hn' : (n : Int) ≤ (len : Int) := by omega
  simp [Instr.slice, run_underlying T.slice, Instr.sliceBounds, Instr.sliceBound, asIntOf, hn, sizeOf, typeInfo, hi, hz1, dropAddr]
/-- 's[:n]' -/
theorem run_slice_to (k : IntKind) (n : Nat) (N : Int) (hN : N = n) (hn : n ≤ cap) : (Instr.slice t (.slice a len cap) none (some (.int k N)) none).run P w = .ok (.slice a n cap) w := by
  obtain ⟨i, hi, _, _, _⟩ := info_parts T.info
  subst hN
  simp [Instr.slice, run_underlying T.slice, Instr.sliceBounds, Instr.sliceBound, asIntOf, hn, sizeOf, typeInfo, hi, map_add_zero]
/-- 's[m:n]' -/
theorem run_slice_both (k k' : IntKind) (m n : Nat) (M N : Int) (hM : M = m) (hN : N = n) (hmn : m ≤ n) (hn : n ≤ cap) :
    (Instr.slice t (.slice a len cap) (some (.int k M)) (some (.int k' N)) none).run P w = .ok (.slice (dropAddr a cap m) (n - m) (cap - m)) w := by
  obtain ⟨i, hi, _, hz1, _⟩ := info_parts T.info
  subst hM hN
  have h2 : m ≤ cap := by omega
  simp [Instr.slice, run_underlying T.slice, Instr.sliceBounds, Instr.sliceBound, asIntOf, hn, hmn, sizeOf, typeInfo, hi, hz1, dropAddr]
end

theorem Reads.drop {w : World} {a : Option Addr} {cap : Nat} {l : List (BitVec 8)} (h : Reads w a cap l) (n : Nat) (hn : n ≤ l.length) : Reads w (dropAddr a cap n) (cap - n) (l.drop n) := by
  have h1 := h.fits
  have h2 := h.room
  refine ⟨by rw [List.length_drop]; omega, by omega, ?_, ?_⟩
  · intro e
    unfold dropAddr at e
    split at e
    · rename_i hc; omega
    · have : a = none := by cases a <;> simp_all
      have := h.null this; omega
  · by_cases hd : l.drop n = []
    · exact .inl hd
    · right
      have hlt : n < l.length := by
        rcases Nat.lt_or_ge n l.length with h' | h'
        · exact h'
        · exact (hd (List.drop_eq_nil_of_le h')).elim
      rcases h.bytes with rfl | ⟨b, off, rfl, hb⟩
      · simp at hlt
      · refine ⟨b, off + n, ?_, hb.drop n⟩
        unfold dropAddr
        rw [if_neg (by omega), Option.map_some, Addr.add_lit]

/-- A slice of numbers of 64 bits. -/
def IntsAt (w : World) (b off : Nat) (l : List Int) : Prop := ∀ i, i < l.length → w.cell? ⟨b, off + i, none⟩ = some (.int .i64 (l.getD i 0))
structure IReads (w : World) (a : Option Addr) (cap : Nat) (l : List Int) : Prop where
  fits : l.length ≤ cap
  room : cap ≤ 9223372036854775807
  null : a = none → cap = 0
  ints : l = [] ∨ ∃ b off, a = some ⟨b, off, none⟩ ∧ IntsAt w b off l
  bounds : ∀ i, i < l.length → -9223372036854775808 ≤ l.getD i 0 ∧ l.getD i 0 ≤ 9223372036854775807
theorem IReads.keeps {w w' : World} {a : Option Addr} {cap : Nat} {l : List Int} (h : IReads w a cap l) (k : Keeps w w') : IReads w' a cap l := by
  refine ⟨h.fits, h.room, h.null, ?_, h.bounds⟩
  rcases h.ints with e | ⟨b, off, e, hb⟩
  · exact .inl e
  · exact .inr ⟨b, off, e, fun i hi => k _ _ (hb i hi)⟩
end Go.Proofs.Ytahmnpbfjfllmaa
