/- A key's home. -/
import Derived.Test.YtahmnpbfjfllmaaMem
import Derived.Laws.Bits64
namespace Go.Proofs.Ytahmnpbfjfllmaa
open Go Go.RowKit

theorem and_pow (x c : Nat) (hx : x < 1099511627776) (hc : ∃ m, c = 2 ^ m) (hs : c ≤ 1048576) : bits .and .i64 (x : Int) ((c : Int) - 1) = ((x % c : Nat) : Int) := by
  obtain ⟨m, rfl⟩ := hc
  have hm : m ≤ 20 := by
    rcases Nat.lt_or_ge 20 m with h | h
    · have := Nat.pow_lt_pow_right (a := 2) (by decide) h
      omega
    · exact h
  have hp := Nat.two_pow_pos m
  have h := (bits_nat .i64 63 (by decide) (fun n h0 h1 => by rw [IntKind.wrap_i64]; omega) x (2 ^ m - 1) (by omega) (by omega)).1
  rw [show (((2 ^ m : Nat) : Int) - 1) = ((2 ^ m - 1 : Nat) : Int) by omega, h, Nat.and_two_pow_sub_one_eq_mod]
theorem home_any (k : List (BitVec 8)) (hk : k.length = 32) (c : Nat) (hp : ∃ m, c = 2 ^ m) (hc : 8 ≤ c ∧ c ≤ 1048576) (w : World) :
    Calls Try.prog 55 #[.agg (k.map U8).toArray, .int .i64 c] w fun e w' => e = .returned (.int .i64 (Tab.place k c 0)) ∧ Below w.heap.size w w' := by
  have row : (w.alloc (.cells (k.map U8).toArray 23)).heap[w.heap.size]? = some (.cells (k.map U8).toArray 23 (0, 0)) := heap_alloc_new w _
  have cell : ∀ i, i < 32 → (w.alloc (.cells (k.map U8).toArray 23)).cell? ⟨w.heap.size, i, none⟩ = some (U8 (byteAt k i)) := fun i hi => by
    rw [cell_of_row _ _ _ _ _ _ row]
    simp [byteAt, List.getD_eq_getElem?_getD, List.getElem?_eq_getElem (show i < k.length by omega)]
  have c0 := cell 0 (by decide)
  have c1 := cell 1 (by decide)
  have c2 := cell 2 (by decide)
  have c3 := cell 3 (by decide)
  have hb : Below w.heap.size w (w.alloc (.cells (k.map U8).toArray 23)) := (Below.refl _ _).alloc (Nat.le_refl _) _
  have hn : Tab.place k c 0 = ((((byteAt k 0).setWidth 32 ||| (byteAt k 1).setWidth 32 <<< 8) ||| (byteAt k 2).setWidth 32 <<< 16) ||| (byteAt k 3).setWidth 32 <<< 24 : BitVec 32).toNat % c := by
    unfold Tab.place Tab.num
    rw [Nat.add_zero]; rfl
  rw [hn]
  clear cell hn row
  generalize byteAt k 0 = x0 at *
  generalize byteAt k 1 = x1 at *
  generalize byteAt k 2 = x2 at *
  generalize byteAt k 3 = x3 at *
  obtain ⟨X, hX⟩ : ∃ X : BitVec 32, ((x0.setWidth 32 ||| x1.setWidth 32 <<< 8) ||| x2.setWidth 32 <<< 16) ||| x3.setWidth 32 <<< 24 = X := ⟨_, rfl⟩
  rw [hX]
  have AND := and_pow X.toNat c (by have := X.isLt; omega) hp hc.2
  generalize (k.map U8).toArray = K at *
  obtain ⟨hc1, hc2⟩ := hc
  clear hp
  go_enter Try.func55, Try.ntmps55
  go_wp2
  go_ret
  exact ⟨rfl, hb⟩
end Go.Proofs.Ytahmnpbfjfllmaa
