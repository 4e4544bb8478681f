/- 'bytes.HasPrefix', by the shelf's contract; the segment's first bytes. -/
import Derived.Test.YtmcdjkfmfhbbnaaDoorSalv
import Derived.Ground.NamesProg
import Derived.Shelf.Lay
import Derived.Shelf.Bytes.SlSmallAll
namespace Go.Proofs
open Go.Shelf
shelf_lay Lays.nb116 Nm 116 at Tryd as Tryd.lays116
end Go.Proofs
namespace Go.Proofs.YtmcdjkfmfhbbnaaDoor
open Go Go.RowKit Go.Shelf

def numsOf (l : List (BitVec 8)) : List Int := l.map fun b => (b.toNat : Int)
def byteOf (b : BitVec 8) : UInt8 := UInt8.ofNat b.toNat
theorem byteOf_inj {a b : BitVec 8} (h : byteOf a = byteOf b) : a = b := by
  have h1 := congrArg UInt8.toNat h
  unfold byteOf at h1
  have ha := a.isLt
  have hb := b.isLt
  rw [UInt8.toNat_ofNat', UInt8.toNat_ofNat'] at h1
  exact BitVec.eq_of_toNat_eq (by omega)
theorem bytesOf_nums (l : List (BitVec 8)) : Lib.bytesOf (numsOf l) = l.map byteOf := by
  unfold Lib.bytesOf numsOf
  rw [List.map_map]
  rfl
theorem map_byteOf_inj : ∀ (l m : List (BitVec 8)), l.map byteOf = m.map byteOf → l = m
  | [], [], _ => rfl
  | [], _ :: _, h => by simp at h
  | _ :: _, [], h => by simp at h
  | a :: l, b :: m, h => by
    rw [List.map_cons, List.map_cons] at h
    injection h with h1 h2
    rw [byteOf_inj h1, map_byteOf_inj l m h2]
theorem prefix_is (l m : List (BitVec 8)) : Lib.hasPrefix (Lib.bytesOf (numsOf l)) (Lib.bytesOf (numsOf m)) = (l.take m.length == m) := by
  rw [bytesOf_nums, bytesOf_nums]
  unfold Lib.hasPrefix
  rw [Bool.eq_iff_iff, List.isPrefixOf_iff_prefix, beq_iff_eq, List.prefix_iff_eq_take, List.length_map, ← List.map_take]
  exact ⟨fun h => (map_byteOf_inj _ _ h).symm, fun h => by rw [h]⟩
theorem Reads.bytesIn {w : World} {a : Option Addr} {cap : Nat} {l : List (BitVec 8)} (h : Reads w a cap l) : Lib.BytesIn w a l.length (numsOf l) := by
  rcases h.bytes with rfl | ⟨b, off, rfl, hb⟩
  · exact Lib.BytesIn.nil w a _
  · refine Lib.BytesIn.of_cells fun i hi => ?_
    rw [Addr.add_lit, hb i hi]
    unfold numsOf byteAt U8
    simp [List.getD_eq_getElem?_getD, List.getElem?_map, List.getElem?_eq_getElem hi]
theorem hasPrefix_any (a b : Option Addr) (cap cap' : Nat) (l m : List (BitVec 8)) (w : World) (h1 : Reads w a cap l) (h2 : Reads w b cap' m) :
    Calls Tryd.prog 38 #[.slice a l.length cap, .slice b m.length cap'] w fun e w' => e = .returned (.bool (l.take m.length == m)) ∧ w' = w := by
  have hcon := Any.bytes_HasPrefix_all Tryd.lays116 a b l.length cap m.length cap' (numsOf l) (numsOf m) w (by simp [numsOf]) (by simp [numsOf]) h1.fits h1.bytesIn h2.bytesIn
  rw [prefix_is] at hcon
  exact hcon
def magicL : List (BitVec 8) := [72#8, 79#8, 65#8, 82#8, 68#8, 83#8, 69#8, 71#8]
end Go.Proofs.YtmcdjkfmfhbbnaaDoor
