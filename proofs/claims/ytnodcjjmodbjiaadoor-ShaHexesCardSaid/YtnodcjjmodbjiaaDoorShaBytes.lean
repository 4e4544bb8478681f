/- Numbers as bytes and back: GetBig, Put, Reverse, Big; the reference's Put, Back, Get. -/
import Derived.Test.YtnodcjjmodbjiaaDoorTurn
import Derived.Test.YtnodcjjmodbjiaaDoorE
namespace Go.Proofs.YtnodcjjmodbjiaaDoor
open Go Go.RowKit

/-- The number that these bytes are, the highest first. -/
def bigOf (l : List (BitVec 8)) : BitVec 64 := l.foldl (fun x c => x <<< 8 ||| c.setWidth 64) 0#64
theorem bigOf_snoc (l : List (BitVec 8)) (k : Nat) (h : k < l.length) : bigOf (l.take (k + 1)) = bigOf (l.take k) <<< 8 ||| (byteAt l k).setWidth 64 := by
  unfold bigOf
  rw [take_snoc l k h, List.foldl_append]; rfl
def BigRel (l : List (BitVec 8)) (w : World) (x i : Value) (wr : World) : Prop := ∃ k : Nat, k ≤ l.length ∧ i = .int .i64 k ∧ x = U64 (bigOf (l.take k)) ∧ wr = w
theorem getBig_any (b off cap : Nat) (l : List (BitVec 8)) (w : World) (h1 : 1 ≤ l.length) (h8 : l.length ≤ 8) (hb : BytesAt w b off l) :
    Calls Tryd.prog 44 #[.slice (some ⟨b, off, none⟩) l.length cap] w fun e w' => e = .returned (.tuple #[U64 (bigOf l), .bool true]) ∧ w = w' := by
  have hl0 : (1 : Int) ≤ l.length := by omega
  have hl8 : (l.length : Int) ≤ 8 := by omega
  go_enter Tryd.func44, Tryd.ntmps44
  go_wp2
  go_loopw [4, 17] (fun x i wr => BigRel l w x i wr) (fun _ i _ => l.length - (intOf i).toNat)
  case atStart => exact ⟨0, Nat.zero_le _, rfl, rfl, rfl⟩
  case round =>
    obtain ⟨k, hk, rfl, rfl, hw⟩ := hrel
    by_cases hlt : k < l.length
    · have hc : wr.cell? ⟨b, off + k, none⟩ = some (U8 (byteAt l k)) := hw ▸ hb k hlt
      have HW := Lib.hid hw
      have HS := Lib.hid (bigOf_snoc l k hlt)
      clear hw hb
      generalize byteAt l k = c at *
      go_wp2
      go_roundw
      case rel => exact ⟨k + 1, by omega, by go_num, by rw [HS.out], HW.out⟩
      case measure => simp [intOf]; omega
    · obtain rfl : k = l.length := by omega
      have HW := Lib.hid hw
      clear hw hb
      go_wp2
      go_ret2
      exact ⟨by rw [List.take_length]; rfl, HW.out.symm⟩
end Go.Proofs.YtnodcjjmodbjiaaDoor
