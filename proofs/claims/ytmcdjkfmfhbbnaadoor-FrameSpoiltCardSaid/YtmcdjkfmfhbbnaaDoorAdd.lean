/- The sums' functions: what each gives. -/
import Derived.Test.YtmcdjkfmfhbbnaaDoorR01
import Derived.Test.YtmcdjkfmfhbbnaaDoorCrcMath
namespace Go.Proofs.YtmcdjkfmfhbbnaaDoor
open Go Go.RowKit

/-- What the table of the nibbles holds for a register. -/
def nib (x : BitVec 32) : BitVec 32 := CrcMath.half.getD (x &&& 15#32).toNat 0#32
/-- The table, where the program keeps it. -/
def Half (w : World) : Prop := ∀ i, i < 16 → w.cell? ⟨0, i, none⟩ = some (U32 (CrcMath.half.getD i 0#32))
theorem Half.keeps {w w' : World} (h : Half w) (k : Keeps w w') : Half w' := fun i hi => k _ _ (h i hi)
theorem half_at {w : World} (h : Half w) (x : BitVec 32) : w.cell? ⟨0, idx (x &&& 15#32), none⟩ = some (U32 (nib x)) :=
  h _ (by unfold idx; rw [BitVec.toNat_and]; exact Nat.lt_succ_of_le Nat.and_le_right)
theorem and15_lt (x : BitVec 32) : idx (x &&& 15#32) < 16 := by unfold idx; rw [BitVec.toNat_and]; exact Nat.lt_succ_of_le Nat.and_le_right

theorem reg_step (X : BitVec 32) (c : BitVec 8) :
    ((X ^^^ BitVec.setWidth 32 c) >>> 4 ^^^ nib (X ^^^ BitVec.setWidth 32 c)) >>> 4 ^^^ nib ((X ^^^ BitVec.setWidth 32 c) >>> 4 ^^^ nib (X ^^^ BitVec.setWidth 32 c)) = CrcMath.upd X c :=
  CrcMath.upd_nibbles X c

set_option maxHeartbeats 400000 in
theorem add_some (s : BitVec 32) (b off cap : Nat) (l : List (BitVec 8)) (w : World) (hl : l.length ≤ 9223372036854775807) (hh : Half w) (hb : BytesAt w b off l) :
    Calls Tryd.prog 40 #[U32 s, .slice (some ⟨b, off, none⟩) l.length cap] w fun e w' => e = .returned (U32 (CrcMath.add s l)) ∧ w = w' := by
  go_enter Tryd.func40, Tryd.ntmps40
  go_wp2
  go_loop [5, 12] (fun x i => ∃ k : Nat, k ≤ l.length ∧ i = .int .i64 k ∧ x = U32 (CrcMath.reg (~~~ s) (l.take k))) (fun _ i => l.length - (intOf i).toNat)
  case atStart => exact ⟨0, Nat.zero_le _, rfl, rfl⟩
  case round =>
    obtain ⟨k, hk, rfl, rfl⟩ := hrel
    by_cases hlt : k < l.length
    · have hc := hb k hlt
      have h1 := half_at hh
      have h2 := and15_lt
      clear hh hb
      have hs : CrcMath.reg (~~~ s) (l.take (k + 1)) = CrcMath.upd (CrcMath.reg (~~~ s) (l.take k)) (byteAt l k) := by rw [take_snoc l k hlt, CrcMath.reg_snoc]
      have HS := Lib.hid hs; clear hs
      generalize CrcMath.reg (~~~ s) (l.take k) = X at *
      go_wp2
      go_round
      case rel => exact ⟨k + 1, by omega, by go_num, by rw [HS.out]; exact congrArg U32 (reg_step _ _)⟩
      case measure => simp [intOf]; omega
    · go_wp2
      go_ret
      exact ⟨ret_u32 (by rw [show k = l.length by omega, List.take_length]; rfl), rfl⟩
theorem add_none (s : BitVec 32) (a : Option Addr) (cap : Nat) (w : World) :
    Calls Tryd.prog 40 #[U32 s, .slice a 0 cap] w fun e w' => e = .returned (U32 (CrcMath.add s [])) ∧ w = w' := by
  go_enter Tryd.func40, Tryd.ntmps40
  go_wp2
  refine wp_loop_once ?_
  go_wp2
  go_ret
  exact ⟨ret_u32 (by simp [CrcMath.add, CrcMath.reg]), rfl⟩
theorem add_any (s : BitVec 32) (a : Option Addr) (cap : Nat) (l : List (BitVec 8)) (w : World) (hh : Half w) (hb : Reads w a cap l) :
    Calls Tryd.prog 40 #[U32 s, .slice a l.length cap] w fun e w' => e = .returned (U32 (CrcMath.add s l)) ∧ w = w' := by
  rcases hb.bytes with rfl | ⟨b, off, rfl, h⟩
  · exact add_none s a cap w
  · exact add_some s b off cap l w hb.len hh h
theorem sum_any (a : Option Addr) (cap : Nat) (l : List (BitVec 8)) (w : World) (hh : Half w) (hb : Reads w a cap l) :
    Calls Tryd.prog 31 #[.slice a l.length cap] w fun e w' => e = .returned (U32 (CrcMath.sum l)) ∧ w = w' := by
  go_enter Tryd.func31, Tryd.ntmps31
  go_wp2_with (go_at_call 40; refine (add_any 0#32 _ _ _ _ hh hb).mono ?_; rintro e w' ⟨rfl, rfl⟩)
  go_ret
  exact ⟨rfl, rfl⟩

end Go.Proofs.YtmcdjkfmfhbbnaaDoor
