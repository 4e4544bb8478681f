/- The small helpers of the document's first reference: what each gives. -/
import Derived.Test.YtmcdjkfmfhbbnaaDoorB
import Derived.Test.YtmcdjkfmfhbbnaaDoorProg
import Derived.Lib.Hide
import Derived.Deep.QuietTactic
import Derived.BigQuiet
namespace Go.Proofs.YtmcdjkfmfhbbnaaDoor
open Go Go.RowKit

theorem byteSlice : ByteSlice Tryd.prog 24 5 := ⟨by kernel_rfl, by kernel_rfl⟩
theorem ret_slice {a : Option Addr} {m n c : Nat} (h : m = n) : Ending.returned (.slice a m c) = .returned (.slice a n c) := by rw [h]
theorem ret_bool {a b : Bool} (h : a = b) : Ending.returned (.bool a) = .returned (.bool b) := by rw [h]
theorem ret_i64 {a b : Int} (h : a = b) : Ending.returned (.int .i64 a) = .returned (.int .i64 b) := by rw [h]
theorem ret_u32 {a b : BitVec 32} (h : a = b) : Ending.returned (U32 a) = .returned (U32 b) := by rw [h]
theorem ret_u64 {a b : BitVec 64} (h : a = b) : Ending.returned (U64 a) = .returned (U64 b) := by rw [h]

theorem cut_any (a : Option Addr) (cap : Nat) (l : List (BitVec 8)) (n : Nat) (N : Int) (w : World) (hN : (n : Int) = N) (hr : Reads w a cap l) (hn : n ≤ 1048576) :
    Calls Tryd.prog 18 #[.slice a l.length cap, .int .i64 N] w fun e w' => e = .returned (.slice a (l.take n).length cap) ∧ w = w' := by
  subst hN
  have hl := hr.fits
  have hc := hr.room
  by_cases h : n < l.length
  · rcases hr.bytes with rfl | ⟨b, off, rfl, _⟩
    · simp at h
    · clear hr
      go_enter Tryd.func18, Tryd.ntmps18
      go_wp2
      go_ret
      exact ⟨ret_slice (by rw [List.length_take]; omega), rfl⟩
  · clear hr
    go_enter Tryd.func18, Tryd.ntmps18
    go_wp2
    go_ret
    exact ⟨ret_slice (by rw [List.length_take]; omega), rfl⟩

/-- A number, put between two others. -/
def within (x lo hi : Int) : Int := if x < lo then lo else if hi < x then hi else x
theorem within_any (x lo hi : Int) (w : World) :
    Calls Tryd.prog 22 #[.int .i64 x, .int .i64 lo, .int .i64 hi] w fun e w' => e = .returned (.int .i64 (within x lo hi)) ∧ w = w' := by
  by_cases h1 : x < lo
  · go_enter Tryd.func22, Tryd.ntmps22
    go_wp2
    go_ret
    exact ⟨ret_i64 (by unfold within; omega), rfl⟩
  · by_cases h2 : hi < x
    · go_enter Tryd.func22, Tryd.ntmps22
      go_wp2
      go_ret
      exact ⟨ret_i64 (by unfold within; omega), rfl⟩
    · go_enter Tryd.func22, Tryd.ntmps22
      go_wp2
      go_ret
      exact ⟨ret_i64 (by unfold within; omega), rfl⟩

/-- What a copy is: bytes of the call's own; all that was there stays. -/
def Copies (w : World) (l : List (BitVec 8)) (e : Ending) (w' : World) : Prop := ∃ v, e = .returned v ∧ Owns w' w.heap.size 5 v l ∧ Below w.heap.size w w'
theorem copy_any (a : Option Addr) (cap : Nat) (l : List (BitVec 8)) (w : World) (hr : Reads w a cap l) (hl : l.length ≤ 140737488355328) :
    Calls Tryd.prog 19 #[.slice a l.length cap] w (Copies w l) := by
  go_enter Tryd.func19, Tryd.ntmps19
  go_wp2_with (at_builtin; refine wpList_append_bytes byteSlice rfl _ _ rfl w.heap.size (.slice none 0 0) [] rfl (owns_nil _ _ _) a cap l rfl hr (by simpa using hl) (Nat.le_refl _) ?_; intro v' w' h1 h2)
  go_ret
  exact ⟨_, rfl, h1, ⟨h2.os, h2.tape, h2.output, h2.size, fun k hk => h2.block k hk (by simp [Value.ownBlock])⟩⟩

/-- A test that reads in an order of its own. -/
def Tells (w : World) (b : Bool) (e : Ending) (w' : World) : Prop := ∃ n, e = .returned (.bool b) ∧ w' = w.drewN n
theorem same_some (b o c b' o' c' : Nat) (l m : List (BitVec 8)) (w : World) (hl : l.length ≤ 9223372036854775807) (he : l.length = m.length) (hb : BytesAt w b o l) (hb' : BytesAt w b' o' m) :
    Calls Tryd.prog 14 #[.slice (some ⟨b, o, none⟩) l.length c, .slice (some ⟨b', o', none⟩) m.length c'] w (Tells w (l == m)) := by
  rw [← he]
  have HE := Lib.hid he; clear he
  go_enter Tryd.func14, Tryd.ntmps14
  go_wp2
  go_loopw [5] (fun i wr => ∃ k n : Nat, k ≤ l.length ∧ i = .int .i64 k ∧ l.take k = m.take k ∧ wr = w.drewN n) (fun i _ => l.length - (intOf i).toNat)
  case atStart => exact ⟨0, 0, Nat.zero_le _, rfl, rfl, rfl⟩
  case round =>
    obtain ⟨k, n, hk, rfl, ht, rfl⟩ := hrel
    have HT := Lib.hid ht; clear ht
    by_cases hlt : k < l.length
    · have h1 := hb k hlt
      have hm : k < m.length := by rw [← HE.out]; exact hlt
      have h2 := hb' k hm
      clear hb hb'
      cases hne : byteAt l k != byteAt m k
      · go_wp2
        go_quiet (fail)
        go_wp2
        go_roundw
        case rel => exact ⟨k + 1, _, by omega, by go_num, by rw [take_snoc l k hlt, take_snoc m k hm, HT.out, show byteAt l k = byteAt m k by simpa using hne], rfl⟩
        case measure => simp [intOf]; omega
      · have hd : (l == m) = false := by
          rw [beq_eq_false_iff_ne]; intro e; rw [bne_iff_ne] at hne; exact hne (by rw [e])
        have HD := Lib.hid hd; clear hd
        go_wp2
        go_quiet (fail)
        go_wp2
        go_ret
        exact ⟨n + nq, ret_bool HD.out.symm, by rw [World.drewN_drewN]⟩
    · go_wp2
      go_ret
      refine ⟨_, ret_bool ?_, rfl⟩
      have e1 : k = l.length := by omega
      have e2 := HT.out
      rw [e1, List.take_length, HE.out, List.take_length] at e2
      rw [e2]; exact (beq_self_eq_true m).symm
theorem same_none (a a' : Option Addr) (c c' : Nat) (w : World) :
    Calls Tryd.prog 14 #[.slice a 0 c, .slice a' 0 c'] w (Tells w true) := by
  go_enter Tryd.func14, Tryd.ntmps14
  go_wp2
  refine wp_loop_once ?_
  go_wp2
  go_ret
  exact ⟨0, rfl, rfl⟩
theorem same_unlike (a a' : Option Addr) (c c' : Nat) (n n' : Nat) (w : World) (h : ((n : Int) != (n' : Int)) = true) :
    Calls Tryd.prog 14 #[.slice a n c, .slice a' n' c'] w (Tells w false) := by
  go_enter Tryd.func14, Tryd.ntmps14
  go_wp2
  go_ret
  exact ⟨0, rfl, rfl⟩
theorem same_any (a a' : Option Addr) (c c' : Nat) (l m : List (BitVec 8)) (w : World) (hl : Reads w a c l) (hm : Reads w a' c' m) :
    Calls Tryd.prog 14 #[.slice a l.length c, .slice a' m.length c'] w (Tells w (l == m)) := by
  by_cases h : l.length = m.length
  · rcases hl.bytes with rfl | ⟨b, o, rfl, hb⟩
    · have : m = [] := List.eq_nil_of_length_eq_zero (by simpa using h.symm)
      subst this
      exact same_none a a' c c' w
    · rcases hm.bytes with rfl | ⟨b', o', rfl, hb'⟩
      · have : l = [] := List.eq_nil_of_length_eq_zero (by simpa using h)
        subst this
        exact same_none _ a' c c' w
      · exact same_some b o c b' o' c' l m w hl.len h hb hb'
  · have : (l == m) = false := by rw [beq_eq_false_iff_ne]; intro e; exact h (by rw [e])
    rw [this]
    exact same_unlike a a' c c' _ _ w (by rw [bne_iff_ne]; omega)
end Go.Proofs.YtmcdjkfmfhbbnaaDoor
