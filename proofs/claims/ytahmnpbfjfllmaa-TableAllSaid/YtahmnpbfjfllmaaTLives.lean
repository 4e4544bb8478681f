/- lives. -/
import Derived.Test.YtahmnpbfjfllmaaTPut
namespace Go.Proofs.Ytahmnpbfjfllmaa
open Go Go.RowKit

def oneKey : List (BitVec 8) := 1#8 :: List.replicate 31 0#8
theorem built_one : Program.built Try.prog 23 [(0, .int .u8 1)] = some (oneKey.map U8).toArray := by kernel_rfl
theorem lives_any (w : World) : Calls Try.prog 13 #[] w fun e w' => e = .returned (.bool true) ∧ Below w.heap.size w w' := by
  have hl : oneKey.length = 32 := rfl
  have hbo := built_one
  have PUT : ∀ (w1 : World) (h b : Nat) (t : TabAt w1 h b 8 (fun _ => zeroSlot) 0 0), Calls Try.prog 32 #[.pointer (some ⟨h, 0, none⟩), .agg (oneKey.map U8).toArray, .int .i64 7] w1 (PutPost w1 h b 8 0 (fun _ => zeroSlot) oneKey 7) := by
    intro w1 h b t
    obtain ⟨j, hj⟩ := Tab.found_of_room t.look.inv.room oneKey
    exact (put_new_any t oneKey rfl 7 j hj (by show ¬ (0 = 1); decide) (by decide)).mono fun _ _ q => q.weak
  have GET : ∀ (w1 : World) (h b c n g : Nat) (S : Nat → SlotI) (t : TabAt w1 h b c S n g) (hV : ∀ v, Tab.Has S c oneKey v ↔ some 7 = some v),
      Calls Try.prog 24 #[.pointer (some ⟨h, 0, none⟩), .agg (oneKey.map U8).toArray] w1 fun e w' => e = .returned (.tuple #[.int .i64 7, .bool true]) ∧ Below w1.heap.size w1 w' :=
    fun w1 h b c n g S t hV => get_any t oneKey rfl (some 7) hV
  generalize oneKey.map U8 = K at *
  go_enter Try.func13, Try.ntmps13
  go_wp2_with fail
  refine (tnew_any w).mono ?_
  rintro e w1 ⟨h, b, rfl, t, hh, hb, hbw⟩
  have hP := PUT w1 h b t
  clear PUT
  go_wp2_with (with_reducible refine at_build 23 ?_; go_must (refine wpList_built' rfl 23 _ rfl K.toArray (by go_simp) ?_))
  refine hP.mono ?_
  rintro e w2 ⟨rfl, b', c', S', n', g', t', hiff, hn, hb', ht⟩
  have hG := GET w2 h b' c' n' g' S' t' fun v => by
    rw [hiff oneKey v]
    constructor
    · rintro (⟨_, rfl⟩ | ⟨hn, _⟩)
      · rfl
      · exact (hn rfl).elim
    · intro e
      injection e with e
      exact .inl ⟨rfl, e.symm⟩
  clear GET
  go_wp2_with (with_reducible refine at_build 23 ?_; go_must (refine wpList_built' rfl 23 _ rfl K.toArray (by go_simp) ?_))
  refine hG.mono ?_
  rintro e w3 ⟨rfl, hb3⟩
  go_wp2
  go_ret
  have hb2 : Below w.heap.size w w2 := hbw.trans (ht.below (fun x e => by rcases e with e | e <;> omega) hbw.size)
  exact ⟨rfl, hb2.trans (hb3.mono hb2.size)⟩
end Go.Proofs.Ytahmnpbfjfllmaa
