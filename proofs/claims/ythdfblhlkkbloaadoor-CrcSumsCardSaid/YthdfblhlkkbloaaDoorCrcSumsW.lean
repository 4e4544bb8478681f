/- The law's walk: CrcSums. -/
import Derived.Test.YthdfblhlkkbloaaDoorLives
namespace Go.Proofs.YthdfblhlkkbloaaDoor
open Go Go.RowKit

theorem crcSums_walk (s : BitVec 32) (a : Option Addr) (cap : Nat) (l : List (BitVec 8)) (w : World) (hh : Half w) (hr : Reads w a cap l) :
    Calls Tryd.prog 3 #[U32 s, .slice a l.length cap] w fun e w' => e = .returned (.bool true) ∧ Below w.heap.size w w' := by
  go_enter Tryd.func3, Tryd.ntmps3
  go_wp2_with fail
  refine (cut_any _ _ l 300 _ _ rfl hr (by decide)).mono ?_
  rintro e w' ⟨rfl, rfl⟩
  have hm := hr.take 300
  have hlen : (l.take 300).length ≤ 300 := by rw [List.length_take]; omega
  generalize l.take 300 = m at *
  go_wp2_with fail
  refine (copy_any _ _ m _ hm (by omega)).mono ?_
  rintro e w1 ⟨v, rfl, ho, hb⟩
  obtain ⟨a1, c1, rfl, hr1⟩ := ho.reads
  have hm1 := hm.keeps (Keeps.below hb)
  have hh1 := hh.keeps (Keeps.below hb)
  go_wp2_with fail
  refine (sum_any _ _ m _ hh1 hr1).mono ?_
  rintro e w' ⟨rfl, rfl⟩
  go_wp2_with fail
  refine (refSum_any _ _ m _ hm1).mono ?_
  rintro e w' ⟨rfl, rfl⟩
  go_wp2_with fail
  refine (add_any _ _ _ m _ hh1 hr1).mono ?_
  rintro e w' ⟨rfl, rfl⟩
  go_wp2_with fail
  refine (refAdd_any _ _ _ m _ hm1).mono ?_
  rintro e w' ⟨rfl, rfl⟩
  go_wp2_with fail
  refine (same_any _ _ _ _ m m _ hr1 hm1).mono ?_
  rintro e w' ⟨n, rfl, rfl⟩
  rw [beq_self_eq_true]
  go_wp2_with fail
  refine (lives_any _ (hh1.keeps (Keeps.drewN _ n))).mono ?_
  rintro e w2 ⟨rfl, hb2⟩
  go_wp2
  go_ret
  exact ⟨rfl, (below_drewN hb n).trans (hb2.mono hb.size)⟩
end Go.Proofs.YthdfblhlkkbloaaDoor
