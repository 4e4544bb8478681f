/- The law's walk: RollGrows. -/
import Derived.Test.YtmmejcbiiojmlaaTurn
namespace Go.Proofs.Ytmmejcbiiojmlaa
open Go Go.RowKit

set_option maxHeartbeats 1000000 in
theorem rollGrows_walk (s : BitVec 32) (c : BitVec 8) (a : Option Addr) (cap : Nat) (l : List (BitVec 8)) (w : World) (hr : Reads w a cap l) :
    Calls Try.prog 5 #[U32 s, U8 c, .slice a l.length cap] w fun e w' => e = .returned (.bool true) ∧ Below w.heap.size w w' := by
  go_enter Try.func5, Try.ntmps5
  go_wp2_with fail
  refine (cut_any _ _ l 200 _ _ rfl hr (by decide)).mono ?_
  rintro e w' ⟨rfl, rfl⟩
  have hm := hr.take 200
  have hlen : (l.take 200).length ≤ 200 := by rw [List.length_take]; omega
  generalize l.take 200 = m at *
  generalize l.length = ll at *
  clear hr
  go_wp2_with fail
  refine (word_any _ _ _).mono ?_
  rintro e w' ⟨rfl, rfl⟩
  go_wp2_with fail
  refine (rollSum_any s _ _ m _ hm).mono ?_
  rintro e w' ⟨n, rfl, rfl⟩
  have hm1 := hm.keeps (Keeps.drewN w n)
  have hb1 := below_drewN (Below.refl w.heap.size w) n
  generalize w.drewN n = w1 at *
  have hm2 := hm1.keeps (Keeps.alloc w1 (.cells #[U8 c] 5))
  have hs1 := size_alloc w1 (.cells #[U8 c] 5)
  go_wp2_with (at_builtin; refine wpList_append_bytes byteSlice rfl _ _ rfl w1.heap.size _ [c] rfl (owns_one w1 c) a cap m rfl hm2 (by simp; omega) hs1 ?_; intro v2 w2 ho2 hg2)
  have hb2 : Below w1.heap.size w1 w2 := ((Below.refl w1.heap.size w1).alloc (Nat.le_refl _) _).grown hg2 hs1 (owns_block (owns_one w1 c))
  obtain ⟨a2, c2, rfl, rd2⟩ := ho2.reads
  have hm3 := hm1.keeps (Keeps.below hb2)
  have hbw := hb1.trans (hb2.mono hb1.size)
  clear ho2 hg2 hs1 hm2 hb2 hb1 hm1
  go_wp2_with fail
  refine (copy_any _ _ m _ hm3 (by omega)).mono ?_
  rintro e w3 ⟨v3, rfl, ho3, hb3⟩
  have hs3 := size_alloc w3 (.cells #[U8 c] 5)
  have ho3' := ho3.below (Below.alloc (Below.refl w3.heap.size w3) (Nat.le_refl _) (.cells #[U8 c] 5))
  have hsz := Nat.le_trans hb3.size hs3
  have hro := reads_one w3 c
  go_wp2_with (at_builtin; refine wpList_append_bytes byteSlice rfl _ _ rfl w2.heap.size v3 m rfl ho3' _ _ [c] rfl hro (by simp; omega) hsz ?_; intro v4 w4 ho4 hg4)
  have hb4 : Below w2.heap.size w2 w4 := (hb3.alloc hb3.size _).grown hg4 hsz (owns_block ho3)
  obtain ⟨a4, c4, rfl, rd4⟩ := ho4.reads
  have rd2' := rd2.keeps (Keeps.below hb4)
  have hbz := hbw.trans (hb4.mono hbw.size)
  clear ho4 hg4 hsz hro hs3 ho3' ho3 hb3 rd2 hb4 hm3 hbw
  have SA := fun v (hv : Reads v a2 c2 ([c] ++ m)) => sum_len s a2 c2 ([c] ++ m) v (m.length + 1) (by simp) hv
  have SB := fun v (hv : Reads v a4 c4 (m ++ [c])) => sum_len s a4 c4 (m ++ [c]) v (m.length + 1) (by simp) hv
  have E1 := grows_ahead s c m
  have E2 := grows_behind s c m
  have TA := fun v => turnTo_any (BitVec.setWidth 64 (RollMath.word s c)) m.length (by omega) v
  have TB : ∀ v, Calls Try.prog 16 #[U64 (BitVec.setWidth 64 (RollMath.sum s m)), .int .i64 1, .int .i64 32] v fun e w' => e = .returned (U64 (RollMath.turnTo (BitVec.setWidth 64 (RollMath.sum s m)) (1 % 32) 32)) ∧ v = w' := fun v => turnTo_any (BitVec.setWidth 64 (RollMath.sum s m)) 1 (by omega) v
  generalize RollMath.sum s ([c] ++ m) = XA at *
  generalize RollMath.sum s (m ++ [c]) = XB at *
  generalize RollMath.turnTo (BitVec.setWidth 64 (RollMath.word s c)) (m.length % 32) 32 = T1 at *
  generalize RollMath.turnTo (BitVec.setWidth 64 (RollMath.sum s m)) (1 % 32) 32 = T2 at *
  refine (SA _ rd2').mono ?_
  rintro e w' ⟨n1, rfl, rfl⟩
  have rd4 := rd4.keeps (Keeps.drewN w4 n1)
  have hbz := below_drewN hbz n1
  generalize w4.drewN n1 = w5 at *
  go_wp2_with fail
  refine (TA _).mono ?_
  rintro e w' ⟨rfl, rfl⟩
  go_wp2_with fail
  refine (SB _ rd4).mono ?_
  rintro e w' ⟨n2, rfl, rfl⟩
  have hbz := below_drewN hbz n2
  generalize w5.drewN n2 = w6 at *
  go_wp2_with fail
  refine (TB _).mono ?_
  rintro e w' ⟨rfl, rfl⟩
  go_wp2_with fail
  refine (lives_any _).mono ?_
  rintro e w7 ⟨rfl, hb7⟩
  go_wp2
  go_ret
  exact ⟨rfl, hbz.trans (hb7.mono hbz.size)⟩
end Go.Proofs.Ytmmejcbiiojmlaa
