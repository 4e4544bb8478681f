/- The reference's Encode. -/
import Derived.Test.YtmcdjkfmfhbbnaaDoorEnc
import Derived.Test.YtmcdjkfmfhbbnaaDoorRefAdd
namespace Go.Proofs.YtmcdjkfmfhbbnaaDoor
open Go Go.RowKit

theorem rsum_at {a : Option Addr} {cap n : Nat} (l : List (BitVec 8)) (w : World) (hn : l.length = n) (hb : Reads w a cap l) :
    Calls Tryd.prog 33 #[.slice a n cap] w fun e w' => e = .returned (U32 (CrcMath.sum l)) ∧ w = w' := by
  subst hn; exact refSum_any a cap l w hb
set_option maxHeartbeats 1000000 in
theorem rencode_no (e : Ent) (a : Option Addr) (cap : Nat) (hk : e.key.length = 32) (hl : e.data.length ≤ 1048576) (w : World) (hc : chk e ≠ 0) :
    Calls Tryd.prog 13 #[.agg (entC e (.slice a e.data.length cap)).toArray] w (EncPost w e) := by
  have hE := entAt_alloc w e (.slice a e.data.length cap) 26 hk
  have c0 := hE.c0
  have c33 := hE.c33
  have ck := hE.ck
  rw [Nat.zero_add] at c33 ck
  have hik : (Tryd.prog.info? 23).map (·.size) = some (e.key.map U8).length := by rw [List.length_map, hk]; kernel_rfl
  have hb := (Below.refl w.heap.size w).alloc (Nat.le_refl _) (.cells (entC e (.slice a e.data.length cap)).toArray 26)
  have hbk := built_key
  have hnk := run_neq_key e.key zeroKey hk rfl
  have he : enc e = [] := by unfold enc; rw [if_neg hc]
  unfold EncPost
  rw [he]
  obtain ⟨c, hcc⟩ : ∃ c, chk e = c := ⟨_, rfl⟩
  rw [hcc]
  have hcases : (e.tag < 0 ∧ c = 4) ∨ (0 ≤ e.tag ∧ 2 < e.tag ∧ c = 4) ∨ (e.tag = 0 ∧ 16384 < e.data.length ∧ c = 5) ∨ (e.tag = 1 ∧ 0 < e.data.length ∧ c = 4) ∨ (e.tag = 2 ∧ 0 < e.data.length ∧ c = 4) ∨ (e.tag = 2 ∧ e.data.length = 0 ∧ (e.key == zeroKey) = false ∧ c = 4) := by
    unfold chk at hcc hc
    split at hcc
    · rename_i h0
      rw [if_pos h0] at hc
      split at hcc
      · exact .inr (.inr (.inl ⟨h0, by assumption, hcc.symm⟩))
      · rename_i h1; rw [if_neg h1] at hc; exact (hc rfl).elim
    · rename_i h0
      rw [if_neg h0] at hc
      split at hcc
      · rename_i h1
        rw [if_pos h1] at hc
        split at hcc
        · exact .inr (.inr (.inr (.inl ⟨h1, by assumption, hcc.symm⟩)))
        · rename_i h2; rw [if_neg h2] at hc; exact (hc rfl).elim
      · rename_i h1
        rw [if_neg h1] at hc
        split at hcc
        · rename_i h2
          rw [if_pos h2] at hc
          by_cases hd : 0 < e.data.length
          · refine .inr (.inr (.inr (.inr (.inl ⟨h2, hd, ?_⟩))))
            split at hcc
            · first
              | exact hcc.symm
              | (rw [if_pos hd] at hcc; exact hcc.symm)
            · first
              | exact hcc.symm
              | (rw [if_pos hd] at hcc; exact hcc.symm)
          · split at hcc
            · rename_i h3
              rw [if_pos h3, if_neg hd] at hc
              exact (hc rfl).elim
            · rename_i h3
              exact .inr (.inr (.inr (.inr (.inr ⟨h2, by omega, by simpa using h3, hcc.symm⟩))))
        · by_cases hn : e.tag < 0
          · exact .inl ⟨hn, hcc.symm⟩
          · exact .inr (.inl ⟨by omega, by omega, hcc.symm⟩)
  clear hcc hc hE hk
  generalize entC e (.slice a e.data.length cap) = C at *
  generalize e.key.map U8 = K at *
  generalize (zeroKey.map U8).toArray = Z at *
  generalize e.data.length = n at *
  generalize e.tag = t at *
  have HB := Lib.hid hb
  clear hb
  rcases hcases with ⟨h1, rfl⟩ | ⟨h0, h1, rfl⟩ | ⟨rfl, h1, rfl⟩ | ⟨rfl, h1, rfl⟩ | ⟨rfl, h1, rfl⟩ | ⟨rfl, rfl, h1, rfl⟩
  · clear hnk
    go_enter Tryd.func13, Tryd.ntmps13
    go_wp2_with fail
    go_ret2
    exact ⟨_, rfl, owns_nil _ _ _, HB.out⟩
  · clear hnk
    have h0' : decide (t < 0) = false := decide_eq_false (by omega)
    go_enter Tryd.func13, Tryd.ntmps13
    go_wp2_with fail
    go_ret2
    exact ⟨_, rfl, owns_nil _ _ _, HB.out⟩
  · clear hnk
    have h1' : (16384 : Int) < (n : Int) := by omega
    go_enter Tryd.func13, Tryd.ntmps13
    go_wp2_with fail
    go_ret2
    exact ⟨_, rfl, owns_nil _ _ _, HB.out⟩
  · clear hnk
    go_enter Tryd.func13, Tryd.ntmps13
    go_wp2_with fail
    go_ret2
    exact ⟨_, rfl, owns_nil _ _ _, HB.out⟩
  · clear hnk
    go_enter Tryd.func13, Tryd.ntmps13
    go_wp2_with fail
    go_ret2
    exact ⟨_, rfl, owns_nil _ _ _, HB.out⟩
  · rw [h1] at hnk
    go_enter Tryd.func13, Tryd.ntmps13
    go_wp2_with (first
      | (with_reducible refine at_load 23 ?_; go_must (refine wpList_load_mid_g rfl 23 _ rfl w.heap.size 1 rfl K _ ck Tryd.underlying23 rfl hik ?_))
      | (with_reducible refine at_build 23 ?_; go_must (refine wpList_built_g rfl 23 _ rfl Z (by go_simp) ?_)))
    go_ret2
    exact ⟨_, rfl, owns_nil _ _ _, HB.out⟩
end Go.Proofs.YtmcdjkfmfhbbnaaDoor
