/- Two entries that are the same; lives. -/
import Derived.Test.YtmcdjkfmfhbbnaaDoorREnc2
import Derived.Test.YtmcdjkfmfhbbnaaDoorFew
namespace Go.Proofs.YtmcdjkfmfhbbnaaDoor
open Go Go.RowKit

set_option maxHeartbeats 1000000 in
theorem sameEntry_yes (e : Ent) (a : Option Addr) (cap : Nat) (b : Option Addr) (cap' : Nat) (hk : e.key.length = 32) (w : World) (h1 : Reads w a cap e.data) (h2 : Reads w b cap' e.data) :
    Calls Tryd.prog 16 #[.agg (entC e (.slice a e.data.length cap)).toArray, .agg (entC e (.slice b e.data.length cap')).toArray] w fun en w' => en = .returned (.bool true) ∧ Below w.heap.size w w' := by
  have hb1 := (Below.refl w.heap.size w).alloc (Nat.le_refl _) (.cells (entC e (.slice a e.data.length cap)).toArray 26)
  have hb2 := hb1.alloc hb1.size (.cells (entC e (.slice b e.data.length cap')).toArray 26)
  have hE1 := (entAt_alloc w e (.slice a e.data.length cap) 26 hk).keeps (Keeps.alloc _ (.cells (entC e (.slice b e.data.length cap')).toArray 26))
  have hE2 := entAt_alloc (w.alloc (.cells (entC e (.slice a e.data.length cap)).toArray 26)) e (.slice b e.data.length cap') 26 hk
  rw [show (w.alloc (.cells (entC e (.slice a e.data.length cap)).toArray 26)).heap.size = w.heap.size + 1 by simp] at hE2
  have c0 := hE1.c0
  have c33 := hE1.c33
  have ck := hE1.ck
  have d0 := hE2.c0
  have d33 := hE2.c33
  have dk := hE2.ck
  rw [Nat.zero_add] at c33 ck d33 dk
  have hik : (Tryd.prog.info? 23).map (·.size) = some (e.key.map U8).length := by rw [List.length_map, hk]; kernel_rfl
  have heq := run_eq_key e.key e.key hk hk
  rw [beq_self_eq_true] at heq
  have SA := fun (W : World) (hw : Below w.heap.size w W) => same_any a b cap cap' e.data e.data W (h1.keeps (Keeps.below hw)) (h2.keeps (Keeps.below hw))
  rw [beq_self_eq_true] at SA
  have hSA := SA _ hb2
  clear hE1 hE2 h1 h2 hk SA hb1
  have HB := Lib.hid hb2
  clear hb2
  generalize entC e (.slice a e.data.length cap) = C at *
  generalize entC e (.slice b e.data.length cap') = D at *
  generalize e.key.map U8 = K at *
  generalize e.data.length = n at *
  generalize e.tag = t at *
  have htt : (t == t) = true := beq_self_eq_true t
  go_enter Tryd.func16, Tryd.ntmps16
  go_wp2_with (with_reducible refine at_load 23 ?_; go_must (first
    | refine wpList_load_mid_g rfl 23 _ rfl w.heap.size 1 rfl K _ ck Tryd.underlying23 rfl hik ?_
    | refine wpList_load_mid_g rfl 23 _ rfl (w.heap.size + 1) 1 rfl K _ dk Tryd.underlying23 rfl hik ?_))
  refine hSA.mono ?_
  rintro en w' ⟨m, rfl, rfl⟩
  go_wp2_with fail
  go_ret
  exact ⟨rfl, below_drewN HB.out m⟩
def comEnt : Ent := ⟨2, zeroKey, []⟩
theorem built_com : Program.built Tryd.prog 26 [(0, .int .i64 2)] = some (entC comEnt (.slice none 0 0)).toArray := by kernel_rfl
theorem lives_any (w : World) (hh : Half w) : Calls Tryd.prog 17 #[] w fun e w' => e = .returned (.bool true) ∧ Below w.heap.size w w' := by
  have EN := encode_any comEnt none 0 rfl (by decide) w hh (reads_nil w)
  have hb := built_com
  have hl : (enc comEnt).length = 9 := length_enc rfl
  have hc : chk comEnt = 0 := rfl
  unfold EncPost at EN
  rw [hc] at EN
  have e0 : comEnt.data.length = 0 := rfl
  rw [e0] at EN
  generalize entC comEnt (.slice none 0 0) = C at *
  have HL := Lib.hid hl
  clear hl hc e0
  generalize enc comEnt = E at *
  go_enter Tryd.func17, Tryd.ntmps17
  go_wp2_with (with_reducible refine at_build 26 ?_; go_must (refine wpList_built' rfl 26 _ rfl C.toArray (by go_simp) ?_))
  refine EN.mono ?_
  rintro e w2 ⟨v, rfl, ho, hb2⟩
  obtain ⟨a, cap, rfl, _⟩ := ho.reads
  rw [HL.out]
  go_wp2_with fail
  go_ret
  exact ⟨rfl, hb2⟩
end Go.Proofs.YtmcdjkfmfhbbnaaDoor
