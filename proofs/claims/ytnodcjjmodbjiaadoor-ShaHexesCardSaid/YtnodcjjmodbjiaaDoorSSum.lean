/- sha.Sum, Copy, what nobody's hasher answers; lives. -/
import Derived.Test.YtnodcjjmodbjiaaDoorHSum
namespace Go.Proofs.YtnodcjjmodbjiaaDoor
open Go Go.RowKit

theorem KTab.lt {w : World} (h : KTab w) : 0 < w.heap.size := World.block_lt_of_cell? w ⟨0, 0, none⟩ (h 0 (by decide))
theorem bytes_length (s : Sha.St) : s.bytes.length = 32 := by rw [Sha.St.bytes, length_flat]; rfl
theorem sum_length (l : List (BitVec 8)) : (Sha.sum l).length = 32 := bytes_length _
theorem id_size (D : List (BitVec 8)) (h : D.length = 32) : (Tryd.prog.info? 26).map (·.size) = some (D.map U8).toArray.size := by rw [List.size_toArray, List.length_map, h]; kernel_rfl
theorem id_one (D : List (BitVec 8)) : (D.map U8).toArray.all (·.oneCell') = true := by
  rw [Array.all_eq_true_iff_forall_mem]
  intro v hv
  rw [List.mem_toArray] at hv
  obtain ⟨y, _, rfl⟩ := List.mem_map.1 hv; rfl
theorem ssum_any (a : Option Addr) (cap : Nat) (l : List (BitVec 8)) (w : World) (hr : Reads w a cap l) (hl : l.length ≤ 1048576) (hk : KTab w) (hlt : l ≠ [] → ∀ ad, a = some ad → ad.block < w.heap.size) :
    Calls Tryd.prog 11 #[.slice a l.length cap] w fun e w' => e = .returned (.agg ((Sha.sum l).map U8).toArray) ∧ Below w.heap.size w w' := by
  obtain ⟨z, hz0, hz⟩ := zero_id
  have hzl : z.length = 32 := by rw [hz0]; rfl
  clear hz0
  have hb1 : Below w.heap.size w (w.alloc (.cells (z.map U8).toArray 26)) := (Below.refl _ _).alloc (Nat.le_refl _) _
  have NW := new_any (w.alloc (.cells (z.map U8).toArray 26))
  have r2 : (w.alloc (.cells (z.map U8).toArray 26)).heap[w.heap.size]? = some (.cells (z.map U8).toArray 26 (0, 0)) := heap_alloc_new w _
  have hDl := sum_length l
  have HS : ∀ (w' : World) (B b : Nat) (v : Value), Hasher w' B b v l → B ≤ w'.heap.size → 0 < B → KTab w' → Calls Tryd.prog 19 #[.pointer (some ⟨b, 0, none⟩)] w' fun e w'' => e = .returned (.agg ((Sha.sum l).map U8).toArray) ∧ Below w'.heap.size w' w'' := fun w' B b v h hB h0 hk => hsum_any h hB h0 hk hl
  have hkl := hk.lt
  have hsz1 : w.heap.size < (w.alloc (.cells (z.map U8).toArray 26)).heap.size := heap_lt r2
  have HK := Lib.hid hk
  clear hk
  generalize Sha.sum l = D at *
  have hiv := id_size D hDl
  have hov := id_one D
  have hzf : (z.map U8).toArray.size = (D.map U8).toArray.size := by rw [List.size_toArray, List.size_toArray, List.length_map, List.length_map, hDl, hzl]
  go_enter Tryd.func11, Tryd.ntmps11
  go_wp2_with fail
  generalize w.alloc (.cells (z.map U8).toArray 26) = w1 at *
  refine NW.mono ?_
  rintro e w2 ⟨b, rfl, hbl, hh, hb2⟩
  have hb12 := hb1.trans (hb2.mono hb1.size)
  have WR := hwrite_any hh hb2.size (by omega) (HK.out.keeps (Keeps.below hb12)) a cap l (hr.keeps (Keeps.below hb12)) (by simp; omega) (fun hm ad e => ⟨by have := hlt hm ad e; omega, by simp [Value.ownBlock]⟩)
  clear NW
  go_wp2_with fail
  refine WR.mono ?_
  rintro e w3 ⟨v3, rfl, hh3, ht3, _⟩
  rw [List.nil_append] at hh3
  have hb3 : Below w1.heap.size w2 w3 := ht3.below (fun q e => by
    rcases e with e | e
    · omega
    · simp [Value.ownBlock] at e) hb2.size
  have hb13 := hb12.trans (hb3.mono hb1.size)
  have hs13 : w1.heap.size ≤ w3.heap.size := Nat.le_trans hb2.size hb3.size
  have SU := HS w3 w1.heap.size b v3 hh3 hs13 (by omega) (HK.out.keeps (Keeps.below hb13))
  have r3 := ((hb2.trans hb3).block w.heap.size hsz1).trans r2
  clear WR HS
  go_wp2_with fail
  refine SU.mono ?_
  rintro e w4 ⟨rfl, hb4⟩
  have hb14 := hb13.trans (hb4.mono hb13.size)
  have r4 := (hb4.block w.heap.size (heap_lt r3)).trans r3
  have hr4 : (w4.setRow w.heap.size (D.map U8).toArray).heap[w.heap.size]? = some (.cells (D.map U8).toArray 26 (0, 0)) := setRow_heap w4 w.heap.size _ _ 26 _ r4
  have tR : Touch (fun q => q = w.heap.size) w4 (w4.setRow w.heap.size (D.map U8).toArray) := Touch.setRow w4 _ _ rfl
  clear SU hh hh3
  generalize hE : (D.map U8).toArray = E at *
  have HE := Lib.hid hE
  clear hE
  go_wp2_with (refine wpList_store_row rfl 26 _ _ rfl w.heap.size E rfl rfl _ (z.map U8).toArray r4 hiv hzf hov ?_)
  refine bodyPost_ret (results_cell_row rfl _ _ w.heap.size _ E _ _ rfl hr4 Tryd.underlying26 rfl hiv) rfl ?_
  exact ⟨by rw [HE.out], hb14.trans (tR.below (fun q e => by have e2 : q = w.heap.size := e; omega) hb14.size)⟩
theorem head_e3 : ∃ t, Sha.sum [] = 0xe3#8 :: t := by
  have h := Sha.lives0
  cases hs : Sha.sum [] with
  | nil => rw [hs] at h; cases h
  | cons a t => rw [hs] at h; injection h with h; exact ⟨t, by rw [h]⟩
theorem lives_any (w : World) (hk : KTab w) : Calls Tryd.prog 14 #[] w fun e w' => e = .returned (.bool true) ∧ Below w.heap.size w w' := by
  have SU := ssum_any none 0 [] w (reads_nil w) (by simp) hk (fun h => (h rfl).elim)
  obtain ⟨t, ht⟩ := head_e3
  have hl := sum_length []
  have hidx : ∀ w, (Instr.index 26 (.agg ((Sha.sum []).map U8).toArray) (.int .i64 0)).run Tryd.prog w = .ok (U8 0xe3#8) w := fun w => by
    have hu : Tryd.prog.underlying 26 = some (.array 32 5) := by kernel_rfl
    have hu2 : Tryd.prog.underlying 5 = some (.int .u8) := by kernel_rfl
    have hs : ∀ w, (sizeOf 5).run Tryd.prog w = .ok 1 w := fun w => by kernel_rfl
    rw [ht]
    simp [Instr.index, run_underlying hu, asIntOf, part, isAgg, run_underlying hu2, hs]
  clear ht
  generalize Sha.sum [] = D at *
  go_enter Tryd.func14, Tryd.ntmps14
  go_wp2_with fail
  refine SU.mono ?_
  rintro e w2 ⟨rfl, hb2⟩
  go_wp2_with fail
  refine (new_any w2).mono ?_
  rintro e w3 ⟨b, rfl, _, _, hb3⟩
  go_wp2
  go_ret
  exact ⟨rfl, hb2.trans (hb3.mono hb2.size)⟩
end Go.Proofs.YtnodcjjmodbjiaaDoor
