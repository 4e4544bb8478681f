/- The law's walk: ShaNobody. -/
import Derived.Test.YtnodcjjmodbjiaaDoorHCopy
namespace Go.Proofs.YtnodcjjmodbjiaaDoor
open Go Go.RowKit

/-- A hasher that no call made. -/
def NoHash (w : World) (p : Value) : Prop := p = .pointer none ∨ ∃ b f v n, p = .pointer (some ⟨b, 0, none⟩) ∧ HAt w b false f v n
theorem NoHash.below {w w' : World} {p : Value} (h : NoHash w p) (hb : Below w.heap.size w w') : NoHash w' p := by
  rcases h with h | ⟨b, f, v, n, e, h⟩
  · exact .inl h
  · exact .inr ⟨b, f, v, n, e, h.below hb⟩
theorem nok_any {w : World} {p : Value} (h : NoHash w p) : Calls Tryd.prog 31 #[p] w fun e w' => e = .returned (.bool false) ∧ w = w' := by
  rcases h with rfl | ⟨b, f, v, n, rfl, h⟩
  · exact hok_none w
  · exact hok_any h
def Naught (w : World) (e : Ending) (w' : World) : Prop := e = .returned (.tuple #[]) ∧ w = w'
theorem nwrite_any {w : World} {p : Value} (h : NoHash w p) (x : Value) : Calls Tryd.prog 18 #[p, x] w (Naught w) := by
  have OK := nok_any h
  clear h
  go_enter Tryd.func18, Tryd.ntmps18
  go_wp2_with fail
  refine OK.mono ?_
  rintro e w' ⟨rfl, rfl⟩
  go_wp2
  refine bodyPost_end (results_none rfl _ _ _) rfl ?_
  exact ⟨rfl, rfl⟩
theorem nlen_any {w : World} {p : Value} (h : NoHash w p) : Calls Tryd.prog 20 #[p] w fun e w' => e = .returned (.int .i64 0) ∧ w = w' := by
  have OK := nok_any h
  clear h
  go_enter Tryd.func20, Tryd.ntmps20
  go_wp2_with fail
  refine OK.mono ?_
  rintro e w' ⟨rfl, rfl⟩
  go_wp2
  go_ret
  exact ⟨rfl, rfl⟩
theorem ncopy_any {w : World} {p : Value} (h : NoHash w p) : Calls Tryd.prog 17 #[p] w fun e w' => e = .returned (.pointer none) ∧ w = w' := by
  have OK := nok_any h
  clear h
  go_enter Tryd.func17, Tryd.ntmps17
  go_wp2_with fail
  refine OK.mono ?_
  rintro e w' ⟨rfl, rfl⟩
  go_wp2
  go_ret
  exact ⟨rfl, rfl⟩
def zeroId : List (BitVec 8) := List.replicate 32 0#8
theorem built_zero : Program.built Tryd.prog 26 [] = some (zeroId.map U8).toArray := by kernel_rfl
theorem nsum_any {w : World} {p : Value} (h : NoHash w p) : Calls Tryd.prog 19 #[p] w fun e w' => e = .returned (.agg (zeroId.map U8).toArray) ∧ Below w.heap.size w w' := by
  obtain ⟨z, hz0, hz⟩ := zero_id
  have hzz : z = zeroId := hz0
  have hb1 : Below w.heap.size w (w.alloc (.cells (z.map U8).toArray 26)) := (Below.refl _ _).alloc (Nat.le_refl _) _
  have OK := nok_any (h.below hb1)
  have hbu := built_zero
  have hzl : zeroId.length = 32 := rfl
  rw [← hzz] at hbu hzl ⊢
  have hiv := id_size z hzl
  have hov := id_one z
  clear hz0 hzz h
  have r2 : (w.alloc (.cells (z.map U8).toArray 26)).heap[w.heap.size]? = some (.cells (z.map U8).toArray 26 (0, 0)) := heap_alloc_new w _
  have hr4 : ((w.alloc (.cells (z.map U8).toArray 26)).setRow w.heap.size (z.map U8).toArray).heap[w.heap.size]? = some (.cells (z.map U8).toArray 26 (0, 0)) := setRow_heap _ w.heap.size _ _ 26 _ r2
  have tR : Touch (fun q => q = w.heap.size) (w.alloc (.cells (z.map U8).toArray 26)) ((w.alloc (.cells (z.map U8).toArray 26)).setRow w.heap.size (z.map U8).toArray) := Touch.setRow _ _ _ rfl
  have hbf := hb1.trans (tR.below (fun q e => by have e2 : q = w.heap.size := e; omega) hb1.size)
  generalize hE : (z.map U8).toArray = E at *
  clear hE
  go_enter Tryd.func19, Tryd.ntmps19
  go_wp2_with fail
  refine OK.mono ?_
  rintro e w' ⟨rfl, rfl⟩
  clear OK
  go_wp2_with (with_reducible refine stop_build ?roundEnd)
  refine wpList_built rfl 26 _ rfl E ?hb0 ?nx1
  case hb0 => go_simp
  go_wp2_with (refine wpList_store_row rfl 26 _ _ rfl w.heap.size E rfl rfl _ E r2 hiv rfl hov ?_)
  refine bodyPost_ret (results_cell_row rfl _ _ w.heap.size _ E _ _ rfl hr4 Tryd.underlying26 rfl hiv) rfl ?_
  exact ⟨rfl, hbf⟩
theorem built_hash : Program.built Tryd.prog 46 [] = some (hashCells false (List.replicate 8 0#32) (.slice none 0 0) 0).toArray := by kernel_rfl
set_option maxHeartbeats 1000000 in
theorem shaNobody_walk (a : Option Addr) (cap : Nat) (l : List (BitVec 8)) (w : World) (hk : KTab w) (_hr : Reads w a cap l) :
    Calls Tryd.prog 7 #[.slice a l.length cap] w fun e w' => e = .returned (.bool true) ∧ Below w.heap.size w w' := by
  have hbu := built_hash
  have heq : ∀ w, (binOp .eql 26 (.agg (zeroId.map U8).toArray) (.agg #[.int .u8 0, .int .u8 0, .int .u8 0, .int .u8 0, .int .u8 0, .int .u8 0, .int .u8 0, .int .u8 0, .int .u8 0, .int .u8 0, .int .u8 0, .int .u8 0, .int .u8 0, .int .u8 0, .int .u8 0, .int .u8 0, .int .u8 0, .int .u8 0, .int .u8 0, .int .u8 0, .int .u8 0, .int .u8 0, .int .u8 0, .int .u8 0, .int .u8 0, .int .u8 0, .int .u8 0, .int .u8 0, .int .u8 0, .int .u8 0, .int .u8 0, .int .u8 0])).run Tryd.prog w = .ok (.bool true) w := fun w => by
    have := run_eq_id zeroId zeroId rfl rfl w
    rw [beq_self_eq_true] at this
    exact this
  obtain ⟨C, hC⟩ : ∃ C, (hashCells false (List.replicate 8 0#32) (.slice none 0 0) 0).toArray = C := ⟨_, rfl⟩
  have n1 : NoHash (w.alloc (.cells C 46)) (.pointer (some ⟨w.heap.size, 0, none⟩)) := .inr ⟨w.heap.size, _, _, _, rfl, ⟨by rw [hC]; exact heap_alloc_new w _, rfl⟩⟩
  have n0 : ∀ w', NoHash w' (.pointer none) := fun w' => .inl rfl
  have hb1 : Below w.heap.size w (w.alloc (.cells C 46)) := (Below.refl _ _).alloc (Nat.le_refl _) _
  rw [hC] at hbu
  clear hC
  have NS := fun (w' : World) (p : Value) (h : NoHash w' p) => nsum_any h
  generalize (zeroId.map U8).toArray = E at *
  go_enter Tryd.func7, Tryd.ntmps7
  go_wp2_with (with_reducible refine stop_build ?roundEnd)
  refine wpList_built rfl 46 _ rfl C ?hb0 ?nx1
  case hb0 => go_simp
  go_wp2_with fail
  generalize w.alloc (.cells C 46) = w1 at *
  refine (nwrite_any (n0 _) _).mono ?_
  rintro e w' ⟨rfl, rfl⟩
  go_wp2_with fail
  refine (nwrite_any n1 _).mono ?_
  rintro e w' ⟨rfl, rfl⟩
  go_wp2_with fail
  refine (NS _ _ (n0 _)).mono ?_
  rintro e w2 ⟨rfl, hb2⟩
  have n2 := n1.below hb2
  go_wp2_with fail
  refine (NS _ _ n2).mono ?_
  rintro e w3 ⟨rfl, hb3⟩
  have n3 := n2.below hb3
  go_wp2_with fail
  refine (nlen_any (n0 _)).mono ?_
  rintro e w' ⟨rfl, rfl⟩
  go_wp2_with fail
  refine (nlen_any n3).mono ?_
  rintro e w' ⟨rfl, rfl⟩
  go_wp2_with fail
  refine (ncopy_any (n0 _)).mono ?_
  rintro e w' ⟨rfl, rfl⟩
  go_wp2_with fail
  refine (ncopy_any n3).mono ?_
  rintro e w' ⟨rfl, rfl⟩
  have hb13 := hb1.trans ((hb2.trans (hb3.mono hb2.size)).mono hb1.size)
  go_wp2_with fail
  refine (lives_any _ (hk.keeps (Keeps.below hb13))).mono ?_
  rintro e w6 ⟨rfl, hb6⟩
  go_wp2
  go_ret
  exact ⟨rfl, hb13.trans (hb6.mono hb13.size)⟩
end Go.Proofs.YtnodcjjmodbjiaaDoor
