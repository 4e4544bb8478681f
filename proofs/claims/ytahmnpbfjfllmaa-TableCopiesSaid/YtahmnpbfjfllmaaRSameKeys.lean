/- SameKeys: of two rows of the same keys it says yes. -/
import Derived.Test.YtahmnpbfjfllmaaKeys
import Derived.Test.YtahmnpbfjfllmaaGet
import Derived.Test.YtahmnpbfjfllmaaQ
namespace Go.Proofs.Ytahmnpbfjfllmaa
open Go Go.RowKit

theorem neq_self_key (k : List (BitVec 8)) (hk : k.length = 32) (w : World) :
    (binOp .neq 23 (.agg (k.map U8).toArray) (.agg (k.map U8).toArray)).run Try.prog w = .ok (.bool false) w := by
  have h := run_equalIn_bytes (P := Try.prog) w 9998 23 5 32 Try.underlying23 Try.underlying5 (fun w => by kernel_rfl) (k.map ub) (k.map ub) (by simpa using hk) (by simpa using hk)
  rw [map_cell] at h
  rw [run_neq_struct, h]
  simp
def SamRel (w : World) (n : Nat) (x : Value) (wr : World) : Prop := ∃ i : Nat, i ≤ n ∧ x = .int .i64 i ∧ Below w.heap.size w wr
set_option maxHeartbeats 2000000 in
theorem sameKeys_any (w : World) (a a2 : Option Addr) (cap cap2 : Nat) (L : List (List (BitVec 8))) (hk : ∀ k ∈ L, k.length = 32) (hr1 : RowsC keyC 32 w a cap L) (hr2 : RowsC keyC 32 w a2 cap2 L) :
    Calls Try.prog 38 #[.slice a L.length cap, .slice a2 L.length cap2] w fun e w' => e = .returned (.bool true) ∧ Below w.heap.size w w' := by
  have hfit1 := hr1.fits
  have hroom1 := hr1.room
  have hfit2 := hr2.fits
  have hroom2 := hr2.room
  have HR1 := Lib.hid hr1
  have HR2 := Lib.hid hr2
  have HK := Lib.hid hk
  clear hr1 hr2 hk
  go_enter Try.func38, Try.ntmps38
  go_wp2_with fail
  go_loopw [5] (fun y wr => SamRel w L.length y wr) (fun y _ => L.length - (intOf y).toNat)
  case atStart => exact ⟨0, Nat.zero_le _, rfl, Below.refl _ _⟩
  case round =>
    obtain ⟨i, hi, rfl, hbr⟩ := hrel
    by_cases hlt : i < L.length
    · have hne : L ≠ [] := fun e => by rw [e] at hlt; simp at hlt
      obtain ⟨b1, o1, rfl, hrow1⟩ := (HR1.out.below hbr).rows.resolve_left hne
      obtain ⟨b2, o2, rfl, hrow2⟩ := (HR2.out.below hbr).rows.resolve_left hne
      have hkey := HK.out L[i] (List.getElem_mem hlt)
      have hm1 : wr.rangeAt b1 (o1 + i * 32) (L[i].map U8) := hrow1 i hlt
      have hm2 : wr.rangeAt b2 (o2 + i * 32) (L[i].map U8) := hrow2 i hlt
      have hiM : (Try.prog.info? 23).map (·.size) = some (L[i].map U8).length := by rw [List.length_map, hkey]; kernel_rfl
      have HNE := fun w => neq_self_key L[i] hkey w
      have HBR := Lib.hid hbr
      clear hrow1 hrow2 hkey hbr hne
      generalize L[i].map U8 = M at *
      go_wp2_with fail
      refine wp_region_quiet_lit (by kernel_rfl) (by kernel_rfl) ?_
      repeat (first
        | (go_big_quiet_want; refine quiet_mid_of (fun w' e => (show w'.rangeAt b1 (o1 + i * 32) M from by obtain ⟨_, rfl⟩ := e; exact hm1)) Try.underlying23 rfl hiM rfl rfl ?_; simp only [Act.put, List.setIfInBounds_toArray, List.set_cons_succ, List.set_cons_zero]; go_big_quiet_on)
        | (go_big_quiet_want; refine quiet_mid_of (fun w' e => (show w'.rangeAt b2 (o2 + i * 32) M from by obtain ⟨_, rfl⟩ := e; exact hm2)) Try.underlying23 rfl hiM rfl rfl ?_; simp only [Act.put, List.setIfInBounds_toArray, List.set_cons_succ, List.set_cons_zero]; go_big_quiet_on)
        | go_big_quiet_step (fail)
        | quiet_step (fail))
      refine wpQuiet_nil ?_
      rintro _ ⟨nq, rfl⟩
      have HB5 := Lib.hid (below_drewN HBR.out nq)
      clear HNE hm1 hm2
      go_wp2
      go_roundw
      case rel => exact ⟨i + 1, by omega, by go_num, HB5.out⟩
      case measure => simp [intOf]; omega
    · obtain rfl : i = L.length := by omega
      go_wp2
      go_ret
      exact ⟨rfl, hbr⟩
end Go.Proofs.Ytahmnpbfjfllmaa
