/- Copy (values: numbers): another table with the same. -/
import Derived.Test.YtahmnpbfjfllmaaOwn2
import Derived.Test.YtahmnpbfjfllmaaTNew
import Derived.Shelf.SlicesE.Clone
import Derived.Shelf.Lay
import Derived.Ground.SlgnProg
namespace Go.Proofs
open Go.Shelf
shelf_lay_g SlLaysE0.n41 Slgn 41 at Try 52 as Try.cloneSlot
end Go.Proofs
namespace Go.Proofs.Ytahmnpbfjfllmaa
open Go Go.RowKit

def rowL (S : Nat → SlotI) (c : Nat) : List SlotI := (List.range c).map S
section
variable {S : Nat → SlotI} {c : Nat}
theorem rowL_len : (rowL S c).length = c := by simp [rowL]
theorem rowL_at {i : Nat} (hi : i < (rowL S c).length) : (rowL S c)[i] = S i := by simp [rowL]
end
def CopyPost (w : World) (c : Nat) (S : Nat → SlotI) (n g : Nat) (e : Ending) (w' : World) : Prop :=
  ∃ h b, e = .returned (.pointer (some ⟨h, 0, none⟩)) ∧ TabAt w' h b c S n g ∧ w.heap.size ≤ h ∧ w.heap.size ≤ b ∧ Below w.heap.size w w'
theorem built_copy (g c cc : Nat) (n d : Int) : Program.built Try.prog 75 [(0, .slice (some ⟨g, 0, none⟩) c cc), (1, .int .i64 n), (2, .int .i64 d)] = some #[.slice (some ⟨g, 0, none⟩) c cc, .int .i64 n, .int .i64 d] := by kernel_rfl
/-- The clone of a table's slots. -/
theorem clone_any {w : World} {b c cc : Nat} {S : Nat → SlotI} (r : RowsOf w b c S) (hc : 1 ≤ c) (hcM : c ≤ 1048576) :
    Calls Try.prog 52 #[.slice (some ⟨b, 0, none⟩) c cc] w fun e w' => ∃ g cp, e = .returned (.slice (some ⟨g, 0, none⟩) c cp) ∧ c ≤ cp ∧ cp ≤ 9223372036854775807 ∧ RowsOf w' g c S ∧ w.heap.size ≤ g ∧ Below w.heap.size w w' := by
  obtain ⟨i0, hi0, hi1, hi2, hi3⟩ := info_parts slot_info
  have hk : ∀ x ∈ rowL S c, (slotC x).length = 34 := fun x hx => by
    obtain ⟨i, hi, rfl⟩ := List.getElem_of_mem hx
    rw [rowL_at]
    rw [rowL_len] at hi
    exact length_slotC (r.key i hi)
  have CL := AnyE.slices_Clone Try.cloneSlot i0 (.agg (slotC zeroSlot).toArray) 34 48 hi0 hi1 hi2 hi3 (by show (slotC zeroSlot).toArray.size = 34; rw [List.size_toArray]; exact length_slotC rfl) (by decide)
    Try.sizeOf93 b 0 c cc ((rowL S c).flatMap slotC) w (by rw [flatC_len _ hk, rowL_len]) (by unfold maxLen; omega) (by omega)
    (fun j u hj => by
      obtain ⟨i, q, hi, rfl, hu⟩ := flatC_inv _ j u hk (by decide) hj
      rw [rowL_at] at hu
      rw [rowL_len] at hi
      rw [Nat.zero_add]
      exact r.cells i hi q u hu)
    (fun u hu => by
      obtain ⟨x, _, hu⟩ := List.mem_flatMap.1 hu
      exact one_slotC x u hu)
  change Calls Try.prog 52 _ _ _ at CL
  refine CL.mono ?_
  rintro e w' ⟨v', rfl, ho, hne, hb⟩
  have HO : OwnsC slotC 34 w' w.heap.size 93 v' (rowL S c) := ⟨by rw [rowL_len]; exact ho, hk⟩
  obtain ⟨a, cp, rfl, hR, hown⟩ := HO.form
  rcases hown with ⟨hnil, rfl, rfl⟩ | ⟨gb, rfl, _, hBg, hgl, hfz⟩
  · have := congrArg List.length hnil
    rw [rowL_len] at this
    simp at this
    omega
  · have hfit := hR.fits
    rw [rowL_len] at hfit ⊢
    refine ⟨gb, cp, rfl, hfit, hR.room, ⟨fun i hi => ?_, r.key, hfz, hgl⟩, hBg, hb⟩
    rcases hR.rows with e | ⟨b', off, e, hh⟩
    · have := congrArg List.length e
      rw [rowL_len] at this
      simp at this
      omega
    · injection e with e; injection e with e1 e2; subst e1 e2
      have := hh i (by rw [rowL_len]; exact hi)
      rw [rowL_at, Nat.zero_add] at this
      exact this
set_option maxHeartbeats 2000000 in
set_option maxRecDepth 40000 in
theorem copy_any {w : World} {h b c n g : Nat} {S : Nat → SlotI} (t : TabAt w h b c S n g) :
    Calls Try.prog 37 #[.pointer (some ⟨h, 0, none⟩)] w (CopyPost w c S n g) := by
  have OK := t.ok
  obtain ⟨cc, hcc, hccM, hx0⟩ := t.look.slots
  have hx1 := t.c1
  have hx2 := t.c2
  have kd : Keeps w w.drew := Keeps.drewN w 1
  have ne : Nonempty (Of (Keeps w)) := of_ne kd
  have y0 : ∀ y : Of (Keeps w), y.to.cell? ⟨h, 0, none⟩ = some (.slice (some ⟨b, 0, none⟩) c cc) := fun y => y.ok _ _ hx0
  have y1 : ∀ y : Of (Keeps w), y.to.cell? ⟨h, 1, none⟩ = some (.int .i64 n) := fun y => y.ok _ _ hx1
  have y2 : ∀ y : Of (Keeps w), y.to.cell? ⟨h, 2, none⟩ = some (.int .i64 g) := fun y => y.ok _ _ hx2
  have td : Touch (fun _ => False) w w.drew := (Touch.refl _ w).drewN 1
  have CL := clone_any (cc := cc) (t.touch td id id).look.rows (by have := t.look.big.1; omega) t.look.big.2
  have HT := Lib.hid t
  have HBU := built_copy
  clear t td
  go_enter Try.func37, Try.ntmps37
  go_wp2_with fail
  refine OK.mono ?_
  rintro e w' ⟨rfl, rfl⟩
  go_wp2_with fail
  refine wp_region_plan [([0, 1, 2, 3, 5, 6, 7, 8, 9, 10, 11, 12], some 4), ([13], some 14), ([15], none)] (fun w' => ∃ y : Of (Keeps w), w' = y.to) (by kernel_rfl) (by kernel_rfl) (fun _ _ d _ _ h => by cases d <;> exact h) (of_mk kd) ?_
  refine plan_some (show wpQuiet _ _ _ _ (_ :: _ :: _ :: _ :: _ :: _ :: _ :: _ :: _ :: _ :: _ :: _ :: []) _ from ?_)
  repeat (first
    | go_big_quiet_step (fail)
    | quiet_step (fail))
  refine wpQuiet_nil (show wpList _ _ _ (_ :: []) _ _ from ?_)
  go_wp2_with fail
  refine CL.mono ?_
  rintro e w1 ⟨gb, cp, rfl, hcp, hcpM, hR, hg, hb1⟩
  have hbu := HBU gb c cp n g
  have k1 : Keeps w w1 := fun p v hv => Keeps.below hb1 _ _ (kd _ _ hv)
  clear CL
  go_wp2_with fail
  refine late_normal (fun _ h => h) (of_mk k1) ?_
  refine plan_some (show wpQuiet _ _ _ _ (_ :: []) _ from ?_)
  repeat (first
    | (go_big_quiet_want; refine quiet_built 75 _ rfl #[.slice (some ⟨gb, 0, none⟩) c cp, .int .i64 n, .int .i64 g] (by go_simp) ?_; simp only [Act.put, List.setIfInBounds_toArray, List.set_cons_succ, List.set_cons_zero]; go_big_quiet_on)
    | go_big_quiet_step (fail)
    | quiet_step (fail))
  refine wpQuiet_nil (show wpList _ _ _ (_ :: []) _ _ from ?_)
  have hnew := heap_alloc_new w1 (.cells (headC gb c cp n g) 75)
  have hbn : Below w1.heap.size w1 (w1.alloc (.cells (headC gb c cp n g) 75)) := (Below.refl _ _).alloc (Nat.le_refl _) _
  have k2 : Keeps w (w1.alloc (.cells (headC gb c cp n g) 75)) := fun p v hv => Keeps.below hbn _ _ (k1 _ _ hv)
  have hgl := hR.lt
  have hRn := hR.touch (F := fun _ => False) (.of_below hbn) id
  have hc0 := (cell_of_row _ _ 0 _ _ _ hnew).trans rfl
  have HF : TabAt (w1.alloc (.cells (headC gb c cp n g) 75)) w1.heap.size gb c S n g := ⟨⟨cp, hcp, hcpM, hnew⟩, ⟨⟨cp, hcp, hcpM, hc0⟩, hRn, by omega, HT.out.look.inv, HT.out.look.pow, HT.out.look.big⟩, HT.out.nf, HT.out.nd, HT.out.room⟩
  have hsz : w.heap.size ≤ w1.heap.size := hb1.size
  have hbf : Below w.heap.size w (w1.alloc (.cells (headC gb c cp n g) 75)) := ((Below.refl _ w).drew.trans hb1).alloc hsz _
  have HFIN := Lib.hid (And.intro HF (And.intro hsz (And.intro (show w.heap.size ≤ gb from hg) hbf)))
  clear hnew hbn hRn hc0 HF hbf hR hb1
  go_wp2_with fail
  refine late_normal (fun _ h => h) (of_mk k2) ?_
  refine plan_none (show wpQuiet _ _ _ _ (_ :: []) _ from ?_)
  repeat (first
    | go_big_quiet_step (fail)
    | quiet_step (fail))
  refine wpQuiet_nil ?_
  refine plan_nil ?_
  clear k1 k2 kd ne y0 y1 y2
  go_wp2_with fail
  go_ret
  exact ⟨_, gb, rfl, HFIN.out.1, HFIN.out.2.1, HFIN.out.2.2.1, HFIN.out.2.2.2⟩
end Go.Proofs.Ytahmnpbfjfllmaa
