/- slices.SortStableFunc of no place; what a row of the call's own is to the sort. -/
import Derived.Test.YtogoiikgiohlhaaBy
import Derived.Test.YtogoiikgiohlhaaT
namespace Go.Proofs.Ytogoiikgiohlhaa
open Go Go.RowKit Ch Sm

theorem insertion_none (w : World) (fv : Value) :
    Calls Try.prog 49 #[.slice none 0 0, .int .i64 0, .int .i64 0, fv] w fun e w' => e = .returned (.tuple #[]) ∧ w = w' := by
  go_enter Try.func49, Try.ntmps49
  go_wp2
  go_loopw [8] (fun x wr => x = .int .i64 1 ∧ Hid (w = wr)) (fun _ _ => 0)
  case atStart => exact ⟨rfl, rfl⟩
  case round =>
    obtain ⟨rfl, hw⟩ := hrel
    go_wp2
    exact bodyPost_end (results_none rfl _ _ _) rfl ⟨rfl, hw.out⟩
theorem stable_none (w : World) (fv : Value) :
    Calls Try.prog 42 #[.slice none 0 0, .int .i64 0, fv] w fun e w' => e = .returned (.tuple #[]) ∧ w = w' := by
  have IN := fun w => insertion_none w fv
  go_enter Try.func42, Try.ntmps42
  go_wp2
  go_loopw [7, 8] (fun x y wr => x = .int .i64 0 ∧ y = .int .i64 20 ∧ Hid (w = wr)) (fun _ _ _ => 0)
  case atStart => exact ⟨rfl, rfl, rfl⟩
  case round =>
    obtain ⟨rfl, rfl, hw⟩ := hrel
    go_wp2_with fail
    refine (IN _).mono ?_
    rintro e w1 ⟨rfl, rfl⟩
    obtain ⟨wo, rfl⟩ : ∃ wo : World, wo = wr := ⟨_, rfl⟩
    go_wp2
    go_loopw [6, 7, 8, 9] (fun z _ _ _ wr => z = .int .i64 20 ∧ Hid (w = wr)) (fun _ _ _ _ _ => 0)
    case atStart => exact ⟨rfl, hw⟩
    case round =>
      obtain ⟨rfl, hw⟩ := hrel
      go_wp2
      exact bodyPost_end (results_none rfl _ _ _) rfl ⟨rfl, hw.out⟩
theorem sortStable_none (w : World) (fv : Value) :
    Calls Try.prog 28 #[.slice none 0 0, fv] w fun e w' => e = .returned (.tuple #[]) ∧ w = w' := by
  have ST := stable_none w fv
  go_enter Try.func28, Try.ntmps28
  go_wp2_with fail
  refine ST.mono ?_
  rintro en w1 ⟨rfl, rfl⟩
  go_wp2
  exact bodyPost_end (results_none rfl _ _ _) rfl ⟨rfl, rfl⟩
theorem sr_of_row {W : World} {E : TypeId} {g n : Nat} {cur : Array Value} {f : Nat → Int} (hg : W.heap[g]? = some (.cells cur E (0, 0))) (ht : cur.toList.take n = (List.range n).map fun i => Value.int .i64 (f i)) (hr : ∀ i, i < n → 0 ≤ f i ∧ f i < n) : SR W g 0 n f W where
  touch := Touch.refl _ _
  cell i hi := by
    have h : (cur.toList.take n)[i]? = some (.int .i64 (f i)) := by rw [ht, List.getElem?_map, List.getElem?_range hi]; rfl
    rw [List.getElem?_take_of_lt hi, Array.getElem?_toList] at h
    simp only [World.cell?, hg, Nat.zero_add]
    exact h
  froz i hi := by simp only [World.frozen?, hg]; simp
  rng := hr
end Go.Proofs.Ytogoiikgiohlhaa
