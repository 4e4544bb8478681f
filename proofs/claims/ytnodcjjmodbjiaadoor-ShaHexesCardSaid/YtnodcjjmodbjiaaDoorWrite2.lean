/- The hasher's Write: where something was left. -/
import Derived.Test.YtnodcjjmodbjiaaDoorWrite
namespace Go.Proofs.YtnodcjjmodbjiaaDoor
open Go Go.RowKit

set_option maxHeartbeats 1000000 in
theorem hwrite_short {w : World} {B b : Nat} {v : Value} {l : List (BitVec 8)} (h : Hasher w B b v l) (hB : B ≤ w.heap.size) (hl : Sha.left l ≠ [])
    (a : Option Addr) (cap : Nat) (m : List (BitVec 8)) (hr : Reads w a cap m) (hlm : l.length + m.length ≤ 1048576) (hoff : m ≠ [] → ∀ ad, a = some ad → ad.block ≠ b ∧ v.ownBlock ≠ some ad.block) (hs : (Sha.left l).length + m.length < 64) :
    Calls Tryd.prog 18 #[.pointer (some ⟨b, 0, none⟩), .slice a m.length cap] w (Wrote B b v l m w) := by
  have hlow := h.low
  have OK := hok_any h.at_
  have cN := h.at_.n_
  have fN := h.at_.thawed 10
  have h1 := h.at_.setN ((l.length : Int) + m.length)
  have c9 := h1.rest
  have f9 := h1.thawed 9
  have t1 : Touch (fun q => q = b) w (w.setCell ⟨b, 10, none⟩ (.int .i64 ((l.length : Int) + m.length))) := Touch.set w b 10 _ rfl
  have hvb := h.vb
  have hr1 := hr.touch' t1 fun hm ad e => (hoff hm ad e).1
  have ho1 := t1.owns h.own fun q hq e => hvb (by rw [hq, e])
  have hheld := Sha.held_append l m
  have hleft := Sha.left_append l m
  rw [Nat.div_eq_of_lt hs] at hheld hleft
  generalize Sha.left l = r at *
  generalize Sha.held l = s0 at *
  have hvf : ∃ c a', v = .slice a' r.length c := by obtain ⟨a', cap', e, _⟩ := ho1.reads; exact ⟨cap', a', e⟩
  obtain ⟨cap', a', rfl⟩ := hvf
  have HH := Lib.hid h
  have HHL := Lib.hid hheld
  have HLL := Lib.hid hleft
  clear h hheld hleft
  have hr0 : 0 < r.length := List.length_pos_iff.2 hl
  have hr0' : (0 : Int) < r.length := by omega
  have hmin : min (64 - (r.length : Int)) m.length = m.length := by omega
  go_enter Tryd.func18, Tryd.ntmps18
  go_wp2_with fail
  refine OK.mono ?_
  rintro e w' ⟨rfl, rfl⟩
  clear OK
  go_wp2_with fail
  have hs1 := fun w => run_slice_to (P := Tryd.prog) byteSlice w a m.length cap .i64 m.length m.length rfl hr.fits
  have hs2 := fun w => run_slice_from (P := Tryd.prog) byteSlice w a m.length cap .i64 m.length m.length rfl (Nat.le_refl _)
  rw [Nat.sub_self] at hs2
  clear cN fN
  generalize w.setCell ⟨b, 10, none⟩ (.int .i64 ((l.length : Int) + m.length)) = w1 at *
  refine wp_region_plan [([0, 1, 2, 3, 5, 6, 7], some 4), ([], some 8), ([9, 10], some 11), ([], none)] (fun _ => True) (by kernel_rfl) (by kernel_rfl) (fun _ _ d _ _ h => by cases d <;> exact h) trivial ?_
  refine plan_some (show wpQuiet _ _ _ _ (_ :: _ :: _ :: _ :: _ :: _ :: _ :: []) _ from ?_)
  repeat (go_big_quiet_step (fail))
  refine wpQuiet_nil (show wpList _ _ _ (_ :: []) _ _ from ?_)
  have hid : Touch (fun q => q = b) w1 w1.drew := (Touch.refl _ _).drewN 1
  have d1 : HAt w1.drew b true s0.list (.slice a' r.length cap') ((l.length : Int) + m.length) := h1.drewN 1
  have e9 : w1.drew.cell? ⟨b, 9, none⟩ = some (.slice a' r.length cap') := c9
  have ro : Reads w1.drew a cap m := hr1.keeps (Keeps.drewN w1 1)
  have oo : Owns w1.drew B 5 (.slice a' r.length cap') r := ho1
  have hz : B ≤ w1.drew.heap.size := Nat.le_trans hB t1.size
  clear h1 c9 hr1 ho1 f9
  generalize w1.drew = w6 at *
  go_wp2_with fail
  refine late_normal (fun _ h => h) trivial ?_
  refine plan_some (show wpQuiet _ _ _ _ [] _ from ?_)
  refine wpQuiet_nil (show wpList _ _ _ (_ :: []) _ _ from ?_)
  have hlen : r.length + m.length ≤ 140737488355328 := by omega
  go_wp2_with (at_builtin; refine wpList_append_bytes_at byteSlice rfl _ _ rfl B (.slice a' r.length cap') r rfl oo a cap m rfl ro hlen hz ?_; intro v' w7 ho7 hg7 hb7)
  refine late_normal (fun _ h => h) trivial ?_
  refine plan_some (show wpQuiet _ _ _ _ (_ :: _ :: []) _ from ?_)
  repeat (go_big_quiet_step (fail))
  refine wpQuiet_nil (show wpList _ _ _ (_ :: []) _ _ from ?_)
  have t7 : Touch (fun q => (Value.slice a' r.length cap').ownBlock = some q) w6 w7 := .of_grown hg7 fun k hk => hk
  have d7 := d1.touch t7 hvb
  have f9 := d7.thawed 9
  have c9 := d7.rest
  have hx7 : (r ++ m).length < 64 := by rw [List.length_append]; exact hs
  obtain ⟨x, hx⟩ : ∃ x, r ++ m = x := ⟨_, rfl⟩
  rw [hx] at ho7 hx7
  obtain ⟨a7, c7, rfl, _⟩ := ho7.reads
  have hx8 : (x.length : Int) < 64 := by omega
  have d8 := d7.setRest (.slice a7 x.length c7)
  have e9 := d8.rest
  have t8 : Touch (fun q => q = b) w7 (w7.setCell ⟨b, 9, none⟩ (.slice a7 x.length c7)) := Touch.set w7 b 9 _ rfl
  have HX := Lib.hid hx
  have HO := Lib.hid ho7
  have HD := Lib.hid d8
  clear hx ho7 d8 d7 hg7 hx7
  go_wp2_with fail
  refine late_normal (fun _ h => h) trivial ?_
  refine plan_none (show wpQuiet _ _ _ _ [] _ from ?_)
  refine wpQuiet_nil ?_
  refine plan_nil ?_
  generalize w7.setCell ⟨b, 9, none⟩ (.slice a7 x.length c7) = w8 at *
  go_wp2
  refine bodyPost_end (results_none rfl _ _ _) rfl ?_
  have hh := HHL.out
  have hl2 := HLL.out
  rw [show Sha.blocks 0 s0 (r ++ m) = s0 from rfl] at hh
  rw [Nat.mul_zero, List.drop_zero, HX.out] at hl2
  have hvb7 : (Value.slice a7 x.length c7).ownBlock ≠ some b := by
    rcases hb7 with e | e
    · rw [e]; exact hvb
    · rw [e]; intro e2; injection e2 with e2; have := d1.lt; omega
  have hsz1 := t1.size
  have hsz2 := hid.size
  refine ⟨_, rfl, ⟨?_, ?_, hvb7, hlow⟩, ?_, fun q hq => ?_⟩
  · rw [hh, List.length_append, Int.natCast_add]; exact HD.out
  · rw [hl2]
    exact t8.owns HO.out fun q hq e => hvb7 (by rw [hq, e])
  · exact (((t1.mono fun q e => .inl e).trans (hid.mono fun q e => .inl e)).trans (t7.mono fun q e => .inr e)).trans (t8.mono fun q e => .inl e)
  · rcases hb7 with e | e
    · left; rw [← e]; exact hq
    · right; rw [e] at hq; injection hq with hq; omega
end Go.Proofs.YtnodcjjmodbjiaaDoor
