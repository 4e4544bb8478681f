/- hoardref07.Same: two lists of the same finds are the same. -/
import Derived.Test.YtmcdjkfmfhbbnaaDoorSalv
namespace Go.Proofs.YtmcdjkfmfhbbnaaDoor
open Go Go.RowKit

theorem ItAt.nums {w : World} {b o : Nat} {it : Item} {f : Fd} (h : ItAt w b o it) (hx : it.x = f.x) : w.cell? ⟨b, o + 34, none⟩ = some (.int .i64 f.at_) ∧ w.cell? ⟨b, o + 35, none⟩ = some (.int .i64 f.n) := by
  refine ⟨h.cells 34 _ ?_, h.cells 35 _ ?_⟩
  · unfold Item.cells
    rw [List.getElem?_append_right (by rw [length_entC h.key]; decide), length_entC h.key, hx]
    rfl
  · unfold Item.cells
    rw [List.getElem?_append_right (by rw [length_entC h.key]; decide), length_entC h.key, hx]
    rfl
set_option maxHeartbeats 2000000 in
set_option maxRecDepth 40000 in
theorem same_found (a1 a2 : Option Addr) (cap1 cap2 : Nat) (I1 I2 : List Item) (L : List Fd) (w : World) (h1 : Its 36 w a1 cap1 I1) (h2 : Its 36 w a2 cap2 I2) (m1 : AreFd I1 L) (m2 : AreFd I2 L) :
    Calls Tryd.prog 27 #[.slice a1 L.length cap1, .slice a2 L.length cap2] w fun e w' => e = .returned (.bool true) ∧ Below w.heap.size w w' := by
  have HL1 := Lib.hid m1.length
  have HL2 := Lib.hid m2.length
  have hLL : L.length ≤ 9223372036854775807 := by have := m1.length; have := h1.fits; have := h1.room; omega
  have H1 := Lib.hid h1
  have H2 := Lib.hid h2
  have M1 := Lib.hid m1
  have M2 := Lib.hid m2
  clear h1 h2 m1 m2
  go_enter Tryd.func27, Tryd.ntmps27
  go_wp2_with fail
  go_loopw [5] (fun i wr => ∃ k : Nat, i = .int .i64 k ∧ k ≤ L.length ∧ Below w.heap.size w wr) (fun i _ => L.length - (intOf i).toNat)
  case atStart => exact ⟨0, rfl, Nat.zero_le _, Below.refl _ _⟩
  case round =>
    obtain ⟨k, rfl, hk, hbr⟩ := hrel
    by_cases hlt : k < L.length
    · have hlti : (k : Int) < (L.length : Int) := by omega
      obtain ⟨b1, o1, rfl, rows1⟩ := H1.out.rows.resolve_left (fun e => by have h := HL1.out; rw [e] at h; simp at h; omega)
      obtain ⟨b2, o2, rfl, rows2⟩ := H2.out.rows.resolve_left (fun e => by have h := HL2.out; rw [e] at h; simp at h; omega)
      obtain ⟨en1, x1⟩ := M1.out.at k hlt
      obtain ⟨en2, x2⟩ := M2.out.at k hlt
      have it1 := (rows1 k (by have := HL1.out; omega)).keeps (Keeps.below hbr)
      have it2 := (rows2 k (by have := HL2.out; omega)).keeps (Keeps.below hbr)
      obtain ⟨p34, p35⟩ := it1.nums x1
      obtain ⟨q34, q35⟩ := it2.nums x2
      have d1 := it1.data
      have d2 := it2.data
      have g1 := it1.range
      have g2 := it2.range
      have hkE := it1.key
      unfold Item.dv at g1 g2
      rw [en1] at d1 g1 hkE
      rw [en2] at d2 g2
      generalize L[k] = x at *
      have SE := sameEntry_yes x.ent (itAt I1 k).a (itAt I1 k).cap (itAt I2 k).a (itAt I2 k).cap hkE
      have l1 := length_entC (e := x.ent) (dv := .slice (itAt I1 k).a x.ent.data.length (itAt I1 k).cap) hkE
      have l2 := length_entC (e := x.ent) (dv := .slice (itAt I2 k).a x.ent.data.length (itAt I2 k).cap) hkE
      have hi1 : (Tryd.prog.info? 26).map (·.size) = some (entC x.ent (.slice (itAt I1 k).a x.ent.data.length (itAt I1 k).cap)).length := by rw [l1]; kernel_rfl
      have hi2 : (Tryd.prog.info? 26).map (·.size) = some (entC x.ent (.slice (itAt I2 k).a x.ent.data.length (itAt I2 k).cap)).length := by rw [l2]; kernel_rfl
      have D1 := Lib.hid d1
      have D2 := Lib.hid d2
      clear it1 it2 x1 x2 en1 en2 d1 d2 hkE rows1 rows2 l1 l2
      generalize entC x.ent (.slice (itAt I1 k).a x.ent.data.length (itAt I1 k).cap) = C1 at *
      generalize entC x.ent (.slice (itAt I2 k).a x.ent.data.length (itAt I2 k).cap) = C2 at *
      generalize x.at_ = xa at *
      generalize x.n = xn at *
      have s1 : ∀ y : Of (Keeps wr), y.to.cell? ⟨b1, o1 + k * 36 + 34, none⟩ = some (.int .i64 xa) := fun y => y.ok _ _ p34
      have s2 : ∀ y : Of (Keeps wr), y.to.cell? ⟨b1, o1 + k * 36 + 35, none⟩ = some (.int .i64 xn) := fun y => y.ok _ _ p35
      have s3 : ∀ y : Of (Keeps wr), y.to.cell? ⟨b2, o2 + k * 36 + 34, none⟩ = some (.int .i64 xa) := fun y => y.ok _ _ q34
      have s4 : ∀ y : Of (Keeps wr), y.to.cell? ⟨b2, o2 + k * 36 + 35, none⟩ = some (.int .i64 xn) := fun y => y.ok _ _ q35
      have r1 : ∀ W, Keeps wr W → W.rangeAt b1 (o1 + k * 36) C1 := fun W hW j v hv => hW _ _ (g1 j v hv)
      have r2 : ∀ W, Keeps wr W → W.rangeAt b2 (o2 + k * 36) C2 := fun W hW j v hv => hW _ _ (g2 j v hv)
      have kd : Keeps wr wr.drew := Keeps.drewN wr 1
      have ne : Nonempty (Of (Keeps wr)) := of_ne kd
      have hna : ((xa : Int) != (xa : Int)) = false := bne_self_eq_false _
      have hnn : ((xn : Int) != (xn : Int)) = false := bne_self_eq_false _
      have HBR := Lib.hid hbr
      clear p34 p35 q34 q35 g1 g2 hbr
      go_wp2_with fail
      refine wp_region_plan [([0, 1, 2, 3, 4, 5, 6, 7, 8, 9], some 10), ([11, 12, 13, 14, 15, 16, 17, 18, 19, 20, 21, 22, 23, 24, 25, 26, 27, 28, 29, 30, 31, 32, 33, 34, 35, 36, 37], none)] (fun w' => ∃ y : Of (Keeps wr), w' = y.to) (by kernel_rfl) (by kernel_rfl) (fun _ _ d _ _ h => by cases d <;> exact h) (of_mk kd) ?_
      refine plan_some (show wpQuiet _ _ _ _ (_ :: _ :: _ :: _ :: _ :: _ :: _ :: _ :: _ :: _ :: []) _ from ?_)
      repeat (first
        | (go_big_quiet_want; refine quiet_mid_of (fun w' e => (show w'.rangeAt b1 (o1 + k * 36) C1 from by obtain ⟨y, rfl⟩ := e; exact r1 _ y.ok)) Tryd.underlying26 rfl hi1 rfl rfl ?_; simp only [Act.put, List.setIfInBounds_toArray, List.set_cons_succ, List.set_cons_zero]; go_big_quiet_on)
        | (go_big_quiet_want; refine quiet_mid_of (fun w' e => (show w'.rangeAt b2 (o2 + k * 36) C2 from by obtain ⟨y, rfl⟩ := e; exact r2 _ y.ok)) Tryd.underlying26 rfl hi2 rfl rfl ?_; simp only [Act.put, List.setIfInBounds_toArray, List.set_cons_succ, List.set_cons_zero]; go_big_quiet_on)
        | go_big_quiet_step (fail)
        | quiet_step (fail))
      refine wpQuiet_nil (show wpList _ _ _ (_ :: []) _ _ from ?_)
      go_wp2_with fail
      refine (SE _ (D1.out.keeps kd) (D2.out.keeps kd)).mono ?_
      rintro en w6 ⟨rfl, hb6⟩
      have kd6 : Keeps wr w6 := fun q v hq => Keeps.below hb6 _ _ (kd q v hq)
      go_wp2_with fail
      refine late_normal (fun _ h => h) (of_mk kd6) ?_
      refine plan_none (show wpQuiet _ _ _ _ (_ :: _ :: _ :: _ :: _ :: _ :: _ :: _ :: _ :: _ :: _ :: _ :: _ :: _ :: _ :: _ :: _ :: _ :: _ :: _ :: _ :: _ :: _ :: _ :: _ :: _ :: _ :: []) _ from ?_)
      repeat (first
        | go_big_quiet_step (fail)
        | quiet_step (fail))
      refine wpQuiet_nil ?_
      refine plan_nil ?_
      have HB6 := Lib.hid (HBR.out.trans ((show Below wr.heap.size wr w6 from (Below.refl _ _).drew.trans hb6).mono HBR.out.size))
      clear s1 s2 s3 s4 r1 r2 hi1 hi2 ne hnn hna kd6 kd hb6 SE
      go_wp2_with fail
      go_roundw
      case rel => exact ⟨k + 1, by go_num, by omega, HB6.out⟩
      case measure => simp [intOf]; omega
    · have hlti : ¬ (k : Int) < (L.length : Int) := by omega
      go_wp2
      go_ret
      exact ⟨rfl, hbr⟩
end Go.Proofs.YtmcdjkfmfhbbnaaDoor
