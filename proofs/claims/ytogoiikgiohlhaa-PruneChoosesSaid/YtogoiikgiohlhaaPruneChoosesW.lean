/- The law's walk: PruneChooses. -/
import Derived.Test.YtogoiikgiohlhaaRefChoose
namespace Go.Proofs.Ytogoiikgiohlhaa
open Go Go.RowKit Ch Sm

def SameRel (w : World) (n : Nat) (x : Value) (wr : World) : Prop := ∃ i : Nat, i ≤ n ∧ x = .int .i64 i ∧ Touch (fun _ => False) w wr
theorem sameInts_same {B C : Nat} {u v : Value} {L : List Int} (w : World) (h1 : OwnI w B u L) (h2 : OwnI w C v L) (hl : L.length ≤ 1000) :
    Calls Try.prog 19 #[u, v] w fun e w' => e = .returned (.bool true) ∧ Touch (fun _ => False) w w' := by
  obtain ⟨a1, c1, rfl⟩ := own_slice h1
  obtain ⟨a2, c2, rfl⟩ := own_slice h2
  have H1 := Lib.hid h1
  have H2 := Lib.hid h2
  obtain ⟨n, hn⟩ : ∃ n, L.length = n := ⟨_, rfl⟩
  rw [hn] at hl ⊢
  have HN := Lib.hid hn
  clear h1 h2 hn
  have hq : ((n : Int) != (n : Int)) = false := by simp
  go_enter Try.func19, Try.ntmps19
  go_wp2
  go_loopw [5] (fun x wr => SameRel w n x wr) (fun x _ => n - (intOf x).toNat)
  case atStart => exact ⟨0, Nat.zero_le _, rfl, Touch.refl _ _⟩
  case round =>
    obtain ⟨i, hi, rfl, ht⟩ := hrel
    have HT := Lib.hid ht
    clear ht
    by_cases hlt : i < n
    · have hiL : i < L.length := by rw [HN.out]; exact hlt
      obtain ⟨g, cp, e, _, _, k1⟩ := own_cell H1.out hiL
      injection e with e1 e2 e3
      subst e1 e3
      obtain ⟨g', cp', e, _, _, k2⟩ := own_cell H2.out hiL
      injection e with e1 e2' e3
      subst e1 e3
      have k1 := HT.out.cell k1 id
      have k2 := HT.out.cell k2 id
      generalize L[i] = x at *
      have hx : (x != x) = false := by simp
      have pi : (0 : Int) ≤ (i : Int) := by omega
      have bi : (i : Int) < (n : Int) := by omega
      clear e2 e2'
      go_wp2_with fail
      go_quiet (fail)
      have T6 := Lib.hid (HT.out.drewN nq)
      generalize wr.drewN nq = w6 at *
      clear k1 k2
      go_wp2
      go_roundw
      case rel => exact ⟨i + 1, by omega, by go_num, T6.out⟩
      case measure => simp [intOf]; omega
    · go_wp2
      go_ret
      exact ⟨rfl, HT.out⟩
theorem touch_below {w0 w w' : World} (h : Below w0.heap.size w0 w) (t : Touch (fun _ => False) w w') : Below w0.heap.size w0 w' := h.trans (t.below (fun _ h => h.elim) h.size)
set_option maxRecDepth 40000 in
set_option maxHeartbeats 4000000 in
theorem pruneChooses_walk (a : Option Addr) (cap n0 : Nat) (R : Nat → List Value) (T : Int → Int) (k : Nat → Int) (w : World) (hA : Abs w a cap n0 R T) :
    Calls Try.prog 6 #[.slice a n0 cap, keepV k] w fun e w' => e = .returned (.bool true) ∧ Below w.heap.size w w' := by
  obtain ⟨n, hn⟩ : ∃ n, min n0 40 = n := ⟨_, rfl⟩
  have h1 := heap_alloc_new w (.cells (keepC k) 36)
  have b1 := (Below.refl w.heap.size w).alloc (Nat.le_refl _) (.cells (keepC k) 36)
  have FW := few25_any a cap n0 (w.alloc (.cells (keepC k) 36)) (hA.below b1)
  rw [hn] at FW
  have AB := (hA.below b1).cut (m := n) (by omega)
  have hn40 : n ≤ 40 := by omega
  have hfit := AB.fits
  have hroom := AB.room
  have hfit0 := hA.fits
  obtain ⟨W1, hW1⟩ : ∃ W, w.alloc (.cells (keepC k) 36) = W := ⟨_, rfl⟩
  have HS1 := Lib.hid (show W1.heap.size = w.heap.size + 1 by rw [← hW1]; simp)
  rw [hW1] at h1 b1 FW AB
  have CH := choose_any a cap n k W1 AB hn40
  have RC := fun W h => refChoose_any (R := R) (T := T) a cap n k W h hn40
  have LV := lives_any
  have HAB := Lib.hid AB
  have HB1 := Lib.hid b1
  have hiK : (Try.prog.info? 36).map (·.size) = some (#[.int .i64 (k 0), .int .i64 (k 1), .int .i64 (k 2), .int .i64 (k 3), .int .i64 (k 4), .int .i64 (k 5)] : Array Value).size := by kernel_rfl
  unfold keepC at h1 hW1
  clear hn hA AB b1
  go_enter Try.func6, Try.ntmps6
  go_wp2_with fail
  refine FW.mono ?_
  rintro e w' ⟨rfl, rfl⟩
  clear FW
  go_wp2_with (with_reducible refine at_load 36 ?_; go_must (refine wpList_load_row_g rfl 36 _ rfl w.heap.size rfl _ _ _ _ h1 Try.underlying36 rfl hiK ?_))
  refine CH.mono ?_
  clear CH hW1
  rintro e w3 hp
  have hcode : ∃ v L c, e = .returned (.tuple #[v, .int .i64 c]) ∧ OwnI w3 W1.heap.size v L ∧ L.length ≤ 1000 ∧ Below W1.heap.size W1 w3 ∧ ((¬ Rightly k n T ∧ c = 2 ∧ L = []) ∨ (Rightly k n T ∧ c = 0 ∧ L = chosen n (kept (perP T) (cntK k) n T))) := by
    rcases hp with ⟨hno, he, hb⟩ | ⟨hyes, v, L, he, hL, ho, hb⟩
    · exact ⟨_, [], 2, he, own_nil _ _, by simp, hb, .inl ⟨hno, rfl, rfl⟩⟩
    · exact ⟨v, L, 0, he, ho, by rw [hL]; exact Nat.le_trans (chosen_le n _) (by omega), hb, .inr ⟨hyes, rfl, hL⟩⟩
  obtain ⟨v, L, c, rfl, ho, hl, hb3, hcase⟩ := hcode
  have HO := Lib.hid ho
  have HB3 := Lib.hid (HB1.out.trans (hb3.mono HB1.out.size))
  have h3 := (hb3.block w.heap.size (by have := HS1.out; omega)).trans h1
  have HC := Lib.hid hcase
  have RC3 := RC w3 (HAB.out.below hb3)
  obtain ⟨a1, c1, rfl⟩ := own_slice ho
  clear ho hb3 hcase hp h1 RC
  go_wp2_with (with_reducible refine at_load 36 ?_; go_must (refine wpList_load_row_g rfl 36 _ rfl w.heap.size rfl _ _ _ _ h3 Try.underlying36 rfl hiK ?_))
  refine RC3.mono ?_
  clear RC3
  rintro e w4 hp
  have hcode : ∃ v, e = .returned (.tuple #[v, .int .i64 c]) ∧ OwnI w4 w3.heap.size v L ∧ Below w3.heap.size w3 w4 := by
    rcases hp with ⟨hno, he, hb⟩ | ⟨hyes, v, L', he, hL, ho, hb⟩
    · rcases HC.out with ⟨_, rfl, rfl⟩ | ⟨hy, _, _⟩
      · exact ⟨_, he, own_nil _ _, hb⟩
      · exact absurd hy hno
    · rcases HC.out with ⟨hno, _, _⟩ | ⟨_, rfl, hL2⟩
      · exact absurd hyes hno
      · have hLL : L' = L := hL.trans hL2.symm
        subst hLL
        exact ⟨v, he, ho, hb⟩
  obtain ⟨v2, rfl, ho2, hb4⟩ := hcode
  have hk4 : OwnI w4 W1.heap.size (.slice a1 L.length c1) L := (Touch.of_below (F := fun _ => False) hb4).row HO.out fun _ _ => id
  have SI := sameInts_same w4 hk4 ho2 hl
  obtain ⟨a2, c2, rfl⟩ := own_slice ho2
  have HB4 := Lib.hid (HB3.out.trans (hb4.mono HB3.out.size))
  have fc : (c == c) = true := by simp
  clear hp hk4 ho2 hb4 h3
  go_wp2_with fail
  refine SI.mono ?_
  rintro e w5 ⟨rfl, t5⟩
  have HB5 := Lib.hid (touch_below HB4.out t5)
  clear SI t5
  go_wp2_with fail
  refine (LV _).mono ?_
  rintro e w' ⟨rfl, rfl⟩
  go_wp2
  go_ret
  exact ⟨rfl, HB5.out⟩
end Go.Proofs.Ytogoiikgiohlhaa
