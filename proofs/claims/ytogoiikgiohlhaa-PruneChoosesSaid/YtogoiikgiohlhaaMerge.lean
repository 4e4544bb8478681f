/- slices.SortStableFunc at places: the merge of two rows; the whole sort of forty places at most. -/
import Derived.Test.YtogoiikgiohlhaaMerge1
namespace Go.Proofs.Ytogoiikgiohlhaa
open Go Go.RowKit Sm

namespace Sm
theorem Older.same' {d e : Nat → Int} {a m b : Nat} (h : Older d a m b) (k : ∀ i, a ≤ i → i < b → e i = d i) : Older e a m b := fun i j h1 h2 h3 h4 => by
  rw [k i h1 (by omega), k j (by omega) h4]; exact h i j h1 h2 h3 h4
theorem merge_fin {K : Int → Int} {d d1 f1 f2 : Nat → Int} {a b mid s e : Nat} (hx : ∀ i j, a ≤ i → i < mid → mid ≤ j → j < b → Bef K (d1 i) (d1 j)) (hz : Same d d1 s e) (q1 : a ≤ s) (q2 : e ≤ b) (q3 : a ≤ mid) (q4 : mid ≤ b)
    (g1 : Sorted K f1 a mid) (z1 : Same d1 f1 a mid) (g2 : Sorted K f2 mid b) (z2 : Same f1 f2 mid b) : Sorted K f2 a b ∧ Same d f2 a b :=
  ⟨join_halves hx g1 z1 g2 z2, ((hz.wide q1 q2).trans (z1.wide (Nat.le_refl _) q4)).trans (z2.wide q3 (Nat.le_refl _))⟩
end Sm
/-- What a merge leaves. -/
def MergePost (w0 : World) (K : Int → Int) (blk off n : Nat) (d : Nat → Int) (a b : Nat) (e : Ending) (w' : World) : Prop :=
  e = .returned (.tuple #[]) ∧ ∃ f, SR w0 blk off n f w' ∧ Sorted K f a b ∧ Same d f a b
def MidRel (w0 : World) (blk off n : Nat) (d : Nat → Int) (A : Nat → Prop) (s0 r0 : Nat) (x y : Value) (wr : World) : Prop :=
  ∃ i j : Nat, x = .int .i64 i ∧ y = .int .i64 j ∧ Srch A s0 r0 i j ∧ SR w0 blk off n d wr
set_option maxRecDepth 40000 in
set_option maxHeartbeats 16000000 in
theorem mergeMore_any (N : Nat) {w0 w : World} {blk off n cap box : Nat} {d : Nat → Int} {K : Int → Int} {cv : Int → Int → Int} (S : SR w0 blk off n d w) (hC : CmpOf w0 blk n box cv) (hcv : ∀ x y, cv x y < 0 ↔ K y < K x)
    (ih : ∀ (w : World) (d : Nat → Int) (a m b : Nat), b - a ≤ N → a < m → m < b → b ≤ n → SR w0 blk off n d w → Sorted K d a m → Sorted K d m b → Older d a m b →
      Calls Try.prog 50 #[.slice (some ⟨blk, off, none⟩) n cap, .int .i64 a, .int .i64 m, .int .i64 b, cmpV box] w (MergePost w0 K blk off n d a b))
    (a m b : Nat) (hN : b - a ≤ N + 1) (ham : a + 1 < m) (hmb : m + 1 < b) (h3 : b ≤ n) (hn : n ≤ 1000) (s1 : Sorted K d a m) (s2 : Sorted K d m b) (ho : Older d a m b) :
    Calls Try.prog 50 #[.slice (some ⟨blk, off, none⟩) n cap, .int .i64 a, .int .i64 m, .int .i64 b, cmpV box] w (MergePost w0 K blk off n d a b) := by
  have HS := Lib.hid S
  have HC := Lib.hid hC
  have HV := Lib.hid hcv
  have IH := Lib.hid ih
  have H1 := Lib.hid s1
  have H2 := Lib.hid s2
  have HO := Lib.hid ho
  clear S hC hcv ih s1 s2 ho
  obtain ⟨z1, hz1⟩ : ∃ z : Int, (m : Int) - (a : Int) = z := ⟨_, rfl⟩
  obtain ⟨z2, hz2⟩ : ∃ z : Int, (b : Int) - (m : Int) = z := ⟨_, rfl⟩
  have e1 : (z1 == 1) = false := by simp; omega
  have e2 : (z2 == 1) = false := by simp; omega
  obtain ⟨mid, hmid⟩ : ∃ h : Nat, ((a : Int) + (b : Int)) / 2 = h := ⟨(a + b) / 2, by omega⟩
  obtain ⟨nn, hnn⟩ : ∃ h : Nat, (mid : Int) + (m : Int) = h := ⟨mid + m, by omega⟩
  obtain ⟨p, hp⟩ : ∃ h : Nat, (nn : Int) - 1 = h := ⟨nn - 1, by omega⟩
  have M1 := Lib.hid (show 2 * mid ≤ a + b ∧ a + b ≤ 2 * mid + 1 by omega)
  have NN1 := Lib.hid (show nn = mid + m by omega)
  have P1 := Lib.hid (show p + 1 = nn by omega)
  have b1 : mid < b := by omega
  have b2 : a < mid := by omega
  have b3 : nn ≤ 2000 := by omega
  have b4 : mid ≤ 1000 := by omega
  obtain ⟨A, hA⟩ : ∃ A : Nat → Prop, (fun c => K (d (p - c)) ≤ K (d c)) = A := ⟨_, rfl⟩
  have HA := Lib.hid (show ∀ k, A k ↔ K (d (p - k)) ≤ K (d k) from fun k => by rw [← hA])
  clear hA
  obtain ⟨s0, r0, h0⟩ : ∃ s0 r0 : Nat, (mid < m ∧ s0 + b = mid + m ∧ r0 = mid) ∨ (m ≤ mid ∧ s0 = a ∧ r0 = m) := by
    by_cases c : mid < m
    · exact ⟨mid + m - b, mid, .inl ⟨c, by omega, rfl⟩⟩
    · exact ⟨a, m, .inr ⟨by omega, rfl, rfl⟩⟩
  have s0a : a ≤ s0 := by omega
  have r0m : r0 ≤ m := by omega
  have s0r : s0 ≤ r0 := by omega
  have r0d : r0 ≤ mid := by omega
  have H0 := Lib.hid h0
  by_cases c : mid < m
  · have hgt : decide ((m : Int) > (mid : Int)) = true := decide_eq_true (by omega)
    obtain ⟨hs0, hr0⟩ : (nn : Int) - (b : Int) = s0 ∧ r0 = mid := by have := NN1.out; omega
    have HR0 := Lib.hid hr0
    clear h0 hr0
    go_enter Try.func50, Try.ntmps50
    go_wp2
    clear hz1 hz2 hmid hnn hp hs0
    go_loopw [20, 21] (fun x y wr => MidRel w0 blk off n d A s0 r0 x y wr) (fun x y _ => (intOf y).toNat - (intOf x).toNat)
    case atStart => exact ⟨s0, r0, rfl, by rw [HR0.out], ⟨Nat.le_refl _, s0r, Nat.le_refl _, .inl rfl, .inl rfl⟩, HS.out⟩
    case round =>
      clear HS
      obtain ⟨i, j, rfl, rfl, hs, S1⟩ := hrel
      have c1 := hs.1
      have c2 := hs.2.1
      have c3 := hs.2.2.1
      have HSR := Lib.hid hs
      clear hs
      by_cases hlt : i < j
      · obtain ⟨h, hh⟩ : ∃ h : Nat, ((i : Int) + (j : Int)) / 2 = h := ⟨(i + j) / 2, by omega⟩
        have c4 : i ≤ h := by omega
        have c5 : h < j := by omega
        obtain ⟨g, hg⟩ : ∃ g : Nat, (p : Int) - (h : Int) = g := ⟨p - h, by have := P1.out; have := NN1.out; have := H0.out; omega⟩
        have hgn : g < n := by have := P1.out; have := NN1.out; have := H0.out; have := M1.out; omega
        have CM := S1.cmp HC.out (i := g) (j := h) hgn (by omega)
        have ca := S1.cell h (by omega)
        have cb := S1.cell g hgn
        have S1 := Lib.hid S1
        have hv := HV.out (d g) (d h)
        have hA : A h ↔ K (d g) ≤ K (d h) := by rw [HA.out h, show p - h = g by omega]
        generalize d h = vx at *
        generalize d g = vy at *
        generalize cv vy vx = r at *
        have ph : (0 : Int) ≤ (h : Int) := by omega
        have bh : (h : Int) < (n : Int) := by omega
        have rh : IntKind.i64.wrap (h : Int) = (h : Int) := by rw [IntKind.wrap_i64]; omega
        have pa : (0 : Int) ≤ (g : Int) := by omega
        have ba : (g : Int) < (n : Int) := by omega
        have ra : IntKind.i64.wrap (g : Int) = (g : Int) := by rw [IntKind.wrap_i64]; omega
        by_cases hk : r < 0
        · have hrd : decide (r < 0) = true := decide_eq_true hk
          have HK := Lib.hid (show ¬ A h by rw [hA]; have := hv.1 hk; omega)
          clear hv hA
          go_wp2_with fail
          clear hh
          go_quiet (exact CM _)
          clear ca cb CM
          have S2 := Lib.hid (S1.out.drewN nq)
          generalize wr.drewN nq = w2 at *
          clear S1 hg
          go_wp2
          go_roundw
          case rel => exact ⟨i, h, rfl, rfl, HSR.out.down c4 c5 HK.out, S2.out⟩
          case measure => simp [intOf]; omega
        · have hrd : decide (r < 0) = false := decide_eq_false hk
          have HK := Lib.hid (show A h by rw [hA]; have := fun x => hk (hv.2 x); omega)
          clear hv hA
          go_wp2_with fail
          clear hh
          go_quiet (exact CM _)
          clear ca cb CM
          have S2 := Lib.hid (S1.out.drewN nq)
          generalize wr.drewN nq = w2 at *
          clear S1 hg
          go_wp2
          go_roundw
          case rel => exact ⟨h + 1, j, by go_num, rfl, HSR.out.up c4 c5 HK.out, S2.out⟩
          case measure => simp [intOf]; omega
      · obtain rfl : i = j := by omega
        obtain ⟨s, rfl⟩ : ∃ s, s = i := ⟨_, rfl⟩
        obtain ⟨e, he⟩ : ∃ e : Nat, (nn : Int) - (s : Int) = e := ⟨nn - s, by have := NN1.out; have := H0.out; omega⟩
        have hes : e + s = mid + m := by have := NN1.out; omega
        have hme : m ≤ e := by have := H0.out; omega
        have heb : e ≤ b := by have := H0.out; have := M1.out; omega
        have q1 : a ≤ s := by omega
        have q2 : s ≤ m := by omega
        have sr := HSR.out
        have CR := Lib.hid (cross H1.out H2.out HO.out (by omega) (by omega) (by omega) (by omega) M1.out H0.out c1 c3 hes
          (by by_cases hss : s = s0
              · exact .inl hss
              · have x := sr.2.2.2.1.resolve_left hss
                have := (HA.out (s - 1)).1 x; rw [show p - (s - 1) = e by have := P1.out; have := NN1.out; omega] at this; exact .inr (by omega))
          (by rcases sr.2.2.2.2 with x | x
              · exact .inl x
              · have x2 : ¬ K (d (p - s)) ≤ K (d s) := fun y => x ((HA.out s).2 y)
                rw [show p - s = e - 1 by have := P1.out; have := NN1.out; omega] at x2; exact .inr (by omega)))
        have F1 := half1 H1.out H2.out HO.out q1 q2 hme heb
        have F2 := half2 H1.out H2.out HO.out q1 q2 hme heb
        rw [show s + (e - m) = mid by omega] at F1 F2
        have F1 := Lib.hid F1
        have F2 := Lib.hid F2
        have hz := Lib.hid (rot_same d s m e q2 hme)
        clear sr hes
        have S1 := Lib.hid S1
        by_cases t1 : s < m
        · by_cases t2 : m < e
          · have RT := rotate_any (cap := cap) S1.out s m e t1 t2 (by omega) hn (cmpV box)
            have u2 : s < mid := by have := H0.out; have := NN1.out; omega
            have u3 : mid < e := by have := NN1.out; omega
            generalize rot d s m e = d1 at *
            by_cases t3 : a < s
            · have I1 := fun w' (S' : SR w0 blk off n d1 w') => IH.out w' d1 a s mid (by omega) t3 u2 (by omega) S' F1.out.1 F1.out.2.1 F1.out.2.2
              by_cases t4 : e < b
              · go_wp2_with fail
                refine RT.mono ?_
                rintro en w1 ⟨rfl, S2⟩
                have I1 := I1 _ S2
                go_wp2_with fail
                refine I1.mono ?_
                rintro en w2 ⟨rfl, f1, S3, G1, Z1⟩
                have Z1 := Lib.hid Z1
                have I2 := IH.out w2 f1 mid e b (by omega) u3 t4 h3 S3 (F2.out.1.congr fun k k1 k2 => Z1.out.out k (.inr k1)) (F2.out.2.1.congr fun k k1 k2 => Z1.out.out k (.inr (by omega))) (F2.out.2.2.same' fun k k1 k2 => Z1.out.out k (.inr k1))
                have G1 := Lib.hid G1
                clear S3
                go_wp2_with fail
                refine I2.mono ?_
                rintro en w3 ⟨rfl, f2, S4, G2, Z2⟩
                have FIN := Lib.hid (merge_fin CR.out hz.out q1 heb (by omega) (by omega) G1.out Z1.out G2 Z2)
                clear G2 Z2
                go_wp2
                exact bodyPost_end (results_none rfl _ _ _) rfl ⟨rfl, f2, S4, FIN.out⟩
              · have FB := Lib.hid (show Sorted K d1 mid b from by rw [show b = e by omega]; exact F2.out.1)
                go_wp2_with fail
                refine RT.mono ?_
                rintro en w1 ⟨rfl, S2⟩
                have I1 := I1 _ S2
                go_wp2_with fail
                refine I1.mono ?_
                rintro en w2 ⟨rfl, f1, S3, G1, Z1⟩
                have FIN := Lib.hid (merge_fin CR.out hz.out q1 heb (by omega) (by omega) G1 Z1 (FB.out.congr fun k k1 k2 => Z1.out k (.inr k1)) (Same.refl f1 mid b))
                clear G1 Z1
                go_wp2
                exact bodyPost_end (results_none rfl _ _ _) rfl ⟨rfl, f1, S3, FIN.out⟩
            · have FA := Lib.hid (show Sorted K d1 a mid from by rw [show a = s by omega]; exact F1.out.2.1)
              by_cases t4 : e < b
              · have I2 := fun w' (S' : SR w0 blk off n d1 w') => IH.out w' d1 mid e b (by omega) u3 t4 h3 S' F2.out.1 F2.out.2.1 F2.out.2.2
                go_wp2_with fail
                refine RT.mono ?_
                rintro en w1 ⟨rfl, S2⟩
                have I2 := I2 _ S2
                clear S2
                go_wp2_with fail
                refine I2.mono ?_
                rintro en w3 ⟨rfl, f2, S4, G2, Z2⟩
                have FIN := Lib.hid (merge_fin CR.out hz.out q1 heb (by omega) (by omega) FA.out (Same.refl d1 a mid) G2 Z2)
                clear G2 Z2
                go_wp2
                exact bodyPost_end (results_none rfl _ _ _) rfl ⟨rfl, f2, S4, FIN.out⟩
              · have FB := Lib.hid (show Sorted K d1 mid b from by rw [show b = e by omega]; exact F2.out.1)
                have FIN := Lib.hid (merge_fin CR.out hz.out q1 heb (by omega) (by omega) FA.out (Same.refl d1 a mid) FB.out (Same.refl d1 mid b))
                go_wp2_with fail
                refine RT.mono ?_
                rintro en w1 ⟨rfl, S2⟩
                go_wp2
                exact bodyPost_end (results_none rfl _ _ _) rfl ⟨rfl, d1, S2, FIN.out⟩
          · have hem : e = m := by omega
            have hsm : s = mid := by have := NN1.out; omega
            rw [hem, rot_right d s m q2] at CR hz F1 F2
            have hst : ¬ s < mid := by omega
            have hme2 : mid < e := by omega
            have heb2 : e < b := by omega
            have hae : a < s := by omega
            have FA := Lib.hid (show Sorted K d a mid from by rw [← hsm]; exact F1.out.1)
            have I2 := IH.out wr d mid e b (by omega) hme2 heb2 h3 S1.out (by rw [hem]; exact F2.out.1) (by rw [hem]; exact F2.out.2.1) (by rw [hem]; exact F2.out.2.2)
            clear hem hsm
            go_wp2_with fail
            refine I2.mono ?_
            rintro en w3 ⟨rfl, f2, S4, G2, Z2⟩
            have FIN := Lib.hid (merge_fin CR.out hz.out q1 (by omega) (by omega) (by omega) FA.out (Same.refl d a mid) G2 Z2)
            clear G2 Z2
            go_wp2
            exact bodyPost_end (results_none rfl _ _ _) rfl ⟨rfl, f2, S4, FIN.out⟩
        · have hsm : s = m := by omega
          have hem : e = mid := by have := NN1.out; omega
          have hem2 : m ≤ e := hme
          rw [hsm, rot_left d m e hem2] at CR hz F1 F2
          have u3 : ¬ mid < e := by omega
          have u1 : a < s := by omega
          have FB := Lib.hid (show Sorted K d mid b from by rw [← hem]; exact F2.out.2.1)
          by_cases t3 : s < mid
          · have I1 := IH.out wr d a s mid (by omega) u1 t3 (by omega) S1.out (by rw [hsm]; exact F1.out.1) (by rw [hsm]; exact F1.out.2.1) (by rw [hsm]; exact F1.out.2.2)
            clear hsm hem
            go_wp2_with fail
            refine I1.mono ?_
            rintro en w2 ⟨rfl, f1, S3, G1, Z1⟩
            have FIN := Lib.hid (merge_fin CR.out hz.out (by omega) heb (by omega) (by omega) G1 Z1 (FB.out.congr fun k k1 k2 => Z1.out k (.inr k1)) (Same.refl f1 mid b))
            clear G1 Z1
            go_wp2
            exact bodyPost_end (results_none rfl _ _ _) rfl ⟨rfl, f1, S3, FIN.out⟩
          · have FA := Lib.hid (show Sorted K d a mid from by rw [show mid = m by omega]; exact F1.out.1)
            have FIN := Lib.hid (merge_fin CR.out hz.out (by omega) heb (by omega) (by omega) FA.out (Same.refl d a mid) FB.out (Same.refl d mid b))
            clear hsm hem
            go_wp2
            exact bodyPost_end (results_none rfl _ _ _) rfl ⟨rfl, d, S1.out, FIN.out⟩
  · have hgt : decide ((m : Int) > (mid : Int)) = false := decide_eq_false (by omega)
    obtain ⟨hs0, hr0⟩ : s0 = a ∧ r0 = m := by omega
    have HR0 := Lib.hid hr0
    have HS0 := Lib.hid hs0
    clear h0 hr0 hs0
    go_enter Try.func50, Try.ntmps50
    go_wp2
    clear hz1 hz2 hmid hnn hp
    go_loopw [20, 21] (fun x y wr => MidRel w0 blk off n d A s0 r0 x y wr) (fun x y _ => (intOf y).toNat - (intOf x).toNat)
    case atStart => exact ⟨s0, r0, by rw [HS0.out], by rw [HR0.out], ⟨Nat.le_refl _, s0r, Nat.le_refl _, .inl rfl, .inl rfl⟩, HS.out⟩
    case round =>
      clear HS
      obtain ⟨i, j, rfl, rfl, hs, S1⟩ := hrel
      have c1 := hs.1
      have c2 := hs.2.1
      have c3 := hs.2.2.1
      have HSR := Lib.hid hs
      clear hs
      by_cases hlt : i < j
      · obtain ⟨h, hh⟩ : ∃ h : Nat, ((i : Int) + (j : Int)) / 2 = h := ⟨(i + j) / 2, by omega⟩
        have c4 : i ≤ h := by omega
        have c5 : h < j := by omega
        obtain ⟨g, hg⟩ : ∃ g : Nat, (p : Int) - (h : Int) = g := ⟨p - h, by have := P1.out; have := NN1.out; have := H0.out; omega⟩
        have hgn : g < n := by have := P1.out; have := NN1.out; have := H0.out; have := M1.out; omega
        have CM := S1.cmp HC.out (i := g) (j := h) hgn (by omega)
        have ca := S1.cell h (by omega)
        have cb := S1.cell g hgn
        have S1 := Lib.hid S1
        have hv := HV.out (d g) (d h)
        have hA : A h ↔ K (d g) ≤ K (d h) := by rw [HA.out h, show p - h = g by omega]
        generalize d h = vx at *
        generalize d g = vy at *
        generalize cv vy vx = r at *
        have ph : (0 : Int) ≤ (h : Int) := by omega
        have bh : (h : Int) < (n : Int) := by omega
        have rh : IntKind.i64.wrap (h : Int) = (h : Int) := by rw [IntKind.wrap_i64]; omega
        have pa : (0 : Int) ≤ (g : Int) := by omega
        have ba : (g : Int) < (n : Int) := by omega
        have ra : IntKind.i64.wrap (g : Int) = (g : Int) := by rw [IntKind.wrap_i64]; omega
        by_cases hk : r < 0
        · have hrd : decide (r < 0) = true := decide_eq_true hk
          have HK := Lib.hid (show ¬ A h by rw [hA]; have := hv.1 hk; omega)
          clear hv hA
          go_wp2_with fail
          clear hh
          go_quiet (exact CM _)
          clear ca cb CM
          have S2 := Lib.hid (S1.out.drewN nq)
          generalize wr.drewN nq = w2 at *
          clear S1 hg
          go_wp2
          go_roundw
          case rel => exact ⟨i, h, rfl, rfl, HSR.out.down c4 c5 HK.out, S2.out⟩
          case measure => simp [intOf]; omega
        · have hrd : decide (r < 0) = false := decide_eq_false hk
          have HK := Lib.hid (show A h by rw [hA]; have := fun x => hk (hv.2 x); omega)
          clear hv hA
          go_wp2_with fail
          clear hh
          go_quiet (exact CM _)
          clear ca cb CM
          have S2 := Lib.hid (S1.out.drewN nq)
          generalize wr.drewN nq = w2 at *
          clear S1 hg
          go_wp2
          go_roundw
          case rel => exact ⟨h + 1, j, by go_num, rfl, HSR.out.up c4 c5 HK.out, S2.out⟩
          case measure => simp [intOf]; omega
      · obtain rfl : i = j := by omega
        obtain ⟨s, rfl⟩ : ∃ s, s = i := ⟨_, rfl⟩
        obtain ⟨e, he⟩ : ∃ e : Nat, (nn : Int) - (s : Int) = e := ⟨nn - s, by have := NN1.out; have := H0.out; omega⟩
        have hes : e + s = mid + m := by have := NN1.out; omega
        have hme : m ≤ e := by have := H0.out; omega
        have heb : e ≤ b := by have := H0.out; have := M1.out; omega
        have q1 : a ≤ s := by omega
        have q2 : s ≤ m := by omega
        have sr := HSR.out
        have CR := Lib.hid (cross H1.out H2.out HO.out (by omega) (by omega) (by omega) (by omega) M1.out H0.out c1 c3 hes
          (by by_cases hss : s = s0
              · exact .inl hss
              · have x := sr.2.2.2.1.resolve_left hss
                have := (HA.out (s - 1)).1 x; rw [show p - (s - 1) = e by have := P1.out; have := NN1.out; omega] at this; exact .inr (by omega))
          (by rcases sr.2.2.2.2 with x | x
              · exact .inl x
              · have x2 : ¬ K (d (p - s)) ≤ K (d s) := fun y => x ((HA.out s).2 y)
                rw [show p - s = e - 1 by have := P1.out; have := NN1.out; omega] at x2; exact .inr (by omega)))
        have F1 := half1 H1.out H2.out HO.out q1 q2 hme heb
        have F2 := half2 H1.out H2.out HO.out q1 q2 hme heb
        rw [show s + (e - m) = mid by omega] at F1 F2
        have F1 := Lib.hid F1
        have F2 := Lib.hid F2
        have hz := Lib.hid (rot_same d s m e q2 hme)
        clear sr hes
        have S1 := Lib.hid S1
        by_cases t1 : s < m
        · by_cases t2 : m < e
          · have RT := rotate_any (cap := cap) S1.out s m e t1 t2 (by omega) hn (cmpV box)
            have u2 : s < mid := by have := H0.out; have := NN1.out; omega
            have u3 : mid < e := by have := NN1.out; omega
            generalize rot d s m e = d1 at *
            by_cases t3 : a < s
            · have I1 := fun w' (S' : SR w0 blk off n d1 w') => IH.out w' d1 a s mid (by omega) t3 u2 (by omega) S' F1.out.1 F1.out.2.1 F1.out.2.2
              by_cases t4 : e < b
              · go_wp2_with fail
                refine RT.mono ?_
                rintro en w1 ⟨rfl, S2⟩
                have I1 := I1 _ S2
                go_wp2_with fail
                refine I1.mono ?_
                rintro en w2 ⟨rfl, f1, S3, G1, Z1⟩
                have Z1 := Lib.hid Z1
                have I2 := IH.out w2 f1 mid e b (by omega) u3 t4 h3 S3 (F2.out.1.congr fun k k1 k2 => Z1.out.out k (.inr k1)) (F2.out.2.1.congr fun k k1 k2 => Z1.out.out k (.inr (by omega))) (F2.out.2.2.same' fun k k1 k2 => Z1.out.out k (.inr k1))
                have G1 := Lib.hid G1
                clear S3
                go_wp2_with fail
                refine I2.mono ?_
                rintro en w3 ⟨rfl, f2, S4, G2, Z2⟩
                have FIN := Lib.hid (merge_fin CR.out hz.out q1 heb (by omega) (by omega) G1.out Z1.out G2 Z2)
                clear G2 Z2
                go_wp2
                exact bodyPost_end (results_none rfl _ _ _) rfl ⟨rfl, f2, S4, FIN.out⟩
              · have FB := Lib.hid (show Sorted K d1 mid b from by rw [show b = e by omega]; exact F2.out.1)
                go_wp2_with fail
                refine RT.mono ?_
                rintro en w1 ⟨rfl, S2⟩
                have I1 := I1 _ S2
                go_wp2_with fail
                refine I1.mono ?_
                rintro en w2 ⟨rfl, f1, S3, G1, Z1⟩
                have FIN := Lib.hid (merge_fin CR.out hz.out q1 heb (by omega) (by omega) G1 Z1 (FB.out.congr fun k k1 k2 => Z1.out k (.inr k1)) (Same.refl f1 mid b))
                clear G1 Z1
                go_wp2
                exact bodyPost_end (results_none rfl _ _ _) rfl ⟨rfl, f1, S3, FIN.out⟩
            · have FA := Lib.hid (show Sorted K d1 a mid from by rw [show a = s by omega]; exact F1.out.2.1)
              by_cases t4 : e < b
              · have I2 := fun w' (S' : SR w0 blk off n d1 w') => IH.out w' d1 mid e b (by omega) u3 t4 h3 S' F2.out.1 F2.out.2.1 F2.out.2.2
                go_wp2_with fail
                refine RT.mono ?_
                rintro en w1 ⟨rfl, S2⟩
                have I2 := I2 _ S2
                clear S2
                go_wp2_with fail
                refine I2.mono ?_
                rintro en w3 ⟨rfl, f2, S4, G2, Z2⟩
                have FIN := Lib.hid (merge_fin CR.out hz.out q1 heb (by omega) (by omega) FA.out (Same.refl d1 a mid) G2 Z2)
                clear G2 Z2
                go_wp2
                exact bodyPost_end (results_none rfl _ _ _) rfl ⟨rfl, f2, S4, FIN.out⟩
              · have FB := Lib.hid (show Sorted K d1 mid b from by rw [show b = e by omega]; exact F2.out.1)
                have FIN := Lib.hid (merge_fin CR.out hz.out q1 heb (by omega) (by omega) FA.out (Same.refl d1 a mid) FB.out (Same.refl d1 mid b))
                go_wp2_with fail
                refine RT.mono ?_
                rintro en w1 ⟨rfl, S2⟩
                go_wp2
                exact bodyPost_end (results_none rfl _ _ _) rfl ⟨rfl, d1, S2, FIN.out⟩
          · have hem : e = m := by omega
            have hsm : s = mid := by have := NN1.out; omega
            rw [hem, rot_right d s m q2] at CR hz F1 F2
            have hst : ¬ s < mid := by omega
            have hme2 : mid < e := by omega
            have heb2 : e < b := by omega
            have hae : a < s := by omega
            have FA := Lib.hid (show Sorted K d a mid from by rw [← hsm]; exact F1.out.1)
            have I2 := IH.out wr d mid e b (by omega) hme2 heb2 h3 S1.out (by rw [hem]; exact F2.out.1) (by rw [hem]; exact F2.out.2.1) (by rw [hem]; exact F2.out.2.2)
            clear hem hsm
            go_wp2_with fail
            refine I2.mono ?_
            rintro en w3 ⟨rfl, f2, S4, G2, Z2⟩
            have FIN := Lib.hid (merge_fin CR.out hz.out q1 (by omega) (by omega) (by omega) FA.out (Same.refl d a mid) G2 Z2)
            clear G2 Z2
            go_wp2
            exact bodyPost_end (results_none rfl _ _ _) rfl ⟨rfl, f2, S4, FIN.out⟩
        · have hsm : s = m := by omega
          have hem : e = mid := by have := NN1.out; omega
          have hem2 : m ≤ e := hme
          rw [hsm, rot_left d m e hem2] at CR hz F1 F2
          have u3 : ¬ mid < e := by omega
          have u1 : a < s := by omega
          have FB := Lib.hid (show Sorted K d mid b from by rw [← hem]; exact F2.out.2.1)
          by_cases t3 : s < mid
          · have I1 := IH.out wr d a s mid (by omega) u1 t3 (by omega) S1.out (by rw [hsm]; exact F1.out.1) (by rw [hsm]; exact F1.out.2.1) (by rw [hsm]; exact F1.out.2.2)
            clear hsm hem
            go_wp2_with fail
            refine I1.mono ?_
            rintro en w2 ⟨rfl, f1, S3, G1, Z1⟩
            have FIN := Lib.hid (merge_fin CR.out hz.out (by omega) heb (by omega) (by omega) G1 Z1 (FB.out.congr fun k k1 k2 => Z1.out k (.inr k1)) (Same.refl f1 mid b))
            clear G1 Z1
            go_wp2
            exact bodyPost_end (results_none rfl _ _ _) rfl ⟨rfl, f1, S3, FIN.out⟩
          · have FA := Lib.hid (show Sorted K d a mid from by rw [show mid = m by omega]; exact F1.out.1)
            have FIN := Lib.hid (merge_fin CR.out hz.out (by omega) heb (by omega) (by omega) FA.out (Same.refl d a mid) FB.out (Same.refl d mid b))
            clear hsm hem
            go_wp2
            exact bodyPost_end (results_none rfl _ _ _) rfl ⟨rfl, d, S1.out, FIN.out⟩
end Go.Proofs.Ytogoiikgiohlhaa
