/- slices.SortStableFunc at places: the merge where one row holds one place. -/
import Derived.Test.YtogoiikgiohlhaaIns
namespace Go.Proofs.Ytogoiikgiohlhaa
open Go Go.RowKit Sm

namespace Sm
theorem rot_one (d : Nat → Int) (a k : Nat) (h : a ≤ k) : swp (rot d a (a + 1) (k + 1)) k (k + 1) = rot d a (a + 1) (k + 2) := by
  funext i; unfold swp rot
  by_cases h1 : i = k
  · subst h1
    rw [if_pos rfl, if_neg (by omega), if_neg (show ¬ i + 1 < a + (i + 1 - (a + 1)) by omega), if_neg (by omega), if_neg (by omega), if_pos (by omega)]; congr 1; omega
  · rw [if_neg h1]
    by_cases h2 : i = k + 1
    · subst h2
      rw [if_pos rfl, if_neg (show ¬ k < a by omega), if_neg (show ¬ k < a + (k + 1 - (a + 1)) by omega), if_pos (by omega), if_neg (by omega), if_neg (by omega), if_pos (by omega)]; congr 1; omega
    · rw [if_neg h2]
      by_cases h3 : i < a
      · rw [if_pos h3, if_pos h3]
      · rw [if_neg h3, if_neg h3]
        by_cases h4 : i < a + (k + 1 - (a + 1))
        · rw [if_pos h4, if_pos (by omega)]
        · rw [if_neg h4, if_neg (by omega), if_neg (by omega), if_neg (by omega)]
end Sm
/-- Where a search between two places stands: all of A below i, none of it from j on. -/
def Srch (A : Nat → Prop) (lo hi i j : Nat) : Prop := lo ≤ i ∧ i ≤ j ∧ j ≤ hi ∧ (i = lo ∨ A (i - 1)) ∧ (j = hi ∨ ¬ A j)
def SrchRel (w0 : World) (blk off n : Nat) (d : Nat → Int) (A : Nat → Prop) (lo hi : Nat) (x y : Value) (wr : World) : Prop :=
  ∃ i j : Nat, x = .int .i64 i ∧ y = .int .i64 j ∧ Srch A lo hi i j ∧ SR w0 blk off n d wr
theorem Srch.up {A : Nat → Prop} {lo hi i j h : Nat} (s : Srch A lo hi i j) (h1 : i ≤ h) (h2 : h < j) (hA : A h) : Srch A lo hi (h + 1) j :=
  ⟨by have := s.1; omega, by omega, s.2.2.1, .inr (by simpa using hA), s.2.2.2.2⟩
theorem Srch.down {A : Nat → Prop} {lo hi i j h : Nat} (s : Srch A lo hi i j) (h1 : i ≤ h) (h2 : h < j) (hA : ¬ A h) : Srch A lo hi i h :=
  ⟨s.1, h1, by have := s.2.2.1; omega, s.2.2.2.1, .inr hA⟩
def RotK (w0 : World) (blk off n : Nat) (d : Nat → Int) (a i : Nat) (x : Value) (wr : World) : Prop := ∃ k : Nat, x = .int .i64 k ∧ a ≤ k ∧ k + 1 ≤ i ∧ SR w0 blk off n (rot d a (a + 1) (k + 1)) wr
def SunkK (w0 : World) (blk off n : Nat) (d : Nat → Int) (m i : Nat) (x : Value) (wr : World) : Prop := ∃ k : Nat, x = .int .i64 k ∧ i ≤ k ∧ k ≤ m ∧ SR w0 blk off n (sunk d m k) wr
def OnePost (w0 : World) (K : Int → Int) (blk off n : Nat) (d : Nat → Int) (a m b : Nat) (e : Ending) (w' : World) : Prop :=
  e = .returned (.tuple #[]) ∧ ∃ i, Srch (fun k => K (d a) < K (d k)) m b i i ∧ SR w0 blk off n (rot d a (a + 1) i) w'
def LastPost (w0 : World) (K : Int → Int) (blk off n : Nat) (d : Nat → Int) (a m : Nat) (e : Ending) (w' : World) : Prop :=
  e = .returned (.tuple #[]) ∧ ∃ i, Srch (fun k => K (d m) ≤ K (d k)) a m i i ∧ SR w0 blk off n (sunk d m i) w'
set_option maxRecDepth 40000 in
set_option maxHeartbeats 8000000 in
theorem mergeOne_any {w0 w : World} {blk off n cap box : Nat} {d : Nat → Int} {K : Int → Int} {cv : Int → Int → Int} (S : SR w0 blk off n d w) (hC : CmpOf w0 blk n box cv) (hcv : ∀ x y, cv x y < 0 ↔ K y < K x)
    (a m b : Nat) (hm : m = a + 1) (h2 : m < b) (h3 : b ≤ n) (hn : n ≤ 1000) :
    Calls Try.prog 50 #[.slice (some ⟨blk, off, none⟩) n cap, .int .i64 a, .int .i64 m, .int .i64 b, cmpV box] w (OnePost w0 K blk off n d a m b) := by
  have HS := Lib.hid S
  have HC := Lib.hid hC
  have HV := Lib.hid hcv
  have HM := Lib.hid hm
  clear S hC hcv
  have e1 : (m : Int) - (a : Int) = 1 := by omega
  clear hm
  obtain ⟨A, hA⟩ : ∃ A : Nat → Prop, (fun k => K (d a) < K (d k)) = A := ⟨_, rfl⟩
  have HA := Lib.hid (show ∀ k, A k ↔ K (d a) < K (d k) from fun k => by rw [← hA])
  have HAE := Lib.hid hA
  clear hA
  go_enter Try.func50, Try.ntmps50
  go_wp2
  clear e1
  go_loopw [10, 11] (fun x y wr => SrchRel w0 blk off n d A m b x y wr) (fun x y _ => (intOf y).toNat - (intOf x).toNat)
  case atStart => exact ⟨m, b, rfl, rfl, ⟨Nat.le_refl _, by omega, Nat.le_refl _, .inl rfl, .inl rfl⟩, HS.out⟩
  case round =>
    clear HS
    obtain ⟨i, j, rfl, rfl, hs, S1⟩ := hrel
    have b1 := hs.1
    have b2 := hs.2.1
    have b3 := hs.2.2.1
    have HS := Lib.hid hs
    clear hs
    by_cases hlt : i < j
    · obtain ⟨h, hh⟩ : ∃ h : Nat, ((i : Int) + (j : Int)) / 2 = h := ⟨(i + j) / 2, by omega⟩
      have b4 : i ≤ h := by omega
      have b5 : h < j := by omega
      have CM := S1.cmp HC.out (i := h) (j := a) (by omega) (by have := HM.out; omega)
      have ca := S1.cell h (by omega)
      have cb := S1.cell a (by have := HM.out; omega)
      have S1 := Lib.hid S1
      have hv := HV.out (d h) (d a)
      have hA := HA.out h
      generalize d h = vx at *
      generalize hy : d a = vy at *
      have HY := Lib.hid hy
      clear hy
      generalize cv vx vy = r at *
      have ph : (0 : Int) ≤ (h : Int) := by omega
      have bh : (h : Int) < (n : Int) := by omega
      have rh : IntKind.i64.wrap (h : Int) = (h : Int) := by rw [IntKind.wrap_i64]; omega
      have pa : (0 : Int) ≤ (a : Int) := by omega
      have ba : (a : Int) < (n : Int) := by have := HM.out; omega
      have ra : IntKind.i64.wrap (a : Int) = (a : Int) := by rw [IntKind.wrap_i64]; omega
      by_cases hk : r < 0
      · have hrd : decide (r < 0) = true := decide_eq_true hk
        have HK := Lib.hid (show A h by rw [hA]; exact hv.1 hk)
        clear hv hA
        go_wp2_with fail
        clear hh
        go_quiet (exact CM _)
        clear ca cb CM
        have S2 := Lib.hid (S1.out.drewN nq)
        generalize wr.drewN nq = w2 at *
        clear S1
        go_wp2
        go_roundw
        case rel => exact ⟨h + 1, j, by go_num, rfl, HS.out.up b4 b5 HK.out, S2.out⟩
        case measure => simp [intOf]; omega
      · have hrd : decide (r < 0) = false := decide_eq_false hk
        have HK := Lib.hid (show ¬ A h by rw [hA]; exact fun x => hk (hv.2 x))
        clear hv hA
        go_wp2_with fail
        clear hh
        go_quiet (exact CM _)
        clear ca cb CM
        have S2 := Lib.hid (S1.out.drewN nq)
        generalize wr.drewN nq = w2 at *
        clear S1
        go_wp2
        go_roundw
        case rel => exact ⟨i, h, rfl, rfl, HS.out.down b4 b5 HK.out, S2.out⟩
        case measure => simp [intOf]; omega
    · obtain rfl : i = j := by omega
      obtain ⟨wo, rfl⟩ : ∃ wo : World, wo = wr := ⟨_, rfl⟩
      have S1 := Lib.hid S1
      go_wp2
      go_loopw [13] (fun x wr => RotK w0 blk off n d a i x wr) (fun x _ => i - (intOf x).toNat)
      case atStart => exact ⟨a, rfl, Nat.le_refl _, by have := HM.out; omega, by rw [rot_right d a (a + 1) (by omega)]; exact S1.out⟩
      case round =>
        clear S1
        obtain ⟨k, rfl, k1, k2, SJ⟩ := hrel
        by_cases hlk : k + 1 < i
        · have hz : (k : Int) < (i : Int) - 1 := by omega
          have S4 := SJ.swap (i := k) (j := k + 1) (by omega) (by omega)
          rw [show swp (rot d a (a + 1) (k + 1)) k (k + 1) = _ from Sm.rot_one d a k k1] at S4
          have ca := SJ.cell k (by omega)
          have cb := SJ.cell (k + 1) (by omega)
          have fa := SJ.froz k (by omega)
          have fb := SJ.froz (k + 1) (by omega)
          have cc := SJ.c2 (i := k) (j := k + 1) (by omega) (.int .i64 (rot d a (a + 1) (k + 1) (k + 1))) (by omega)
          generalize rot d a (a + 1) (k + 1) k = va at *
          generalize rot d a (a + 1) (k + 1) (k + 1) = vb at *
          obtain ⟨q, hq⟩ : ∃ q, q = k + 1 := ⟨_, rfl⟩
          have ea : ((k : Int) + 1).toNat = q := by omega
          have pk : (0 : Int) ≤ (k : Int) + 1 := by omega
          have bk : (k : Int) + 1 < (n : Int) := by omega
          have rk : IntKind.i64.wrap ((k : Int) + 1) = (k : Int) + 1 := by rw [IntKind.wrap_i64]; omega
          have pb : (0 : Int) ≤ (k : Int) := by omega
          have bb : (k : Int) < (n : Int) := by omega
          have rb : IntKind.i64.wrap (k : Int) = (k : Int) := by rw [IntKind.wrap_i64]; omega
          have S4 := Lib.hid S4.drew
          rw [← hq] at cb fb cc S4
          clear hq SJ
          go_wp2_with fail
          go_big_region
          clear ca cb fa fb cc
          generalize ((wr.setCell ⟨blk, off + k, none⟩ (.int .i64 vb)).setCell ⟨blk, off + q, none⟩ (.int .i64 va)).drew = w3 at *
          clear ea rk rb
          go_wp2
          go_roundw
          case rel => exact ⟨k + 1, by go_num, by omega, by omega, S4.out⟩
          case measure => simp [intOf]; omega
        · have hz : ¬ (k : Int) < (i : Int) - 1 := by omega
          obtain rfl : i = k + 1 := by omega
          have SJ := Lib.hid SJ
          go_wp2
          exact bodyPost_end (results_none rfl _ _ _) rfl ⟨rfl, k + 1, by rw [HAE.out]; exact HS.out, SJ.out⟩
set_option maxRecDepth 40000 in
set_option maxHeartbeats 8000000 in
theorem mergeLast_any {w0 w : World} {blk off n cap box : Nat} {d : Nat → Int} {K : Int → Int} {cv : Int → Int → Int} (S : SR w0 blk off n d w) (hC : CmpOf w0 blk n box cv) (hcv : ∀ x y, cv x y < 0 ↔ K y < K x)
    (a m b : Nat) (hne : m ≠ a + 1) (ham : a < m) (hm : b = m + 1) (h3 : b ≤ n) (hn : n ≤ 1000) :
    Calls Try.prog 50 #[.slice (some ⟨blk, off, none⟩) n cap, .int .i64 a, .int .i64 m, .int .i64 b, cmpV box] w (LastPost w0 K blk off n d a m) := by
  have HS := Lib.hid S
  have HC := Lib.hid hC
  have HV := Lib.hid hcv
  clear S hC hcv
  obtain ⟨z, hz⟩ : ∃ z : Int, (m : Int) - (a : Int) = z := ⟨_, rfl⟩
  have e0 : (z == 1) = false := by simp; omega
  have e1 : (b : Int) - (m : Int) = 1 := by omega
  obtain ⟨A, hA⟩ : ∃ A : Nat → Prop, (fun k => K (d m) ≤ K (d k)) = A := ⟨_, rfl⟩
  have HA := Lib.hid (show ∀ k, A k ↔ K (d m) ≤ K (d k) from fun k => by rw [← hA])
  have HAE := Lib.hid hA
  have HM := Lib.hid hm
  clear hA hm
  go_enter Try.func50, Try.ntmps50
  go_wp2
  clear e1 hz
  go_loopw [14, 15] (fun x y wr => SrchRel w0 blk off n d A a m x y wr) (fun x y _ => (intOf y).toNat - (intOf x).toNat)
  case atStart => exact ⟨a, m, rfl, rfl, ⟨Nat.le_refl _, by omega, Nat.le_refl _, .inl rfl, .inl rfl⟩, HS.out⟩
  case round =>
    clear HS
    obtain ⟨i, j, rfl, rfl, hs, S1⟩ := hrel
    have b1 := hs.1
    have b2 := hs.2.1
    have b3 := hs.2.2.1
    have HS := Lib.hid hs
    clear hs
    have hmn : m < n := by have := HM.out; omega
    by_cases hlt : i < j
    · obtain ⟨h, hh⟩ : ∃ h : Nat, ((i : Int) + (j : Int)) / 2 = h := ⟨(i + j) / 2, by omega⟩
      have b4 : i ≤ h := by omega
      have b5 : h < j := by omega
      have CM := S1.cmp HC.out (i := m) (j := h) (by omega) (by omega)
      have ca := S1.cell h (by omega)
      have cb := S1.cell m (by omega)
      have S1 := Lib.hid S1
      have hv := HV.out (d m) (d h)
      have hA := HA.out h
      generalize d h = vx at *
      generalize hy : d m = vy at *
      have HY := Lib.hid hy
      clear hy
      generalize cv vy vx = r at *
      have ph : (0 : Int) ≤ (h : Int) := by omega
      have bh : (h : Int) < (n : Int) := by omega
      have rh : IntKind.i64.wrap (h : Int) = (h : Int) := by rw [IntKind.wrap_i64]; omega
      have pa : (0 : Int) ≤ (m : Int) := by omega
      have ba : (m : Int) < (n : Int) := by omega
      have ra : IntKind.i64.wrap (m : Int) = (m : Int) := by rw [IntKind.wrap_i64]; omega
      by_cases hk : r < 0
      · have hrd : decide (r < 0) = true := decide_eq_true hk
        have HK := Lib.hid (show ¬ A h by rw [hA]; have := hv.1 hk; omega)
        clear hv hA
        go_wp2_with fail
        clear hh
        go_quiet (exact CM _)
        clear ca cb CM
        have S2 := Lib.hid (S1.out.drewN nq)
        generalize wr.drewN nq = w2 at *
        clear S1
        go_wp2
        go_roundw
        case rel => exact ⟨i, h, rfl, rfl, HS.out.down b4 b5 HK.out, S2.out⟩
        case measure => simp [intOf]; omega
      · have hrd : decide (r < 0) = false := decide_eq_false hk
        have HK := Lib.hid (show A h by rw [hA]; have := fun x => hk (hv.2 x); omega)
        clear hv hA
        go_wp2_with fail
        clear hh
        go_quiet (exact CM _)
        clear ca cb CM
        have S2 := Lib.hid (S1.out.drewN nq)
        generalize wr.drewN nq = w2 at *
        clear S1
        go_wp2
        go_roundw
        case rel => exact ⟨h + 1, j, by go_num, rfl, HS.out.up b4 b5 HK.out, S2.out⟩
        case measure => simp [intOf]; omega
    · obtain rfl : i = j := by omega
      obtain ⟨wo, rfl⟩ : ∃ wo : World, wo = wr := ⟨_, rfl⟩
      have S1 := Lib.hid S1
      go_wp2
      go_loopw [17] (fun x wr => SunkK w0 blk off n d m i x wr) (fun x _ => (intOf x).toNat)
      case atStart => exact ⟨m, rfl, by omega, Nat.le_refl _, by rw [sunk_self]; exact S1.out⟩
      case round =>
        clear S1
        obtain ⟨k, rfl, k1, k2, SJ⟩ := hrel
        by_cases hlk : i < k
        · obtain ⟨p, rfl⟩ : ∃ p, k = p + 1 := ⟨k - 1, by omega⟩
          have hz : (i : Int) < (p : Int) + 1 := by omega
          have S4 := SJ.swap (i := p + 1) (j := p) (by omega) (by omega)
          rw [show swp (sunk d m (p + 1)) (p + 1) p = sunk d m p from sunk_step d m (p + 1) (by omega) k2] at S4
          have ca := SJ.cell (p + 1) (by omega)
          have cb := SJ.cell p (by omega)
          have fa := SJ.froz (p + 1) (by omega)
          have fb := SJ.froz p (by omega)
          have cc := SJ.c2 (i := p + 1) (j := p) (by omega) (.int .i64 (sunk d m (p + 1) p)) (by omega)
          generalize sunk d m (p + 1) p = va at *
          generalize sunk d m (p + 1) (p + 1) = vb at *
          obtain ⟨q, hq⟩ : ∃ q, q = p + 1 := ⟨_, rfl⟩
          have ea : ((p : Int) + 1).toNat = q := by omega
          have pk : (0 : Int) ≤ (p : Int) + 1 := by omega
          have bk : (p : Int) + 1 < (n : Int) := by omega
          have rk : IntKind.i64.wrap ((p : Int) + 1) = (p : Int) + 1 := by rw [IntKind.wrap_i64]; omega
          have pb : (0 : Int) ≤ (p : Int) := by omega
          have bb : (p : Int) < (n : Int) := by omega
          have rb : IntKind.i64.wrap (p : Int) = (p : Int) := by rw [IntKind.wrap_i64]; omega
          have S4 := Lib.hid S4.drew
          rw [← hq] at ca fa cc S4
          clear hq SJ
          go_wp2_with fail
          go_big_region
          clear ca cb fa fb cc
          generalize ((wr.setCell ⟨blk, off + q, none⟩ (.int .i64 va)).setCell ⟨blk, off + p, none⟩ (.int .i64 vb)).drew = w3 at *
          clear ea rk rb
          go_wp2
          go_roundw
          case rel => exact ⟨p, by go_num, by omega, by omega, S4.out⟩
          case measure => simp [intOf]
        · have hz : ¬ (i : Int) < (k : Int) := by omega
          obtain rfl : i = k := by omega
          have SJ := Lib.hid SJ
          go_wp2
          exact bodyPost_end (results_none rfl _ _ _) rfl ⟨rfl, i, by rw [HAE.out]; exact HS.out, SJ.out⟩
end Go.Proofs.Ytogoiikgiohlhaa
