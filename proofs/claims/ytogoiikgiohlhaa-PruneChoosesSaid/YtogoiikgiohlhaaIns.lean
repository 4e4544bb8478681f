/- slices.SortStableFunc at places: insertion. -/
import Derived.Test.YtogoiikgiohlhaaRotate
namespace Go.Proofs.Ytogoiikgiohlhaa
open Go Go.RowKit Sm

/-- What the sort asks of its comparison: two places are told apart by cv; nothing is turned. -/
def CmpOf (w0 : World) (blk n box : Nat) (cv : Int → Int → Int) : Prop :=
  ∀ w : World, Touch (fun b => b = blk) w0 w → ∀ x y : Int, 0 ≤ x ∧ x < n → 0 ≤ y ∧ y < n →
    Calls Try.prog 29 #[.int .i64 x, .int .i64 y, .pointer (some ⟨box, 0, none⟩)] w fun e w' => e = .returned (.int .i64 (cv x y)) ∧ ∃ m, w' = w.drewN m
abbrev cmpV (box : Nat) : Value := .func (.func 29) #[] #[.pointer (some ⟨box, 0, none⟩)]
theorem SR.cmp {w0 w : World} {blk off n box : Nat} {d : Nat → Int} {cv : Int → Int → Int} (S : SR w0 blk off n d w) (hC : CmpOf w0 blk n box cv) {i j : Nat} (hi : i < n) (hj : j < n) (q : Nat) :
    Calls Try.prog 29 #[.int .i64 (d i), .int .i64 (d j), .pointer (some ⟨box, 0, none⟩)] (w.drewN q) fun e w' => e = .returned (.int .i64 (cv (d i) (d j))) ∧ ∃ m, w' = w.drewN m :=
  (hC (w.drewN q) (S.touch.drewN q) (d i) (d j) (S.rng i hi) (S.rng j hj)).mono fun e w' ⟨he, m, hm⟩ => ⟨he, q + m, by rw [hm, World.drewN_drewN]⟩
def InsRel (w0 : World) (K : Int → Int) (blk off n : Nat) (d : Nat → Int) (a b : Nat) (x : Value) (wr : World) : Prop :=
  ∃ (i : Nat) (e : Nat → Int), x = .int .i64 i ∧ a + 1 ≤ i ∧ (i ≤ b ∨ i = a + 1) ∧ Ins K d e a b i ∧ SR w0 blk off n e wr
def SunkRel (w0 : World) (K : Int → Int) (blk off n : Nat) (e : Nat → Int) (a i : Nat) (y : Value) (wr : World) : Prop :=
  ∃ j : Nat, y = .int .i64 j ∧ a ≤ j ∧ j ≤ i ∧ (∀ k, j ≤ k → k < i → K (e k) < K (e i)) ∧ SR w0 blk off n (sunk e i j) wr
theorem sunk_at (d : Nat → Int) (i j : Nat) : sunk d i j j = d i := by unfold sunk; rw [if_neg (Nat.lt_irrefl _), if_pos rfl]
theorem sunk_low (d : Nat → Int) (i j : Nat) : sunk d i (j + 1) j = d j := by unfold sunk; rw [if_pos (by omega)]
set_option maxRecDepth 40000 in
set_option maxHeartbeats 4000000 in
theorem insertion_any {w0 w : World} {blk off n cap box : Nat} {d : Nat → Int} {K : Int → Int} {cv : Int → Int → Int} (S : SR w0 blk off n d w) (hC : CmpOf w0 blk n box cv) (hcv : ∀ x y, cv x y < 0 ↔ K y < K x)
    (a b : Nat) (h1 : b ≤ n) (ha : a ≤ n) (hn : n ≤ 1000) (hd : Decr d a b) :
    Calls Try.prog 49 #[.slice (some ⟨blk, off, none⟩) n cap, .int .i64 a, .int .i64 b, cmpV box] w fun e w' => e = .returned (.tuple #[]) ∧ ∃ e', SR w0 blk off n e' w' ∧ Sorted K e' a b ∧ Same d e' a b := by
  have HS := Lib.hid S
  have HC := Lib.hid hC
  have HV := Lib.hid hcv
  have HD := Lib.hid hd
  clear S hC hcv hd
  go_enter Try.func49, Try.ntmps49
  go_wp2
  go_loopw [8] (fun x wr => InsRel w0 K blk off n d a b x wr) (fun x _ => b + 1 - (intOf x).toNat)
  case atStart => exact ⟨a + 1, d, by go_num, Nat.le_refl _, .inr rfl, Ins.start, HS.out⟩
  case round =>
    clear HS
    obtain ⟨i, e, rfl, i1, i2, hI, S1⟩ := hrel
    have HI := Lib.hid hI
    clear hI
    by_cases hlt : i < b
    · obtain ⟨wo, rfl⟩ : ∃ wo : World, wo = wr := ⟨_, rfl⟩
      have S1 := Lib.hid S1
      go_wp2
      go_loopw [9] (fun y wr => SunkRel w0 K blk off n e a i y wr) (fun y _ => (intOf y).toNat)
      case atStart => exact ⟨i, rfl, by omega, Nat.le_refl _, fun k k1 k2 => by omega, by rw [sunk_self]; exact S1.out⟩
      case round =>
        clear S1
        obtain ⟨j, rfl, j1, j2, hp, SJ⟩ := hrel
        have HP := Lib.hid hp
        clear hp
        by_cases hja : a < j
        · obtain ⟨p, rfl⟩ : ∃ p, j = p + 1 := ⟨j - 1, by omega⟩
          have hjd : decide (((p : Int) + 1) > (a : Int)) = true := decide_eq_true (by omega)
          have hjz : (a : Int) < (p : Int) + 1 := by omega
          have CM := SJ.cmp HC.out (i := p + 1) (j := p) (by omega) (by omega)
          have ca := SJ.cell (p + 1) (by omega)
          have cb := SJ.cell p (by omega)
          have SJ2 := Lib.hid SJ
          clear SJ
          rw [sunk_low e i p] at CM cb
          rw [sunk_at e i (p + 1)] at CM ca
          have hv := HV.out (e i) (e p)
          generalize hx : e i = vx at *
          generalize hy : e p = vy at *
          have HX := Lib.hid hx
          have HY := Lib.hid hy
          clear hx hy
          generalize hr : cv vx vy = r at *
          clear hr
          obtain ⟨q, hq⟩ : ∃ q, q = p + 1 := ⟨_, rfl⟩
          have HQ := Lib.hid hq
          have ea : ((p : Int) + 1).toNat = q := by omega
          have pa : (0 : Int) ≤ (p : Int) + 1 := by omega
          have ba : (p : Int) + 1 < (n : Int) := by omega
          have ra : IntKind.i64.wrap ((p : Int) + 1) = (p : Int) + 1 := by rw [IntKind.wrap_i64]; omega
          have pb : (0 : Int) ≤ (p : Int) := by omega
          have bb : (p : Int) < (n : Int) := by omega
          have rb : IntKind.i64.wrap (p : Int) = (p : Int) := by rw [IntKind.wrap_i64]; omega
          rw [← hq] at ca
          clear hq
          by_cases hk : r < 0
          · have hrd : decide (r < 0) = true := decide_eq_true hk
            have HK := Lib.hid (hv.1 hk)
            clear hv
            go_wp2_with fail
            go_quiet (exact CM _)
            clear ca cb CM
            have S2 : SR w0 blk off n (sunk e i (p + 1)) (wr.drewN nq) := SJ2.out.drewN nq
            generalize wr.drewN nq = w2 at *
            clear SJ2
            have S4 := S2.swap (i := p + 1) (j := p) (by omega) (by omega)
            have ca := S2.cell (p + 1) (by omega)
            have cb := S2.cell p (by omega)
            have fa := S2.froz (p + 1) (by omega)
            have fb := S2.froz p (by omega)
            have cc := S2.c2 (i := p + 1) (j := p) (by omega) (.int .i64 vy) (by omega)
            rw [show swp (sunk e i (p + 1)) (p + 1) p = sunk e i p from sunk_step e i (p + 1) (by omega) (by omega), sunk_at, sunk_low, HX.out, HY.out] at S4
            rw [sunk_low, HY.out] at cb cc
            rw [sunk_at, HX.out] at ca
            rw [← HQ.out] at ca fa cc S4
            have S4 := Lib.hid S4.drew
            clear S2
            go_wp2_with fail
            go_big_region
            clear ca cb cc fa fb
            generalize ((w2.setCell ⟨blk, off + q, none⟩ (.int .i64 vy)).setCell ⟨blk, off + p, none⟩ (.int .i64 vx)).drew = w3 at *
            clear ea ra rb
            go_wp2
            go_roundw
            case rel =>
              refine ⟨p, by go_num, by omega, by omega, fun k k1 k2 => ?_, S4.out⟩
              rw [HX.out]
              by_cases e1 : k = p
              · rw [e1, HY.out]; exact HK.out
              · exact HP.out k (by omega) k2
            case measure => simp [intOf]
          · have hrd : decide (r < 0) = false := decide_eq_false hk
            have HK := Lib.hid (fun h => hk (hv.2 h))
            clear hv
            go_wp2_with fail
            go_quiet (exact CM _)
            clear ca cb CM
            have S2 : SR w0 blk off n (sunk e i (p + 1)) (wr.drewN nq) := SJ2.out.drewN nq
            generalize wr.drewN nq = w2 at *
            clear SJ2
            have S2 := Lib.hid S2
            clear ea ra rb
            go_wp2
            go_roundw
            case rel => exact ⟨i + 1, sunk e i (p + 1), by go_num, by omega, .inl (by omega), HI.out.next HD.out hlt (by omega) j2 (by rw [HX.out]; exact HP.out) (.inr (by rw [HX.out, show p + 1 - 1 = p from rfl, HY.out]; exact HK.out)), S2.out⟩
            case measure => simp [intOf]; omega
        · obtain rfl : j = a := by omega
          have hjd : decide ((j : Int) > (j : Int)) = false := decide_eq_false (by omega)
          have SJ := Lib.hid SJ.drew
          go_wp2_with fail
          go_big_region
          generalize wr.drew = w2 at *
          go_wp2
          go_roundw
          case rel => exact ⟨i + 1, sunk e i j, by go_num, by omega, .inl (by omega), HI.out.next HD.out hlt (Nat.le_refl _) j2 HP.out (.inl rfl), SJ.out⟩
          case measure => simp [intOf]; omega
    · have HF : Sorted K e a b ∧ Same d e a b := by
        rcases i2 with i2 | i2
        · obtain rfl : i = b := by omega
          exact ⟨HI.out.sorted, HI.out.same⟩
        · have hz := HI.out.same
          refine ⟨Sorted.empty (by omega), ?_⟩
          by_cases hb : b = a + 1
          · rw [hb, ← i2]; exact hz
          · have hed : e = d := by
              funext k
              by_cases e1 : k = a
              · subst e1
                obtain ⟨x, x1, x2, x3⟩ := hz.bwd k (Nat.le_refl _) (by omega)
                rw [← x3]; congr 1; omega
              · exact hz.out k (by omega)
            rw [hed]; exact Same.refl d a b
      go_wp2
      exact bodyPost_end (results_none rfl _ _ _) rfl ⟨rfl, e, S1, HF⟩
end Go.Proofs.Ytogoiikgiohlhaa
