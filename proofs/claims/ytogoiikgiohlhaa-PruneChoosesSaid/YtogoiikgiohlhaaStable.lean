/- slices.SortStableFunc at places: the whole sort of forty places at most; its comparison. -/
import Derived.Test.YtogoiikgiohlhaaMerge
namespace Go.Proofs.Ytogoiikgiohlhaa
open Go Go.RowKit Sm

section
variable {w0 : World} {blk off n cap box : Nat} {K : Int → Int} {cv : Int → Int → Int}
theorem symMerge_any (hC : CmpOf w0 blk n box cv) (hcv : ∀ x y, cv x y < 0 ↔ K y < K x) (hn : n ≤ 1000) (N : Nat) :
    ∀ (w : World) (d : Nat → Int) (a m b : Nat), b - a ≤ N → a < m → m < b → b ≤ n → SR w0 blk off n d w → Sorted K d a m → Sorted K d m b → Older d a m b →
      Calls Try.prog 50 #[.slice (some ⟨blk, off, none⟩) n cap, .int .i64 a, .int .i64 m, .int .i64 b, cmpV box] w (MergePost w0 K blk off n d a b) := by
  induction N with
  | zero => intro w d a m b h1 h2 h3; omega
  | succ N ih =>
    intro w d a m b h1 h2 h3 h4 S s1 s2 ho
    by_cases c1 : m = a + 1
    · refine (mergeOne_any S hC hcv a m b c1 h3 h4 hn).mono ?_
      rintro e w' ⟨rfl, i, hs, S'⟩
      subst c1
      refine ⟨rfl, _, S', ?_, ?_⟩
      · exact merge_one s2 (fun j j1 j2 => ho a j (Nat.le_refl _) (by omega) j1 j2) hs.1 hs.2.2.1 hs.2.2.2.1 hs.2.2.2.2
      · exact (rot_same d a (a + 1) i (by omega) hs.1).wide (Nat.le_refl _) hs.2.2.1
    · by_cases c2 : b = m + 1
      · refine (mergeLast_any S hC hcv a m b c1 h2 c2 h4 hn).mono ?_
        rintro e w' ⟨rfl, i, hs, S'⟩
        subst c2
        refine ⟨rfl, _, S', ?_, ?_⟩
        · refine merge_last s1 (fun j j1 j2 => ho j m j1 j2 (Nat.le_refl _) (by omega)) hs.1 hs.2.2.1 ?_ ?_
          · rcases hs.2.2.2.1 with x | x
            · exact .inl x
            · exact .inr (by omega)
          · rcases hs.2.2.2.2 with x | x
            · exact .inl x
            · exact .inr (by omega)
        · exact sunk_same d m i a hs.1 hs.2.2.1
      · exact mergeMore_any N S hC hcv (fun w d a m b x1 x2 x3 x4 x5 x6 x7 x8 => ih w d a m b x1 x2 x3 x4 x5 x6 x7 x8) a m b h1 (by omega) (by omega) h4 hn s1 s2 ho
end
/-- Two blocks, sorted each. -/
structure TwoOf (K : Int → Int) (d f : Nat → Int) (n : Nat) : Prop where
  s1 : Sorted K f 0 20
  s2 : Sorted K f 20 n
  ho : Older f 0 20 n
  same : Same d f 0 n
def DoneOf (K : Int → Int) (d f : Nat → Int) (n : Nat) : Prop := Sorted K f 0 n ∧ Same d f 0 n
theorem TwoOf.mk' {K : Int → Int} {d e f : Nat → Int} {n : Nat} (hd : Decr d 0 n) (h20 : 20 ≤ n) (h1 : Sorted K e 0 20) (z1 : Same d e 0 20) (h2 : Sorted K f 20 n) (z2 : Same e f 20 n) : TwoOf K d f n where
  s1 := h1.congr fun i _ h => z2.out i (.inl h)
  s2 := h2
  ho := Older.same (fun i j a b c e => hd i j (Nat.zero_le _) (by omega) e) z1 z2
  same := (z1.wide (Nat.le_refl _) h20).trans (z2.wide (Nat.zero_le _) (Nat.le_refl _))
/-- Behind the insertions. -/
def Behind (K : Int → Int) (d f : Nat → Int) (n : Nat) : Prop := (n ≤ 20 ∧ DoneOf K d f n) ∨ (20 < n ∧ TwoOf K d f n)
def St1 (w0 : World) (K : Int → Int) (blk off n : Nat) (d : Nat → Int) (x y : Value) (wr : World) : Prop :=
  (x = .int .i64 0 ∧ y = .int .i64 20 ∧ SR w0 blk off n d wr) ∨
  (20 ≤ n ∧ x = .int .i64 20 ∧ y = .int .i64 40 ∧ ∃ e, SR w0 blk off n e wr ∧ Sorted K e 0 20 ∧ Same d e 0 20) ∨
  (n = 40 ∧ x = .int .i64 40 ∧ y = .int .i64 60 ∧ ∃ e, SR w0 blk off n e wr ∧ TwoOf K d e n)
def St2 (w0 : World) (K : Int → Int) (blk off n : Nat) (d : Nat → Int) (z : Value) (wr : World) : Prop :=
  (z = .int .i64 20 ∧ ∃ e, SR w0 blk off n e wr ∧ Behind K d e n) ∨ (z = .int .i64 40 ∧ ∃ e, SR w0 blk off n e wr ∧ DoneOf K d e n)
def St3 (w0 : World) (K : Int → Int) (blk off n : Nat) (d : Nat → Int) (x y : Value) (wr : World) : Prop :=
  (x = .int .i64 0 ∧ y = .int .i64 40 ∧ ∃ e, SR w0 blk off n e wr ∧ TwoOf K d e n) ∨ (n = 40 ∧ x = .int .i64 40 ∧ y = .int .i64 80 ∧ ∃ e, SR w0 blk off n e wr ∧ DoneOf K d e n)
def StablePost (w0 : World) (K : Int → Int) (blk off n : Nat) (d : Nat → Int) (e : Ending) (w' : World) : Prop :=
  e = .returned (.tuple #[]) ∧ ∃ f, SR w0 blk off n f w' ∧ DoneOf K d f n
set_option maxRecDepth 40000 in
set_option maxHeartbeats 800000 in
theorem stable_any {w0 w : World} {blk off n cap box : Nat} {d : Nat → Int} {K : Int → Int} {cv : Int → Int → Int} (S : SR w0 blk off n d w) (hC : CmpOf w0 blk n box cv) (hcv : ∀ x y, cv x y < 0 ↔ K y < K x)
    (hn : n ≤ 40) (hd : Decr d 0 n) :
    Calls Try.prog 42 #[.slice (some ⟨blk, off, none⟩) n cap, .int .i64 n, cmpV box] w (StablePost w0 K blk off n d) := by
  have IN := Lib.hid (fun (w : World) (d : Nat → Int) (S : SR w0 blk off n d w) (a b : Nat) (h1 : b ≤ n) (ha : a ≤ n) (hd : Decr d a b) => insertion_any (cap := cap) S hC hcv a b h1 ha (by omega) hd)
  have MG := Lib.hid (fun N => symMerge_any (cap := cap) (off := off) hC hcv (show n ≤ 1000 by omega) N)
  have HS := Lib.hid S
  have HD := Lib.hid hd
  clear S hC hcv hd
  go_enter Try.func42, Try.ntmps42
  go_wp2
  go_loopw [7, 8] (fun x y wr => St1 w0 K blk off n d x y wr) (fun _ y _ => 100 - (intOf y).toNat)
  case atStart => exact .inl ⟨rfl, rfl, HS.out⟩
  case round =>
    clear HS
    have BACK : ∀ (w1 : World) (e : Nat → Int), SR w0 blk off n e w1 → Behind K d e n → St2 w0 K blk off n d (.int .i64 20) w1 := fun w1 e h1 h2 => .inl ⟨rfl, e, h1, h2⟩
    rcases hrel with ⟨rfl, rfl, S1⟩ | ⟨h20, rfl, rfl, e, S1, s1, z1⟩ | ⟨h40, rfl, rfl, e, S1, s1⟩
    · by_cases hlt : 20 ≤ n
      · have hz : (20 : Int) ≤ (n : Int) := by omega
        have I1 := IN.out wr d S1 0 20 hlt (by omega) (fun i j a b c => HD.out i j a b (by omega))
        clear S1
        go_wp2_with fail
        refine I1.mono ?_
        rintro en w1 ⟨rfl, e, S2, s2, z2⟩
        have HH := Lib.hid (show St1 w0 K blk off n d (.int .i64 20) (.int .i64 40) w1 from .inr (.inl ⟨hlt, rfl, rfl, e, S2, s2, z2⟩))
        clear S2 s2 z2
        go_wp2
        go_roundw
        case rel => exact HH.out
        case measure => simp [intOf]
      · have hz : ¬ (20 : Int) ≤ (n : Int) := by omega
        have I1 := IN.out wr d S1 0 n (Nat.le_refl _) (Nat.zero_le _) (fun i j a b c => HD.out i j a b c)
        clear S1
        have hz2 : ¬ (20 : Int) < (n : Int) := by omega
        go_wp2_with fail
        refine I1.mono ?_
        rintro en w1 ⟨rfl, e, S2, s2, z2⟩
        have HH := Lib.hid (show St2 w0 K blk off n d (.int .i64 20) w1 from BACK w1 e S2 (.inl ⟨by omega, s2, z2⟩))
        clear S2 s2 z2
        go_wp2
        go_loopw [6, 7, 8, 9] (fun z _ _ _ wr => St2 w0 K blk off n d z wr) (fun z _ _ _ _ => 100 - (intOf z).toNat)
        case atStart => exact HH.out
        case round =>
          clear HH
          rcases hrel with ⟨rfl, e, S1, hb⟩ | ⟨rfl, e, S1, hb⟩
          · by_cases h2 : n ≤ 20
            · have hz : ¬ (20 : Int) < (n : Int) := by omega
              have dn : DoneOf K d e n := by rcases hb with ⟨_, h⟩ | ⟨h, _⟩; exact h; omega
              have HB := Lib.hid dn
              clear hb dn
              go_wp2
              exact bodyPost_end (results_none rfl _ _ _) rfl ⟨rfl, e, S1, HB.out⟩
            · have hz : (20 : Int) < (n : Int) := by omega
              have two : TwoOf K d e n := by rcases hb with ⟨h, _⟩ | ⟨_, h⟩; omega; exact h
              have HB := Lib.hid (show St3 w0 K blk off n d (.int .i64 0) (.int .i64 40) wr from .inl ⟨rfl, rfl, e, S1, two⟩)
              clear hb two S1
              obtain ⟨wo, rfl⟩ : ∃ wo : World, wo = wr := ⟨_, rfl⟩
              go_wp2
              go_loopw [7, 8] (fun x y wr => St3 w0 K blk off n d x y wr) (fun _ y _ => 200 - (intOf y).toNat)
              case atStart => exact HB.out
              case round =>
                clear HB
                rcases hrel with ⟨rfl, rfl, e, S1, two⟩ | ⟨h40, rfl, rfl, e, S1, dn⟩
                · by_cases h40 : n = 40
                  · have hz3 : (40 : Int) ≤ (n : Int) := by omega
                    have M1 : Calls Try.prog 50 #[.slice (some ⟨blk, off, none⟩) n cap, .int .i64 0, .int .i64 20, .int .i64 40, cmpV box] wr (MergePost w0 K blk off n e 0 40) := MG.out 40 wr e 0 20 40 (by omega) (by omega) (by omega) (by omega) S1 two.s1 (by rw [← h40]; exact two.s2) (by rw [← h40]; exact two.ho)
                    have HT := Lib.hid two.same
                    have H40 := Lib.hid h40
                    clear S1 two h40
                    go_wp2_with fail
                    refine M1.mono ?_
                    rintro en w1 ⟨rfl, f, S2, s2, z2⟩
                    have h40 := H40.out
                    have HH := Lib.hid (show St3 w0 K blk off n d (.int .i64 40) (.int .i64 80) w1 from .inr ⟨h40, rfl, rfl, f, S2, by rw [h40]; exact s2, HT.out.trans (by rw [h40]; exact z2)⟩)
                    clear S2 s2 z2 h40
                    go_wp2
                    go_roundw
                    case rel => exact HH.out
                    case measure => simp [intOf]
                  · have hz3 : ¬ (40 : Int) ≤ (n : Int) := by omega
                    have M1 : Calls Try.prog 50 #[.slice (some ⟨blk, off, none⟩) n cap, .int .i64 0, .int .i64 20, .int .i64 n, cmpV box] wr (MergePost w0 K blk off n e 0 n) := MG.out 40 wr e 0 20 n (by omega) (by omega) (by omega) (Nat.le_refl _) S1 two.s1 two.s2 two.ho
                    have HT := Lib.hid two.same
                    clear S1 two
                    go_wp2_with fail
                    refine M1.mono ?_
                    rintro en w1 ⟨rfl, f, S2, s2, z2⟩
                    have HH := Lib.hid (show St2 w0 K blk off n d (.int .i64 40) w1 from .inr ⟨rfl, f, S2, s2, HT.out.trans z2⟩)
                    clear S2 s2 z2
                    go_wp2
                    go_roundw
                    case rel => exact HH.out
                    case measure => simp [intOf]
                · have hz3 : ¬ (80 : Int) ≤ (n : Int) := by omega
                  have hz4 : ¬ (60 : Int) < (n : Int) := by omega
                  have HH := Lib.hid (show St2 w0 K blk off n d (.int .i64 40) wr from .inr ⟨rfl, e, S1, dn⟩)
                  clear S1 dn h40
                  go_wp2
                  go_roundw
                  case rel => exact HH.out
                  case measure => simp [intOf]
          · have hz : ¬ (40 : Int) < (n : Int) := by omega
            have HB := Lib.hid hb
            clear hb
            go_wp2
            exact bodyPost_end (results_none rfl _ _ _) rfl ⟨rfl, e, S1, HB.out⟩
    · by_cases hlt : n = 40
      · have hz : (40 : Int) ≤ (n : Int) := by omega
        have I1 := IN.out wr e S1 20 40 (by omega) (by omega) (fun i j a b c => by rw [z1.out i (.inr a), z1.out j (.inr (by omega))]; exact HD.out i j (by omega) b (by omega))
        have Z1 := Lib.hid (And.intro s1 z1)
        have HL := Lib.hid hlt
        clear S1 s1 z1 hlt
        go_wp2_with fail
        refine I1.mono ?_
        rintro en w1 ⟨rfl, f, S2, s2, z2⟩
        have hlt := HL.out
        have HH := Lib.hid (show St1 w0 K blk off n d (.int .i64 40) (.int .i64 60) w1 from .inr (.inr ⟨hlt, rfl, rfl, f, S2, TwoOf.mk' HD.out h20 Z1.out.1 Z1.out.2 (by rw [hlt]; exact s2) (by rw [hlt]; exact z2)⟩))
        clear S2 s2 z2 hlt
        go_wp2
        go_roundw
        case rel => exact HH.out
        case measure => simp [intOf]
      · have hz : ¬ (40 : Int) ≤ (n : Int) := by omega
        have I1 := IN.out wr e S1 20 n (Nat.le_refl _) (by omega) (fun i j a b c => by rw [z1.out i (.inr a), z1.out j (.inr (by omega))]; exact HD.out i j (by omega) b c)
        have Z1 := Lib.hid (And.intro s1 z1)
        clear S1 s1 z1
        go_wp2_with fail
        refine I1.mono ?_
        rintro en w1 ⟨rfl, f, S2, s2, z2⟩
        have HH := Lib.hid (show St2 w0 K blk off n d (.int .i64 20) w1 from BACK w1 f S2 (by
          by_cases hc : n ≤ 20
          · obtain rfl : n = 20 := by omega
            exact .inl ⟨hc, Z1.out.1.congr fun i _ h => z2.out i (.inl h), Z1.out.2.trans (z2.wide (Nat.zero_le _) (Nat.le_refl _))⟩
          · exact .inr ⟨by omega, TwoOf.mk' HD.out h20 Z1.out.1 Z1.out.2 s2 z2⟩))
        clear S2 s2 z2
        go_wp2
        go_loopw [6, 7, 8, 9] (fun z _ _ _ wr => St2 w0 K blk off n d z wr) (fun z _ _ _ _ => 100 - (intOf z).toNat)
        case atStart => exact HH.out
        case round =>
          clear HH
          rcases hrel with ⟨rfl, e, S1, hb⟩ | ⟨rfl, e, S1, hb⟩
          · by_cases h2 : n ≤ 20
            · have hz : ¬ (20 : Int) < (n : Int) := by omega
              have dn : DoneOf K d e n := by rcases hb with ⟨_, h⟩ | ⟨h, _⟩; exact h; omega
              have HB := Lib.hid dn
              clear hb dn
              go_wp2
              exact bodyPost_end (results_none rfl _ _ _) rfl ⟨rfl, e, S1, HB.out⟩
            · have hz : (20 : Int) < (n : Int) := by omega
              have two : TwoOf K d e n := by rcases hb with ⟨h, _⟩ | ⟨_, h⟩; omega; exact h
              have HB := Lib.hid (show St3 w0 K blk off n d (.int .i64 0) (.int .i64 40) wr from .inl ⟨rfl, rfl, e, S1, two⟩)
              clear hb two S1
              obtain ⟨wo, rfl⟩ : ∃ wo : World, wo = wr := ⟨_, rfl⟩
              go_wp2
              go_loopw [7, 8] (fun x y wr => St3 w0 K blk off n d x y wr) (fun _ y _ => 200 - (intOf y).toNat)
              case atStart => exact HB.out
              case round =>
                clear HB
                rcases hrel with ⟨rfl, rfl, e, S1, two⟩ | ⟨h40, rfl, rfl, e, S1, dn⟩
                · by_cases h40 : n = 40
                  · have hz3 : (40 : Int) ≤ (n : Int) := by omega
                    have M1 : Calls Try.prog 50 #[.slice (some ⟨blk, off, none⟩) n cap, .int .i64 0, .int .i64 20, .int .i64 40, cmpV box] wr (MergePost w0 K blk off n e 0 40) := MG.out 40 wr e 0 20 40 (by omega) (by omega) (by omega) (by omega) S1 two.s1 (by rw [← h40]; exact two.s2) (by rw [← h40]; exact two.ho)
                    have HT := Lib.hid two.same
                    have H40 := Lib.hid h40
                    clear S1 two h40
                    go_wp2_with fail
                    refine M1.mono ?_
                    rintro en w1 ⟨rfl, f, S2, s2, z2⟩
                    have h40 := H40.out
                    have HH := Lib.hid (show St3 w0 K blk off n d (.int .i64 40) (.int .i64 80) w1 from .inr ⟨h40, rfl, rfl, f, S2, by rw [h40]; exact s2, HT.out.trans (by rw [h40]; exact z2)⟩)
                    clear S2 s2 z2 h40
                    go_wp2
                    go_roundw
                    case rel => exact HH.out
                    case measure => simp [intOf]
                  · have hz3 : ¬ (40 : Int) ≤ (n : Int) := by omega
                    have M1 : Calls Try.prog 50 #[.slice (some ⟨blk, off, none⟩) n cap, .int .i64 0, .int .i64 20, .int .i64 n, cmpV box] wr (MergePost w0 K blk off n e 0 n) := MG.out 40 wr e 0 20 n (by omega) (by omega) (by omega) (Nat.le_refl _) S1 two.s1 two.s2 two.ho
                    have HT := Lib.hid two.same
                    clear S1 two
                    go_wp2_with fail
                    refine M1.mono ?_
                    rintro en w1 ⟨rfl, f, S2, s2, z2⟩
                    have HH := Lib.hid (show St2 w0 K blk off n d (.int .i64 40) w1 from .inr ⟨rfl, f, S2, s2, HT.out.trans z2⟩)
                    clear S2 s2 z2
                    go_wp2
                    go_roundw
                    case rel => exact HH.out
                    case measure => simp [intOf]
                · have hz3 : ¬ (80 : Int) ≤ (n : Int) := by omega
                  have hz4 : ¬ (60 : Int) < (n : Int) := by omega
                  have HH := Lib.hid (show St2 w0 K blk off n d (.int .i64 40) wr from .inr ⟨rfl, e, S1, dn⟩)
                  clear S1 dn h40
                  go_wp2
                  go_roundw
                  case rel => exact HH.out
                  case measure => simp [intOf]
          · have hz : ¬ (40 : Int) < (n : Int) := by omega
            have HB := Lib.hid hb
            clear hb
            go_wp2
            exact bodyPost_end (results_none rfl _ _ _) rfl ⟨rfl, e, S1, HB.out⟩
    · have hz : ¬ (60 : Int) ≤ (n : Int) := by omega
      have I1 := IN.out wr e S1 40 n (Nat.le_refl _) (by omega) (fun i j a b c => by omega)
      have S3 := Lib.hid s1
      have H40 := Lib.hid h40
      clear S1 s1 h40
      go_wp2_with fail
      refine I1.mono ?_
      rintro en w1 ⟨rfl, f, S2, _, z2⟩
      have HH := Lib.hid (show St2 w0 K blk off n d (.int .i64 20) w1 from BACK w1 f S2 (.inr ⟨by have := H40.out; omega, by
        have h40 := H40.out
        have hfe : f = e := by
          funext i
          exact z2.out i (by omega)
        rw [hfe]; exact S3.out⟩))
      clear S2 z2
      go_wp2
      go_loopw [6, 7, 8, 9] (fun z _ _ _ wr => St2 w0 K blk off n d z wr) (fun z _ _ _ _ => 100 - (intOf z).toNat)
      case atStart => exact HH.out
      case round =>
        clear HH
        rcases hrel with ⟨rfl, e, S1, hb⟩ | ⟨rfl, e, S1, hb⟩
        · by_cases h2 : n ≤ 20
          · have hz : ¬ (20 : Int) < (n : Int) := by omega
            have dn : DoneOf K d e n := by rcases hb with ⟨_, h⟩ | ⟨h, _⟩; exact h; omega
            have HB := Lib.hid dn
            clear hb dn
            go_wp2
            exact bodyPost_end (results_none rfl _ _ _) rfl ⟨rfl, e, S1, HB.out⟩
          · have hz : (20 : Int) < (n : Int) := by omega
            have two : TwoOf K d e n := by rcases hb with ⟨h, _⟩ | ⟨_, h⟩; omega; exact h
            have HB := Lib.hid (show St3 w0 K blk off n d (.int .i64 0) (.int .i64 40) wr from .inl ⟨rfl, rfl, e, S1, two⟩)
            clear hb two S1
            obtain ⟨wo, rfl⟩ : ∃ wo : World, wo = wr := ⟨_, rfl⟩
            go_wp2
            go_loopw [7, 8] (fun x y wr => St3 w0 K blk off n d x y wr) (fun _ y _ => 200 - (intOf y).toNat)
            case atStart => exact HB.out
            case round =>
              clear HB
              rcases hrel with ⟨rfl, rfl, e, S1, two⟩ | ⟨h40, rfl, rfl, e, S1, dn⟩
              · by_cases h40 : n = 40
                · have hz3 : (40 : Int) ≤ (n : Int) := by omega
                  have M1 : Calls Try.prog 50 #[.slice (some ⟨blk, off, none⟩) n cap, .int .i64 0, .int .i64 20, .int .i64 40, cmpV box] wr (MergePost w0 K blk off n e 0 40) := MG.out 40 wr e 0 20 40 (by omega) (by omega) (by omega) (by omega) S1 two.s1 (by rw [← h40]; exact two.s2) (by rw [← h40]; exact two.ho)
                  have HT := Lib.hid two.same
                  have H40 := Lib.hid h40
                  clear S1 two h40
                  go_wp2_with fail
                  refine M1.mono ?_
                  rintro en w1 ⟨rfl, f, S2, s2, z2⟩
                  have h40 := H40.out
                  have HH := Lib.hid (show St3 w0 K blk off n d (.int .i64 40) (.int .i64 80) w1 from .inr ⟨h40, rfl, rfl, f, S2, by rw [h40]; exact s2, HT.out.trans (by rw [h40]; exact z2)⟩)
                  clear S2 s2 z2 h40
                  go_wp2
                  go_roundw
                  case rel => exact HH.out
                  case measure => simp [intOf]
                · have hz3 : ¬ (40 : Int) ≤ (n : Int) := by omega
                  have M1 : Calls Try.prog 50 #[.slice (some ⟨blk, off, none⟩) n cap, .int .i64 0, .int .i64 20, .int .i64 n, cmpV box] wr (MergePost w0 K blk off n e 0 n) := MG.out 40 wr e 0 20 n (by omega) (by omega) (by omega) (Nat.le_refl _) S1 two.s1 two.s2 two.ho
                  have HT := Lib.hid two.same
                  clear S1 two
                  go_wp2_with fail
                  refine M1.mono ?_
                  rintro en w1 ⟨rfl, f, S2, s2, z2⟩
                  have HH := Lib.hid (show St2 w0 K blk off n d (.int .i64 40) w1 from .inr ⟨rfl, f, S2, s2, HT.out.trans z2⟩)
                  clear S2 s2 z2
                  go_wp2
                  go_roundw
                  case rel => exact HH.out
                  case measure => simp [intOf]
              · have hz3 : ¬ (80 : Int) ≤ (n : Int) := by omega
                have hz4 : ¬ (60 : Int) < (n : Int) := by omega
                have HH := Lib.hid (show St2 w0 K blk off n d (.int .i64 40) wr from .inr ⟨rfl, e, S1, dn⟩)
                clear S1 dn h40
                go_wp2
                go_roundw
                case rel => exact HH.out
                case measure => simp [intOf]
        · have hz : ¬ (40 : Int) < (n : Int) := by omega
          have HB := Lib.hid hb
          clear hb
          go_wp2
          exact bodyPost_end (results_none rfl _ _ _) rfl ⟨rfl, e, S1, HB.out⟩
end Go.Proofs.Ytogoiikgiohlhaa
