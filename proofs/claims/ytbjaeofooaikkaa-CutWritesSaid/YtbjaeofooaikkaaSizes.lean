/- Sizes of the program; 'lives'; where a chunk begins. -/
import Derived.Test.YtbjaeofooaikkaaRR
namespace Go.Proofs.Ytbjaeofooaikkaa
open Go Go.RowKit

theorem intsElem : Elem Try.prog 32 3 (.int .i64 0) 8 := ⟨by kernel_rfl, by kernel_rfl, rfl⟩
def lens (ls : Rows) : List Value := ls.map fun c => .int .i64 c.length
theorem lens_snoc (ls : Rows) (k : Nat) (h : k < ls.length) : lens (ls.take (k + 1)) = lens (ls.take k) ++ [.int .i64 (rowOf ls k).length] := by
  rw [rows_take_snoc ls k h]; simp [lens]
/-- What Sizes gives. -/
def SizesC (h : CutMath.Sh) (l : List (BitVec 8)) (w : World) (e : Ending) (w' : World) : Prop :=
  ∃ v, e = .returned (.tuple #[v, .int .i64 0]) ∧ w'.ownsRow w.heap.size 3 1 v (CutMath.split h l).length (lens (CutMath.split h l)) ∧ Below w.heap.size w w'
theorem sizes_bad (L M K W : Int) (s : BitVec 32) (a : Option Addr) (n cap : Nat) (w : World) (h : W < 1 ∨ 63 < W ∨ L < W ∨ M < L ∨ 8192 < M ∨ K < 0 ∨ 20 < K) :
    Calls Try.prog 13 #[shapeV L M K W s, .slice a n cap] w fun e w' => e = .returned (.tuple #[.slice none 0 0, .int .i64 2]) ∧ Below w.heap.size w w' := by
  have CH := fun v => cutSplit_bad L M K W s a n cap v h
  unfold shapeV at *
  clear h
  have hb0 := (Below.refl w.heap.size w).alloc (Nat.le_refl _) (.cells #[.int .i64 L, .int .i64 M, .int .i64 K, .int .i64 W, U32 s] 24)
  go_enter Try.func13, Try.ntmps13
  go_wp2_with fail
  refine (CH _).mono ?_
  rintro e w2 ⟨rfl, hb⟩
  go_wp2
  refine wp_loop_once ?_
  go_wp2
  go_ret2
  exact ⟨rfl, hb0.trans (hb.mono hb0.size)⟩
def SizesRel (w2 : World) (ls : Rows) (v i : Value) (wr : World) : Prop := ∃ k : Nat, k ≤ ls.length ∧ i = .int .i64 k ∧ wr.ownsRow w2.heap.size 3 1 v k (lens (ls.take k)) ∧ Below w2.heap.size w2 wr
theorem sizes_good (h : CutMath.Sh) (g : h.Good) (a : Option Addr) (cap : Nat) (l : List (BitVec 8)) (w : World) (hl : l.length ≤ 1048576) (hr : Reads w a cap l) :
    Calls Try.prog 13 #[shV h, .slice a l.length cap] w (SizesC h l w) := by
  have hb0 := (Below.refl w.heap.size w).alloc (Nat.le_refl _) (.cells #[.int .i64 h.L, .int .i64 h.M, .int .i64 h.K, .int .i64 h.W, U32 h.s] 24)
  have CH := cutSplit_good h g a cap l _ hl (hr.keeps (Keeps.below hb0))
  have hs0 := hb0.size
  have hsp : (CutMath.split h l).length ≤ 1048577 := by
    have := CutMath.feed_few h l []
    rcases split_cases h l with ⟨_, e⟩ | ⟨_, e⟩ <;> rw [e] <;> simp <;> omega
  clear hr
  unfold shV shapeV at *
  go_enter Try.func13, Try.ntmps13
  go_wp2_with fail
  generalize w.alloc (.cells #[.int .i64 h.L, .int .i64 h.M, .int .i64 h.K, .int .i64 h.W, U32 h.s] 24) = w1 at *
  refine CH.mono ?_
  rintro e w2 ⟨v, vs, rfl, rows, hb⟩
  obtain ⟨a1, c1, rfl, rr⟩ := rows.rr
  have hlow := hb0.trans (hb.mono hs0)
  clear CH rows
  generalize hls : CutMath.split h l = ls at *
  have HLS := Lib.hid hls; clear hls
  go_wp2
  by_cases hne : ls = []
  · subst hne
    refine wp_loop_once ?_
    go_wp2
    go_ret2
    exact ⟨_, rfl, by rw [HLS.out]; exact World.ownsRow_nil _ _ _ _, hlow⟩
  · rcases rr.rows with e | ⟨b, off, rfl, hrows⟩
    · exact (hne e).elim
    · go_loopw [8, 19] (fun v i wr => SizesRel w2 ls v i wr) (fun _ i _ => ls.length - (intOf i).toNat)
      case atStart => exact ⟨0, Nat.zero_le _, rfl, World.ownsRow_nil _ _ _ _, Below.refl _ _⟩
      case round =>
        obtain ⟨k, hk, rfl, hrow, hbr⟩ := hrel
        have hrr := rr.room
        have hrf := rr.fits
        by_cases hlt : k < ls.length
        · obtain ⟨ai, ci, hc, _⟩ := (hrows.keeps (Keeps.below hbr)) k hlt
          have HS := Lib.hid (lens_snoc ls k hlt)
          generalize (rowOf ls k).length = n at *
          have t4 : Touch (fun _ => False) wr (wr.alloc (.cells #[.int .i64 n] 3)) := (Touch.refl _ _).alloc _
          have hrow4 := t4.row hrow fun _ _ f => f
          have hcell : (wr.alloc (.cells #[.int .i64 n] 3)).cell? ⟨wr.heap.size, 0, none⟩ = some (.int .i64 n) := alloc_cell wr _ _ 0
          have hb4 := hbr.alloc hbr.size (.cells #[.int .i64 n] 3)
          have hsz := hb4.size
          have H4 := Lib.hid hb4
          clear rr hrows hrow t4 hb4 hne
          go_wp2_with (at_builtin; refine wpList_append_elem intsElem rfl _ _ rfl w2.heap.size u8 k (lens (ls.take k)) rfl hrow4 ⟨wr.heap.size, 0, none⟩ 1 (.int .i64 n) rfl hcell rfl (by omega) (by omega) hsz ?_; intro ov' w5 h1 hg hb5)
          go_roundw
          case rel =>
            refine ⟨k + 1, by omega, by go_num, by rw [HS.out]; exact h1, ?_⟩
            exact H4.out.trans ((Touch.of_grown (F := fun k => u8.ownBlock = some k) hg fun k hk => hk).below (fun k hk => (row_lt hrow4 hk).1) hsz)
          case measure => simp [intOf]; omega
        · obtain rfl : k = ls.length := by omega
          rw [List.take_length] at hrow
          clear rr hrows
          go_wp2
          go_ret2
          have hs2 := hlow.size
          exact ⟨_, rfl, by rw [HLS.out]; exact row_mono hrow fun k hk => Nat.le_trans hs2 (row_lt hrow hk).1, hlow.trans (hbr.mono hs2)⟩
/-- The numbers of a row. -/
theorem ints_at {w : World} {B n : Nat} {v : Value} {ls : Rows} (h : w.ownsRow B 3 1 v n (lens ls)) {i : Nat} (hi : i < ls.length) (hn : n = ls.length) :
    ∃ g cap, v = .slice (some ⟨g, 0, none⟩) n cap ∧ w.cell? ⟨g, i, none⟩ = some (.int .i64 (rowOf ls i).length) := by
  rcases h.2 with ⟨_, h0⟩ | ⟨g, cap, cur, rfl, _⟩
  · omega
  · have := h.cells (g := g) rfl i (.int .i64 (rowOf ls i).length) (by simp [lens, rowOf_lt hi, hi])
    rw [Addr.add_lit, Nat.zero_add] at this
    exact ⟨g, cap, rfl, this⟩
/-- What from gives. -/
def FromC (ls : Rows) (at_ : Nat) (w : World) (e : Ending) (w' : World) : Prop :=
  w = w' ∧ ((e = .returned (.int .i64 (-1))) ∨ ∃ p : Nat, e = .returned (.int .i64 p) ∧ p ≤ ls.length ∧ CutMath.pre ls p = at_)
def FromRel (ls : Rows) (n i : Value) : Prop := ∃ k : Nat, k ≤ ls.length + 1 ∧ i = .int .i64 k ∧ n = .int .i64 (CutMath.pre ls k)
theorem pre_le (ls : Rows) (k : Nat) : CutMath.pre ls k ≤ ls.flatten.length := by
  unfold CutMath.pre
  have : ls.flatten.length = (ls.map List.length).sum := by rw [List.length_flatten]
  rw [this]
  conv => rhs; rw [← List.take_append_drop k ls, List.map_append, List.sum_append]
  omega
theorem pre_past (ls : Rows) : CutMath.pre ls (ls.length + 1) = CutMath.pre ls ls.length := by
  unfold CutMath.pre; rw [List.take_length, List.take_of_length_le (by omega)]
theorem from_any (a : Option Addr) (cap : Nat) (ls : Rows) (at_ : Nat) (w : World) (hr : RR w a cap ls) (hl : ls.flatten.length ≤ 1048576) (hl2 : ls.length ≤ 1048577) :
    Calls Try.prog 24 #[.slice a ls.length cap, .int .i64 at_] w (FromC ls at_ w) := by
  have h1 := hr.fits
  have h2 := hr.room
  go_enter Try.func24, Try.ntmps24
  go_wp2
  go_loop [5, 6] (fun n i => FromRel ls n i) (fun _ i => ls.length + 1 - (intOf i).toNat)
  case atStart => exact ⟨0, by omega, rfl, by rw [CutMath.pre_zero]; rfl⟩
  case round =>
    obtain ⟨k, hk, rfl, rfl⟩ := hrel
    have hp := pre_le ls k
    by_cases hle : k ≤ ls.length
    · by_cases heq : CutMath.pre ls k = at_
      · have hq : ((CutMath.pre ls k : Int) == (at_ : Int)) = true := by rw [beq_iff_eq]; omega
        have HQ := Lib.hid heq
        clear heq hr
        go_wp2
        go_ret
        exact ⟨rfl, .inr ⟨k, rfl, hle, HQ.out⟩⟩
      · have hq : ((CutMath.pre ls k : Int) == (at_ : Int)) = false := by rw [beq_eq_false_iff_ne]; omega
        by_cases hlt : k < ls.length
        · rcases hr.rows with rfl | ⟨b, off, rfl, hb⟩
          · simp at hlt
          · obtain ⟨ai, ci, hc, _⟩ := hb k hlt
            have HP := Lib.hid (CutMath.pre_succ ls k hlt)
            have hp2 := pre_le ls (k + 1)
            rw [HP.out, ← rowOf_lt hlt] at hp2
            rw [← rowOf_lt hlt] at HP
            clear hb hr heq
            generalize CutMath.pre ls k = p at *
            generalize (rowOf ls k).length = q at *
            go_wp2
            go_round
            case rel => exact ⟨k + 1, by omega, by go_num, by rw [HP.out]; go_num⟩
            case measure => simp [intOf]; omega
        · obtain rfl : k = ls.length := by omega
          have HP := Lib.hid (pre_past ls)
          clear hr heq
          generalize CutMath.pre ls ls.length = p at *
          go_wp2
          go_round
          case rel => exact ⟨ls.length + 1, by omega, by go_num, by rw [HP.out]⟩
          case measure => simp [intOf]
    · clear hr
      generalize CutMath.pre ls k = p at *
      go_wp2
      go_ret
      exact ⟨rfl, .inl rfl⟩
end Go.Proofs.Ytbjaeofooaikkaa
