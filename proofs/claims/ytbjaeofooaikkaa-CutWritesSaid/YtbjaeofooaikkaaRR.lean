/- Slices of slices of bytes, as they are read; whether two are the same; where a chunk begins. -/
import Derived.Test.YtbjaeofooaikkaaCutNew
namespace Go.Proofs.Ytbjaeofooaikkaa
open Go Go.RowKit

abbrev Rows := List (List (BitVec 8))
/-- The i-th, under a name of its own. -/
def rowOf (ls : Rows) (i : Nat) : List (BitVec 8) := ls.getD i []
def RowsAt (w : World) (b off : Nat) (ls : Rows) : Prop := ∀ i, i < ls.length → ∃ a c, w.cell? ⟨b, off + i, none⟩ = some (.slice a (rowOf ls i).length c) ∧ Reads w a c (rowOf ls i)
structure RR (w : World) (a : Option Addr) (cap : Nat) (ls : Rows) : Prop where
  fits : ls.length ≤ cap
  room : cap ≤ 9223372036854775807
  null : a = none → cap = 0
  rows : ls = [] ∨ ∃ b off, a = some ⟨b, off, none⟩ ∧ RowsAt w b off ls
theorem rowOf_lt {ls : Rows} {i : Nat} (h : i < ls.length) : rowOf ls i = ls[i] := by simp [rowOf, List.getD_eq_getElem?_getD, List.getElem?_eq_getElem h]
theorem rowOf_take {ls : Rows} {n i : Nat} (h : i < n) : rowOf (ls.take n) i = rowOf ls i := by simp [rowOf, List.getD_eq_getElem?_getD, h]
theorem rowOf_drop (ls : Rows) (n i : Nat) : rowOf (ls.drop n) i = rowOf ls (n + i) := by simp [rowOf, List.getD_eq_getElem?_getD]
theorem rows_take_snoc (ls : Rows) (k : Nat) (h : k < ls.length) : ls.take (k + 1) = ls.take k ++ [rowOf ls k] := by
  rw [List.take_succ_eq_append_getElem h, rowOf_lt h]
theorem RowsAt.keeps {w w' : World} {b off : Nat} {ls : Rows} (h : RowsAt w b off ls) (k : Keeps w w') : RowsAt w' b off ls := fun i hi => by
  obtain ⟨a, c, hc, hr⟩ := h i hi
  exact ⟨a, c, k _ _ hc, hr.keeps k⟩
theorem RR.keeps {w w' : World} {a : Option Addr} {cap : Nat} {ls : Rows} (h : RR w a cap ls) (k : Keeps w w') : RR w' a cap ls := by
  refine ⟨h.fits, h.room, h.null, ?_⟩
  rcases h.rows with e | ⟨b, off, e, hb⟩
  · exact .inl e
  · exact .inr ⟨b, off, e, hb.keeps k⟩
theorem RR.take {w : World} {a : Option Addr} {cap : Nat} {ls : Rows} (h : RR w a cap ls) (n : Nat) : RR w a cap (ls.take n) := by
  refine ⟨Nat.le_trans (by rw [List.length_take]; omega) h.fits, h.room, h.null, ?_⟩
  rcases h.rows with rfl | ⟨b, off, e, hb⟩
  · exact .inl (by simp)
  · refine .inr ⟨b, off, e, fun i hi => ?_⟩
    have h1 : i < ls.length ∧ i < n := by rw [List.length_take] at hi; omega
    rw [rowOf_take h1.2]; exact hb i h1.1
theorem RR.drop {w : World} {a : Option Addr} {cap : Nat} {ls : Rows} (h : RR w a cap ls) (n : Nat) (hn : n ≤ ls.length) : RR w (dropAddr a cap n) (cap - n) (ls.drop n) := by
  have h1 := h.fits
  have h2 := h.room
  refine ⟨by rw [List.length_drop]; omega, by omega, ?_, ?_⟩
  · intro e
    unfold dropAddr at e
    split at e
    · omega
    · have : a = none := by cases a <;> simp_all
      have := h.null this; omega
  · by_cases hd : ls.drop n = []
    · exact .inl hd
    · right
      have hlt : n < ls.length := by
        rcases Nat.lt_or_ge n ls.length with h' | h'
        · exact h'
        · exact (hd (List.drop_eq_nil_of_le h')).elim
      rcases h.rows with rfl | ⟨b, off, rfl, hb⟩
      · simp at hlt
      · refine ⟨b, off + n, ?_, fun i hi => ?_⟩
        · unfold dropAddr
          rw [if_neg (by omega), Option.map_some, Addr.add_lit]
        · rw [List.length_drop] at hi
          obtain ⟨x, c, h3, h4⟩ := hb (n + i) (by omega)
          rw [rowOf_drop]
          exact ⟨x, c, by rw [show off + n + i = off + (n + i) by omega]; exact h3, h4⟩
theorem OwnsRows.rr {F : Nat → Prop} {w : World} {B : Nat} {E : TypeId} {v : Value} {vs : List Value} {ls : Rows} (h : OwnsRows F w B E v vs ls) : ∃ a cap, v = .slice a ls.length cap ∧ RR w a cap ls := by
  obtain ⟨a, cap, e, h1, h2, h3⟩ := h.form
  refine ⟨a, cap, e, h2, h3, fun e => (h1 e).1, ?_⟩
  by_cases hn : ls = []
  · exact .inl hn
  · right
    obtain ⟨g, cap', x, c, e2, _⟩ := h.at_ (i := 0) (List.length_pos_iff.2 hn)
    rw [e] at e2
    injection e2 with e3 _ e4
    refine ⟨g, 0, e3, fun i hi => ?_⟩
    obtain ⟨g', cap'', x, c, e5, h5, h6, _⟩ := h.at_ hi
    rw [e, e3] at e5
    injection e5 with e6 _ _
    injection e6 with e6
    injection e6 with e6 _ _
    subst e6
    rw [Nat.zero_add]
    exact ⟨x, c, h5, h6⟩

theorem quiet_tells {P : Program} {f : FuncId} {args : Array Value} {b : Bool} {w : World} {n : Nat} (h : Calls P f args (w.drewN n) (Tells (w.drewN n) b)) :
    Calls P f args (w.drewN n) fun e w'' => e = .returned (.bool b) ∧ ∃ m, w'' = w.drewN m := h.mono fun _ _ ⟨m, he, hw⟩ => ⟨he, n + m, by rw [hw, World.drewN_drewN]⟩
theorem rows_ext {ls ms : Rows} (hl : ls.length = ms.length) (h : ls.take ls.length = ms.take ls.length) : ls = ms := by
  rw [List.take_length, hl, List.take_length] at h; exact h
def SameRel (ls ms : Rows) (w : World) (i : Value) (wr : World) : Prop := ∃ k n : Nat, k ≤ ls.length ∧ i = .int .i64 k ∧ ls.take k = ms.take k ∧ wr = w.drewN n
set_option maxHeartbeats 400000 in
theorem sameRows_some (b o c b' o' c' : Nat) (ls ms : Rows) (w : World) (hl : ls.length ≤ 9223372036854775807) (he : ls.length = ms.length) (hb : RowsAt w b o ls) (hb' : RowsAt w b' o' ms) :
    Calls Try.prog 18 #[.slice (some ⟨b, o, none⟩) ls.length c, .slice (some ⟨b', o', none⟩) ms.length c'] w (Tells w (ls == ms)) := by
  rw [← he]
  have HE := Lib.hid he; clear he
  go_enter Try.func18, Try.ntmps18
  go_wp2
  go_loopw [5] (fun i wr => SameRel ls ms w i wr) (fun i _ => ls.length - (intOf i).toNat)
  case atStart => exact ⟨0, 0, Nat.zero_le _, rfl, rfl, rfl⟩
  case round =>
    obtain ⟨k, n, hk, rfl, ht, hw⟩ := hrel
    have HT := Lib.hid ht; clear ht
    have hb := hb.keeps (hw ▸ Keeps.drewN w n : Keeps w wr)
    have hb' := hb'.keeps (hw ▸ Keeps.drewN w n : Keeps w wr)
    have HW := Lib.hid hw; clear hw
    by_cases hlt : k < ls.length
    · obtain ⟨a1, c1, h1, r1⟩ := hb k hlt
      have hm : k < ms.length := by rw [← HE.out]; exact hlt
      obtain ⟨a2, c2, h2, r2⟩ := hb' k hm
      have SA := fun n => same_any a1 a2 c1 c2 (rowOf ls k) (rowOf ms k) (wr.drewN n) (r1.keeps (Keeps.drewN _ _)) (r2.keeps (Keeps.drewN _ _))
      have e1 := Lib.hid (rows_take_snoc ls k hlt)
      have e2 := Lib.hid (rows_take_snoc ms k hm)
      clear hb hb' r1 r2
      generalize rowOf ls k = x at *
      generalize rowOf ms k = y at *
      cases hxy : x == y
      · rw [hxy] at SA
        have hd : (ls == ms) = false := by
          rw [beq_eq_false_iff_ne]; intro e
          rw [beq_eq_false_iff_ne] at hxy
          apply hxy
          have h3 := e1.out
          rw [e, e2.out, HT.out.symm, e] at h3
          have := List.append_cancel_left h3
          injection this with h4 _
          exact h4.symm
        have HD := Lib.hid hd
        clear hd hxy
        go_wp2_with fail
        go_quiet (exact quiet_tells (SA _))
        go_wp2
        go_ret
        exact ⟨n + nq, ret_bool HD.out.symm, by rw [HW.out, World.drewN_drewN]⟩
      · rw [hxy] at SA
        have HX := Lib.hid (beq_iff_eq.1 hxy)
        clear hxy
        go_wp2_with fail
        go_quiet (exact quiet_tells (SA _))
        go_wp2
        go_roundw
        case rel => exact ⟨k + 1, n + nq, by omega, by go_num, by rw [e1.out, e2.out, HT.out, HX.out], by rw [HW.out, World.drewN_drewN]⟩
        case measure => simp [intOf]; omega
    · clear hb hb'
      go_wp2
      go_ret
      refine ⟨_, ret_bool ?_, HW.out⟩
      obtain rfl : k = ls.length := by omega
      rw [rows_ext HE.out HT.out]
      exact (beq_self_eq_true ms).symm
theorem sameRows_none (a a' : Option Addr) (c c' : Nat) (w : World) :
    Calls Try.prog 18 #[.slice a 0 c, .slice a' 0 c'] w (Tells w true) := by
  go_enter Try.func18, Try.ntmps18
  go_wp2
  refine wp_loop_once ?_
  go_wp2
  go_ret
  exact ⟨0, rfl, rfl⟩
theorem sameRows_unlike (a a' : Option Addr) (c c' : Nat) (n n' : Nat) (w : World) (h : ((n : Int) != (n' : Int)) = true) :
    Calls Try.prog 18 #[.slice a n c, .slice a' n' c'] w (Tells w false) := by
  go_enter Try.func18, Try.ntmps18
  go_wp2
  go_ret
  exact ⟨0, rfl, rfl⟩
theorem sameRows_any (a a' : Option Addr) (c c' : Nat) (ls ms : Rows) (w : World) (hl : RR w a c ls) (hm : RR w a' c' ms) :
    Calls Try.prog 18 #[.slice a ls.length c, .slice a' ms.length c'] w (Tells w (ls == ms)) := by
  by_cases h : ls.length = ms.length
  · rcases hl.rows with rfl | ⟨b, o, rfl, hb⟩
    · have : ms = [] := List.eq_nil_of_length_eq_zero (by simpa using h.symm)
      subst this
      exact sameRows_none a a' c c' w
    · rcases hm.rows with rfl | ⟨b', o', rfl, hb'⟩
      · have : ls = [] := List.eq_nil_of_length_eq_zero (by simpa using h)
        subst this
        exact sameRows_none _ a' c c' w
      · exact sameRows_some b o c b' o' c' ls ms w (Nat.le_trans hl.fits hl.room) h hb hb'
  · have : (ls == ms) = false := by rw [beq_eq_false_iff_ne]; intro e; exact h (by rw [e])
    rw [this]
    exact sameRows_unlike a a' c c' _ _ w (by rw [bne_iff_ne]; omega)
end Go.Proofs.Ytbjaeofooaikkaa
