/- '(*choice).by': what one rule keeps. -/
import Derived.Test.YtogoiikgiohlhaaAbs
import Derived.Laws.StructEq
namespace Go.Proofs.Ytogoiikgiohlhaa
open Go Go.RowKit Ch

theorem made_row (w : World) (t : TypeId) (Z C : Array Value) : ((w.alloc (.cells Z t)).setRow w.heap.size C).heap[w.heap.size]? = some (.cells C t (0, 0)) ∧ Below w.heap.size w ((w.alloc (.cells Z t)).setRow w.heap.size C) := by
  have h1 : (w.alloc (.cells Z t)).heap[w.heap.size]? = some (.cells Z t (0, 0)) := heap_alloc_new w _
  have t1 : Touch (fun x => x = w.heap.size) (w.alloc (.cells Z t)) ((w.alloc (.cells Z t)).setRow w.heap.size C) := Touch.setRow _ _ _ rfl
  exact ⟨setRow_heap _ _ _ _ t _ h1, ((Below.refl _ _).alloc (Nat.le_refl _) _).trans (t1.below (fun x e => by have e2 : x = w.heap.size := e; omega) (by simp))⟩
/-- Numbers in a row. -/
def NumsAt (w : World) (a : Option Addr) (n : Nat) (f : Nat → Int) : Prop := ∀ i, i < n → ∃ b o, a = some ⟨b, o, none⟩ ∧ w.cell? ⟨b, o + i, none⟩ = some (.int .i64 (f i))
theorem NumsAt.touch {w w' : World} {a : Option Addr} {n : Nat} {f : Nat → Int} {F : Nat → Prop} (h : NumsAt w a n f) (t : Touch F w w') (hF : ∀ ad, a = some ad → ¬ F ad.block) : NumsAt w' a n f := fun i hi => by
  obtain ⟨b, o, e, hc⟩ := h i hi
  exact ⟨b, o, e, t.cell hc (hF ⟨b, o, none⟩ e)⟩
/-- Which of n places are marked. -/
structure Kp (w : World) (kb n : Nat) (S : List Int) : Prop where
  cell : ∀ i : Nat, i < n → w.cell? ⟨kb, i, none⟩ = some (.int .i64 (if S.contains (i : Int) then 1 else 0))
  froz : ∀ i : Nat, i < n → w.frozen? ⟨kb, i, none⟩ = false
theorem Kp.touch {w w' : World} {kb n : Nat} {S : List Int} {F : Nat → Prop} (h : Kp w kb n S) (t : Touch F w w') (hb : kb < w.heap.size) (hF : ¬ F kb) : Kp w' kb n S :=
  ⟨fun i hi => t.cell (h.cell i hi) hF, fun i hi => (t.frozen hb hF).trans (h.froz i hi)⟩
theorem Kp.mark {w : World} {kb n : Nat} {S : List Int} (h : Kp w kb n S) {i : Nat} (hi : i < n) : Kp (w.setCell ⟨kb, i, none⟩ (.int .i64 1)) kb n (S ++ [(i : Int)]) where
  cell j hj := by
    by_cases e : j = i
    · subst e
      rw [World.cell?_setCell_same _ _ _ (h.cell j hj)]; simp
    · rw [World.cell?_setCell_other _ _ _ _ (by intro e'; simp only [Addr.mk.injEq] at e'; omega), h.cell j hj]
      have : (S ++ [(i : Int)]).contains (j : Int) = S.contains (j : Int) := by
        rw [Bool.eq_iff_iff]; simp; intro h; omega
      rw [this]
  froz j hj := by rw [World.frozen?_setCell]; exact h.froz j hj
/-- What lies where while the rules go. -/
structure Sit (w : World) (h kb n : Nat) (la oa : Option Addr) (lcap ocap : Nat) (T : Int → Int) (f : Nat → Int) (S : List Int) : Prop where
  c0 : w.cell? ⟨h, 0, none⟩ = some (.slice la n lcap)
  c1 : w.cell? ⟨h, 1, none⟩ = some (.slice oa n ocap)
  c2 : w.cell? ⟨h, 2, none⟩ = some (.slice (some ⟨kb, 0, none⟩) n n)
  times : TimesAt w la n T
  ord : NumsAt w oa n f
  kp : Kp w kb n S
  rng : ∀ i, i < n → 0 ≤ f i ∧ f i < n
  lt : kb < w.heap.size
  hl : h < w.heap.size
  hk : h ≠ kb
  ok : ∀ ad, oa = some ad → ad.block ≠ kb ∧ ad.block < w.heap.size
  lk : ∀ ad, 0 < n → la = some ad → ad.block ≠ kb ∧ ad.block < w.heap.size
theorem Sit.new {w w' : World} {h kb n : Nat} {la oa : Option Addr} {lcap ocap : Nat} {T : Int → Int} {f : Nat → Int} {S : List Int} (s : Sit w h kb n la oa lcap ocap T f S) (t : Touch (fun _ => False) w w') : Sit w' h kb n la oa lcap ocap T f S where
  c0 := t.cell s.c0 id
  c1 := t.cell s.c1 id
  c2 := t.cell s.c2 id
  times i hi := by
    obtain ⟨b, o, e, hc⟩ := s.times i hi
    exact ⟨b, o, e, t.cell hc id⟩
  ord := s.ord.touch t fun _ _ => id
  kp := s.kp.touch t s.lt id
  rng := s.rng
  lt := Nat.lt_of_lt_of_le s.lt t.size
  hl := Nat.lt_of_lt_of_le s.hl t.size
  hk := s.hk
  ok ad e := ⟨(s.ok ad e).1, Nat.lt_of_lt_of_le (s.ok ad e).2 t.size⟩
  lk ad hn e := ⟨(s.lk ad hn e).1, Nat.lt_of_lt_of_le (s.lk ad hn e).2 t.size⟩
theorem Sit.apart {w w' : World} {h kb n : Nat} {la oa : Option Addr} {lcap ocap : Nat} {T : Int → Int} {f : Nat → Int} {S : List Int} {F : Nat → Prop} (s : Sit w h kb n la oa lcap ocap T f S) (t : Touch F w w')
    (h1 : ¬ F h) (h2 : ¬ F kb) (h3 : ∀ ad, oa = some ad → ¬ F ad.block) (h4 : ∀ ad, 0 < n → la = some ad → ¬ F ad.block) : Sit w' h kb n la oa lcap ocap T f S where
  c0 := t.cell s.c0 h1
  c1 := t.cell s.c1 h1
  c2 := t.cell s.c2 h1
  times i hi := by
    obtain ⟨b, o, e, hc⟩ := s.times i hi
    exact ⟨b, o, e, t.cell hc (h4 ⟨b, o, none⟩ (by omega) e)⟩
  ord := s.ord.touch t h3
  kp := s.kp.touch t s.lt h2
  rng := s.rng
  lt := Nat.lt_of_lt_of_le s.lt t.size
  hl := Nat.lt_of_lt_of_le s.hl t.size
  hk := s.hk
  ok ad e := ⟨(s.ok ad e).1, Nat.lt_of_lt_of_le (s.ok ad e).2 t.size⟩
  lk ad hn e := ⟨(s.lk ad hn e).1, Nat.lt_of_lt_of_le (s.lk ad hn e).2 t.size⟩
theorem run_eq_per (a b c d : Int) (w : World) : (binOp .eql 69 (.agg #[.int .i64 a, .int .i64 b]) (.agg #[.int .i64 c, .int .i64 d])).run Try.prog w = .ok (.bool (decide (a = c ∧ b = d))) w := by
  have u3 := Try.underlying3
  have a3 := Try.isAgg3
  have z3 := Try.sizeOf3
  have hS : Try.prog.underlying 69 = some (.struct (Try.prog.fieldsOf 69)) := by kernel_rfl
  have hp : Try.prog.stoodInHeld 69 = false := by kernel_rfl
  rw [run_eql_struct, show (10000 : Nat) = 9999 + 1 from rfl, run_equalIn_agg w 9999 69 _ _ hS hp]
  simp only [Program.fieldsOf, Try.underlying69]
  go_simp
  by_cases h1 : a = c <;> by_cases h2 : b = d <;> simp [h1, h2]
theorem by1_take {r0 : Bool} {P : Int → Int × Int} {p : Option Int} {x : Int} {l : List Int} {n : Nat} {k : List Int} (h0 : n ≠ 0) (hf : fresh r0 P p x = true) (hk : k.contains x = false) : by1 r0 P p (x :: l) n k = by1 r0 P (some x) l (n - 1) (k ++ [x]) := by
  rw [by1, if_neg h0, hf, hk]; rfl
theorem by1_in {r0 : Bool} {P : Int → Int × Int} {p : Option Int} {x : Int} {l : List Int} {n : Nat} {k : List Int} (h0 : n ≠ 0) (hk : k.contains x = true) : by1 r0 P p (x :: l) n k = by1 r0 P (some x) l n k := by
  rw [by1, if_neg h0, hk, if_neg (by simp)]
theorem by1_stale {r0 : Bool} {P : Int → Int × Int} {p : Option Int} {x : Int} {l : List Int} {n : Nat} {k : List Int} (h0 : n ≠ 0) (hf : fresh r0 P p x = false) : by1 r0 P p (x :: l) n k = by1 r0 P (some x) l n k := by
  rw [by1, if_neg h0, hf, if_neg (by simp)]
theorem Sit.mark {w : World} {h kb n : Nat} {la oa : Option Addr} {lcap ocap : Nat} {T : Int → Int} {f : Nat → Int} {S : List Int} (s : Sit w h kb n la oa lcap ocap T f S) {i : Nat} (hi : i < n) :
    Sit (w.setCell ⟨kb, i, none⟩ (.int .i64 1)) h kb n la oa lcap ocap T f (S ++ [(i : Int)]) := by
  have t : Touch (fun b => b = kb) w (w.setCell ⟨kb, i, none⟩ (.int .i64 1)) := Touch.set w kb i _ rfl
  exact {
    c0 := t.cell s.c0 s.hk
    c1 := t.cell s.c1 s.hk
    c2 := t.cell s.c2 s.hk
    times := fun j hj => by
      obtain ⟨b, o, e, hc⟩ := s.times j hj
      exact ⟨b, o, e, t.cell hc (s.lk ⟨b, o, none⟩ (by omega) e).1⟩
    ord := s.ord.touch t fun ad e => (s.ok ad e).1
    kp := s.kp.mark hi
    rng := s.rng
    lt := Nat.lt_of_lt_of_le s.lt t.size
    hl := Nat.lt_of_lt_of_le s.hl t.size
    hk := s.hk
    ok := fun ad e => ⟨(s.ok ad e).1, Nat.lt_of_lt_of_le (s.ok ad e).2 t.size⟩
    lk := fun ad hn e => ⟨(s.lk ad hn e).1, Nat.lt_of_lt_of_le (s.lk ad hn e).2 t.size⟩ }
/-- What a rule has still to do. -/
def prevOf (f : Nat → Int) (i : Nat) : Option Int := if i = 0 then none else some (f (i - 1))
def restOf (f : Nat → Int) (n i : Nat) : List Int := ((List.range n).map f).drop i
theorem restOf_cons (f : Nat → Int) {n i : Nat} (h : i < n) : restOf f n i = f i :: restOf f n (i + 1) := by
  unfold restOf
  rw [List.drop_eq_getElem_cons (by simpa using h)]
  simp
theorem prevOf_succ (f : Nat → Int) (i : Nat) : prevOf f (i + 1) = some (f i) := rfl
theorem restOf_end (f : Nat → Int) (n : Nat) : restOf f n n = [] := by unfold restOf; simp
def pairC (p : Int × Int) : Array Value := #[.int .i64 p.1, .int .i64 p.2]
structure ByAt (w : World) (h kb n : Nat) (la oa : Option Addr) (lcap ocap : Nat) (T : Int → Int) (f : Nat → Int) (r : Nat) (Fin : List Int) (i m : Nat) (wr : World) : Prop where
  ex : ∃ S p, Sit wr h kb n la oa lcap ocap T f S ∧ by1 (r == 0) (fun x => DateMath.per r (T x)) (prevOf f i) (restOf f n i) m S = Fin ∧
    wr.heap[w.heap.size]? = some (.cells (pairC p) 69 (0, 0)) ∧ (1 ≤ i → p = DateMath.per r (T (f (i - 1))))
  touch : Touch (fun b => b = kb) w wr
def ByRel (w : World) (h kb n : Nat) (la oa : Option Addr) (lcap ocap : Nat) (T : Int → Int) (f : Nat → Int) (r : Nat) (Fin : List Int) (z x : Value) (wr : World) : Prop :=
  ∃ i m : Nat, i ≤ n ∧ x = .int .i64 i ∧ z = .int .i64 m ∧ m ≤ 1000 ∧ ByAt w h kb n la oa lcap ocap T f r Fin i m wr
def ByPost (w : World) (h kb n : Nat) (la oa : Option Addr) (lcap ocap : Nat) (T : Int → Int) (f : Nat → Int) (Fin : List Int) (e : Ending) (w' : World) : Prop :=
  e = .returned (.tuple #[]) ∧ Sit w' h kb n la oa lcap ocap T f Fin ∧ Touch (fun b => b = kb) w w'
set_option maxRecDepth 40000 in
set_option maxHeartbeats 2000000 in
theorem by_any {w : World} {h kb n : Nat} {la oa : Option Addr} {lcap ocap : Nat} {T : Int → Int} {f : Nat → Int} {S : List Int} (s : Sit w h kb n la oa lcap ocap T f S) (hn : n ≤ 1000) (r : Nat) (hr : r ≤ 5) (hT : ∀ i : Nat, i < n → -1099511627776 ≤ T i ∧ T i ≤ 1099511627776) (m : Nat) (hm : m ≤ 1000) :
    Calls Try.prog 31 #[.pointer (some ⟨h, 0, none⟩), .int .i64 r, .int .i64 m] w (ByPost w h kb n la oa lcap ocap T f (by1 (r == 0) (fun x => DateMath.per r (T x)) none ((List.range n).map f) m S)) := by
  obtain ⟨Fin, hFin⟩ : ∃ F, by1 (r == 0) (fun x => DateMath.per r (T x)) none ((List.range n).map f) m S = F := ⟨_, rfl⟩
  rw [hFin]
  have c0 := s.c0
  have c1 := s.c1
  have hn1 := heap_alloc_new w (.cells (pairC (0, 0)) 69)
  have t1 : Touch (fun _ => False) w (w.alloc (.cells (pairC (0, 0)) 69)) := (Touch.refl _ _).alloc _
  have c1a := t1.cell c1 id
  have HS := Lib.hid (show ByRel w h kb n la oa lcap ocap T f r Fin (.int .i64 m) (.int .i64 0) (w.alloc (.cells (pairC (0, 0)) 69)) from
    ⟨0, m, Nat.zero_le _, rfl, rfl, hm, ⟨S, (0, 0), s.new t1, hFin, hn1, fun h => by omega⟩, t1.mono fun _ h => h.elim⟩)
  have HT := Lib.hid hT
  have HLT := Lib.hid (show kb < w.heap.size ∧ h < w.heap.size from ⟨s.lt, s.hl⟩)
  have HLO := Lib.hid (fun ad e => (s.ok ad e).2)
  have HLL := Lib.hid (fun ad hn e => (s.lk ad hn e).2)
  clear s hFin hT t1 hn1 c1 c0
  unfold pairC at c1a HS
  go_enter Try.func31, Try.ntmps31
  go_wp2
  go_loopw [2, 15] (fun z x wr => ByRel w h kb n la oa lcap ocap T f r Fin z x wr) (fun _ x _ => n - (intOf x).toNat)
  case atStart => exact HS.out
  case round =>
    clear HS c1a
    obtain ⟨i, m, hi, rfl, rfl, hm, ⟨S, p, s, hF, hwb, hp⟩, ht⟩ := hrel
    have HTT := Lib.hid ht
    have HF := Lib.hid hF
    have HP := Lib.hid hp
    have HS := Lib.hid s
    have c0 := s.c0
    have c2 := s.c2
    have hwl : w.heap.size < wr.heap.size := heap_lt hwb
    clear ht hF hp
    by_cases hlt : i < n
    · obtain ⟨ob, oo, rfl, co⟩ := s.ord i hlt
      have hrg := s.rng i hlt
      obtain ⟨j, hj⟩ : ∃ j : Nat, f i = j := ⟨(f i).toNat, by omega⟩
      rw [hj] at co hrg
      have HJ := Lib.hid hj
      clear hj
      have hjn : j < n := by omega
      by_cases hm0 : m = 0
      · subst hm0
        have hz : decide ((0 : Int) = 0) = true := rfl
        clear s c0 c2 hwb
        go_wp2
        refine bodyPost_end (results_none rfl _ _ _) rfl ⟨rfl, ?_, HTT.out⟩
        have := HF.out
        rw [by1_zero] at this
        rw [← this]; exact HS.out
      · have hmz : ((m : Int) == 0) = false := by simp; omega
        obtain ⟨lb, lo, rfl, ct⟩ := s.times j hjn
        have PER := period_any r hr (T j) wr (HT.out j hjn).1 (HT.out j hjn).2
        generalize hq : DateMath.per r (T j) = q at *
        have HQ := Lib.hid hq
        clear hq s
        generalize htj : T (j : Int) = tj at *
        have HTJ := Lib.hid htj
        clear htj
        have pj : (0 : Int) ≤ (j : Int) := by omega
        have bj : (j : Int) < (n : Int) := by omega
        go_wp2_with fail
        refine PER.mono ?_
        rintro e w2 ⟨rfl, hb2⟩
        have hp2 := heap_alloc_new w2 (.cells #[.int .i64 0, .int .i64 0] 69)
        obtain ⟨hp3, nb3⟩ := made_row w2 69 #[.int .i64 0, .int .i64 0] (pairC q)
        obtain ⟨W3, hW3⟩ : ∃ W, (w2.alloc (.cells #[.int .i64 0, .int .i64 0] 69)).setRow w2.heap.size (pairC q) = W := ⟨_, rfl⟩
        rw [hW3] at hp3 nb3
        have hb3 : Below wr.heap.size wr W3 := hb2.trans (nb3.mono hb2.size)
        have hwb3 := (hb3.block _ hwl).trans hwb
        have HS3 := Lib.hid (HS.out.new (Touch.of_below hb3))
        have HT3 := Lib.hid (HTT.out.trans (Touch.of_below hb3))
        have hiP : (Try.prog.info? 69).map (·.size) = some (pairC q).size := by kernel_rfl
        have hiP2 : (Try.prog.info? 69).map (·.size) = some (pairC p).size := by kernel_rfl
        have HB3 := Lib.hid hb3
        have hoP : (pairC q).all (·.oneCell') = true := by simp [pairC, Value.oneCell']
        have heq : ∀ w, (binOp .eql 69 (.agg (pairC q)) (.agg (pairC p))).run Try.prog w = .ok (.bool (decide (q.1 = p.1 ∧ q.2 = p.2))) w := run_eq_per q.1 q.2 p.1 p.2
        clear hb3 nb3 hb2 hwb c0 ct co c2 HTT
        have HQE := Lib.hid (show q = DateMath.per r (T (f (i + 1 - 1))) by rw [Nat.add_sub_cancel, HJ.out, HTJ.out]; exact HQ.out.symm)
        obtain ⟨W4, hW4⟩ : ∃ W, W3.setRow w.heap.size (pairC q) = W := ⟨_, rfl⟩
        have t4 : Touch (fun b => b = w.heap.size) W3 W4 := by rw [← hW4]; exact Touch.setRow _ _ _ rfl
        have HS4 := Lib.hid (HS3.out.apart t4 (by have := HLT.out; omega) (by have := HLT.out; omega) (fun ad e => by have := HLO.out ad e; omega) (fun ad hn e => by have := HLL.out ad hn e; omega))
        have HP4 := Lib.hid (show W4.heap[w.heap.size]? = some (.cells (pairC q) 69 (0, 0)) by rw [← hW4]; exact setRow_heap _ _ _ _ _ _ hwb3)
        have HT4 := Lib.hid (HT3.out.trans' t4 (fun k e => .inr (by omega)))
        have c24 := HS4.out.c2
        have ck4 := HS4.out.kp.cell j hjn
        have fk4 := HS4.out.kp.froz j hjn
        clear t4
        by_cases hr0 : r = 0
        · have hrz : ((r : Int) != 0) = false := by simp; omega
          have HFR := Lib.hid (show fresh (r == 0) (fun x => DateMath.per r (T x)) (prevOf f i) (f i) = true by rw [hr0]; unfold prevOf; split <;> rfl)
          clear hr0 heq
          cases hc : S.contains (j : Int)
          · rw [hc] at ck4
            have ck4 : W4.cell? ⟨kb, j, none⟩ = some (.int .i64 0) := ck4
            have NX := Lib.hid (show by1 (r == 0) (fun x => DateMath.per r (T x)) (prevOf f (i + 1)) (restOf f n (i + 1)) (m - 1) (S ++ [(j : Int)]) = Fin by
              rw [← HF.out, restOf_cons f hlt, by1_take hm0 HFR.out (by rw [HJ.out]; exact hc), prevOf_succ, HJ.out])
            have HS5 := Lib.hid (HS4.out.mark hjn)
            have HP5 := Lib.hid (show (W4.setCell ⟨kb, j, none⟩ (.int .i64 1)).heap[w.heap.size]? = some (.cells (pairC q) 69 (0, 0)) from ((Touch.set (F := fun b => b = kb) W4 kb j _ rfl).block _ (heap_lt HP4.out) (by have := HLT.out; omega)).trans HP4.out)
            have HT5 := Lib.hid (HT4.out.trans (Touch.set (F := fun b => b = kb) W4 kb j (.int .i64 1) rfl))
            have hm1 : ((m : Int) - 1) = ((m - 1 : Nat) : Int) := by omega
            go_wp2_with (first
              | (with_reducible refine at_load 69 ?_; first | (refine wpList_load_row_g rfl 69 _ rfl w2.heap.size rfl _ (pairC q) _ _ hp3 Try.underlying69 rfl hiP ?_) | (refine wpList_load_row_g rfl 69 _ rfl w.heap.size rfl _ (pairC p) _ _ hwb3 Try.underlying69 rfl hiP2 ?_))
              | (with_reducible refine at_store 69 ?_; first | (refine wpList_store_row rfl 69 _ _ rfl w2.heap.size (pairC q) rfl rfl _ _ hp2 hiP rfl hoP ?_; rw [hW3]) | (go_must (refine wpList_store_row rfl 69 _ _ rfl w.heap.size (pairC q) rfl rfl _ _ hwb3 hiP rfl hoP ?_); rw [hW4])))
            go_roundw
            case rel => exact ⟨i + 1, m - 1, by omega, by go_num, by rw [← hm1], by omega, ⟨_, q, HS5.out, NX.out, HP5.out, fun _ => HQE.out⟩, HT5.out⟩
            case measure => simp [intOf]; omega
          · rw [hc] at ck4
            have ck4 : W4.cell? ⟨kb, j, none⟩ = some (.int .i64 1) := ck4
            have NX := Lib.hid (show by1 (r == 0) (fun x => DateMath.per r (T x)) (prevOf f (i + 1)) (restOf f n (i + 1)) m S = Fin by
              rw [← HF.out, restOf_cons f hlt, by1_in hm0 (by rw [HJ.out]; exact hc), prevOf_succ])
            go_wp2_with (first
              | (with_reducible refine at_load 69 ?_; first | (refine wpList_load_row_g rfl 69 _ rfl w2.heap.size rfl _ (pairC q) _ _ hp3 Try.underlying69 rfl hiP ?_) | (refine wpList_load_row_g rfl 69 _ rfl w.heap.size rfl _ (pairC p) _ _ hwb3 Try.underlying69 rfl hiP2 ?_))
              | (with_reducible refine at_store 69 ?_; first | (refine wpList_store_row rfl 69 _ _ rfl w2.heap.size (pairC q) rfl rfl _ _ hp2 hiP rfl hoP ?_; rw [hW3]) | (go_must (refine wpList_store_row rfl 69 _ _ rfl w.heap.size (pairC q) rfl rfl _ _ hwb3 hiP rfl hoP ?_); rw [hW4])))
            go_roundw
            case rel => exact ⟨i + 1, m, by omega, by go_num, rfl, hm, ⟨_, q, HS4.out, NX.out, HP4.out, fun _ => HQE.out⟩, HT4.out⟩
            case measure => simp [intOf]; omega
        · have hrz : ((r : Int) != 0) = true := by simp; omega
          by_cases hi0 : i = 0
          · have hiz : ¬ (0 : Int) < (i : Int) := by omega
            have HFR := Lib.hid (show fresh (r == 0) (fun x => DateMath.per r (T x)) (prevOf f i) (f i) = true by rw [hi0]; rfl)
            clear hr0 hi0 heq
            cases hc : S.contains (j : Int)
            · rw [hc] at ck4
              have ck4 : W4.cell? ⟨kb, j, none⟩ = some (.int .i64 0) := ck4
              have NX := Lib.hid (show by1 (r == 0) (fun x => DateMath.per r (T x)) (prevOf f (i + 1)) (restOf f n (i + 1)) (m - 1) (S ++ [(j : Int)]) = Fin by
                rw [← HF.out, restOf_cons f hlt, by1_take hm0 HFR.out (by rw [HJ.out]; exact hc), prevOf_succ, HJ.out])
              have HS5 := Lib.hid (HS4.out.mark hjn)
              have HP5 := Lib.hid (show (W4.setCell ⟨kb, j, none⟩ (.int .i64 1)).heap[w.heap.size]? = some (.cells (pairC q) 69 (0, 0)) from ((Touch.set (F := fun b => b = kb) W4 kb j _ rfl).block _ (heap_lt HP4.out) (by have := HLT.out; omega)).trans HP4.out)
              have HT5 := Lib.hid (HT4.out.trans (Touch.set (F := fun b => b = kb) W4 kb j (.int .i64 1) rfl))
              have hm1 : ((m : Int) - 1) = ((m - 1 : Nat) : Int) := by omega
              go_wp2_with (first
                | (with_reducible refine at_load 69 ?_; first | (refine wpList_load_row_g rfl 69 _ rfl w2.heap.size rfl _ (pairC q) _ _ hp3 Try.underlying69 rfl hiP ?_) | (refine wpList_load_row_g rfl 69 _ rfl w.heap.size rfl _ (pairC p) _ _ hwb3 Try.underlying69 rfl hiP2 ?_))
                | (with_reducible refine at_store 69 ?_; first | (refine wpList_store_row rfl 69 _ _ rfl w2.heap.size (pairC q) rfl rfl _ _ hp2 hiP rfl hoP ?_; rw [hW3]) | (go_must (refine wpList_store_row rfl 69 _ _ rfl w.heap.size (pairC q) rfl rfl _ _ hwb3 hiP rfl hoP ?_); rw [hW4])))
              go_roundw
              case rel => exact ⟨i + 1, m - 1, by omega, by go_num, by rw [← hm1], by omega, ⟨_, q, HS5.out, NX.out, HP5.out, fun _ => HQE.out⟩, HT5.out⟩
              case measure => simp [intOf]; omega
            · rw [hc] at ck4
              have ck4 : W4.cell? ⟨kb, j, none⟩ = some (.int .i64 1) := ck4
              have NX := Lib.hid (show by1 (r == 0) (fun x => DateMath.per r (T x)) (prevOf f (i + 1)) (restOf f n (i + 1)) m S = Fin by
                rw [← HF.out, restOf_cons f hlt, by1_in hm0 (by rw [HJ.out]; exact hc), prevOf_succ])
              go_wp2_with (first
                | (with_reducible refine at_load 69 ?_; first | (refine wpList_load_row_g rfl 69 _ rfl w2.heap.size rfl _ (pairC q) _ _ hp3 Try.underlying69 rfl hiP ?_) | (refine wpList_load_row_g rfl 69 _ rfl w.heap.size rfl _ (pairC p) _ _ hwb3 Try.underlying69 rfl hiP2 ?_))
                | (with_reducible refine at_store 69 ?_; first | (refine wpList_store_row rfl 69 _ _ rfl w2.heap.size (pairC q) rfl rfl _ _ hp2 hiP rfl hoP ?_; rw [hW3]) | (go_must (refine wpList_store_row rfl 69 _ _ rfl w.heap.size (pairC q) rfl rfl _ _ hwb3 hiP rfl hoP ?_); rw [hW4])))
              go_roundw
              case rel => exact ⟨i + 1, m, by omega, by go_num, rfl, hm, ⟨_, q, HS4.out, NX.out, HP4.out, fun _ => HQE.out⟩, HT4.out⟩
              case measure => simp [intOf]; omega
          · have hiz : decide (0 < i) = true := decide_eq_true (by omega)
            have hin : 0 < i := by omega
            have HFE := Lib.hid (show fresh (r == 0) (fun x => DateMath.per r (T x)) (prevOf f i) (f i) = decide (q ≠ p) by
              unfold prevOf
              rw [if_neg hi0, HJ.out]
              have hp := HP.out (by omega)
              have hq := HQE.out
              rw [Nat.add_sub_cancel, HJ.out] at hq
              rw [hp, hq]
              simp only [fresh]
              rw [show (r == 0) = false by simp; omega]; rfl)
            clear hr0 hi0
            by_cases hqp : q.1 = p.1 ∧ q.2 = p.2
            · have hqd : decide (q.1 = p.1 ∧ q.2 = p.2) = true := decide_eq_true hqp
              have HFR := Lib.hid (show fresh (r == 0) (fun x => DateMath.per r (T x)) (prevOf f i) (f i) = false by
                rw [HFE.out]
                exact decide_eq_false fun h => h (Prod.ext hqp.1 hqp.2))
              have HPE := Lib.hid (show p = q from (Prod.ext hqp.1 hqp.2).symm)
              have NX := Lib.hid (show by1 (r == 0) (fun x => DateMath.per r (T x)) (prevOf f (i + 1)) (restOf f n (i + 1)) m S = Fin by
                rw [← HF.out, restOf_cons f hlt, by1_stale hm0 HFR.out, prevOf_succ])
              have HW3 := Lib.hid hwb3
              rw [hqd] at heq
              clear hqp
              go_wp2_with (first
                | (with_reducible refine at_load 69 ?_; first | (refine wpList_load_row_g rfl 69 _ rfl w2.heap.size rfl _ (pairC q) _ _ hp3 Try.underlying69 rfl hiP ?_) | (refine wpList_load_row_g rfl 69 _ rfl w.heap.size rfl _ (pairC p) _ _ hwb3 Try.underlying69 rfl hiP2 ?_))
                | (with_reducible refine at_store 69 ?_; first | (refine wpList_store_row rfl 69 _ _ rfl w2.heap.size (pairC q) rfl rfl _ _ hp2 hiP rfl hoP ?_; rw [hW3]) | (go_must (refine wpList_store_row rfl 69 _ _ rfl w.heap.size (pairC q) rfl rfl _ _ hwb3 hiP rfl hoP ?_); rw [hW4])))
              go_roundw
              case rel => exact ⟨i + 1, m, by omega, by go_num, rfl, hm, ⟨S, p, HS3.out, NX.out, HW3.out, fun _ => HPE.out.trans HQE.out⟩, HT3.out⟩
              case measure => simp [intOf]; omega
            · have hqd : decide (q.1 = p.1 ∧ q.2 = p.2) = false := decide_eq_false hqp
              have HFR := Lib.hid (show fresh (r == 0) (fun x => DateMath.per r (T x)) (prevOf f i) (f i) = true by
                rw [HFE.out]
                exact decide_eq_true fun h => hqp (by rw [h]; exact ⟨rfl, rfl⟩))
              rw [hqd] at heq
              clear hqp
              cases hc : S.contains (j : Int)
              · rw [hc] at ck4
                have ck4 : W4.cell? ⟨kb, j, none⟩ = some (.int .i64 0) := ck4
                have NX := Lib.hid (show by1 (r == 0) (fun x => DateMath.per r (T x)) (prevOf f (i + 1)) (restOf f n (i + 1)) (m - 1) (S ++ [(j : Int)]) = Fin by
                  rw [← HF.out, restOf_cons f hlt, by1_take hm0 HFR.out (by rw [HJ.out]; exact hc), prevOf_succ, HJ.out])
                have HS5 := Lib.hid (HS4.out.mark hjn)
                have HP5 := Lib.hid (show (W4.setCell ⟨kb, j, none⟩ (.int .i64 1)).heap[w.heap.size]? = some (.cells (pairC q) 69 (0, 0)) from ((Touch.set (F := fun b => b = kb) W4 kb j _ rfl).block _ (heap_lt HP4.out) (by have := HLT.out; omega)).trans HP4.out)
                have HT5 := Lib.hid (HT4.out.trans (Touch.set (F := fun b => b = kb) W4 kb j (.int .i64 1) rfl))
                have hm1 : ((m : Int) - 1) = ((m - 1 : Nat) : Int) := by omega
                go_wp2_with (first
                  | (with_reducible refine at_load 69 ?_; first | (refine wpList_load_row_g rfl 69 _ rfl w2.heap.size rfl _ (pairC q) _ _ hp3 Try.underlying69 rfl hiP ?_) | (refine wpList_load_row_g rfl 69 _ rfl w.heap.size rfl _ (pairC p) _ _ hwb3 Try.underlying69 rfl hiP2 ?_))
                  | (with_reducible refine at_store 69 ?_; first | (refine wpList_store_row rfl 69 _ _ rfl w2.heap.size (pairC q) rfl rfl _ _ hp2 hiP rfl hoP ?_; rw [hW3]) | (go_must (refine wpList_store_row rfl 69 _ _ rfl w.heap.size (pairC q) rfl rfl _ _ hwb3 hiP rfl hoP ?_); rw [hW4])))
                go_roundw
                case rel => exact ⟨i + 1, m - 1, by omega, by go_num, by rw [← hm1], by omega, ⟨_, q, HS5.out, NX.out, HP5.out, fun _ => HQE.out⟩, HT5.out⟩
                case measure => simp [intOf]; omega
              · rw [hc] at ck4
                have ck4 : W4.cell? ⟨kb, j, none⟩ = some (.int .i64 1) := ck4
                have NX := Lib.hid (show by1 (r == 0) (fun x => DateMath.per r (T x)) (prevOf f (i + 1)) (restOf f n (i + 1)) m S = Fin by
                  rw [← HF.out, restOf_cons f hlt, by1_in hm0 (by rw [HJ.out]; exact hc), prevOf_succ])
                go_wp2_with (first
                  | (with_reducible refine at_load 69 ?_; first | (refine wpList_load_row_g rfl 69 _ rfl w2.heap.size rfl _ (pairC q) _ _ hp3 Try.underlying69 rfl hiP ?_) | (refine wpList_load_row_g rfl 69 _ rfl w.heap.size rfl _ (pairC p) _ _ hwb3 Try.underlying69 rfl hiP2 ?_))
                  | (with_reducible refine at_store 69 ?_; first | (refine wpList_store_row rfl 69 _ _ rfl w2.heap.size (pairC q) rfl rfl _ _ hp2 hiP rfl hoP ?_; rw [hW3]) | (go_must (refine wpList_store_row rfl 69 _ _ rfl w.heap.size (pairC q) rfl rfl _ _ hwb3 hiP rfl hoP ?_); rw [hW4])))
                go_roundw
                case rel => exact ⟨i + 1, m, by omega, by go_num, rfl, hm, ⟨_, q, HS4.out, NX.out, HP4.out, fun _ => HQE.out⟩, HT4.out⟩
                case measure => simp [intOf]; omega
    · obtain rfl : i = n := by omega
      have := HF.out
      rw [restOf_end] at this
      have HE := Lib.hid (show S = Fin from this)
      clear this s c0 c2 hwb
      go_wp2
      exact bodyPost_end (results_none rfl _ _ _) rfl ⟨rfl, by rw [← HE.out]; exact HS.out, HTT.out⟩
end Go.Proofs.Ytogoiikgiohlhaa
