/- The order of archives, and whether a place is among others, in the document's own answer. -/
import Derived.Test.YtogoiikgiohlhaaKept
namespace Go.Proofs.Ytogoiikgiohlhaa
open Go Go.RowKit Ch Sm

theorem hold {p : Prop} (h : True → p) : p := h trivial
abbrev OwnI (w : World) (B : Nat) (v : Value) (L : List Int) : Prop := w.ownsRow B 3 1 v L.length (L.map fun x => Value.int .i64 x)
theorem own_snoc {W : World} {B : Nat} {v : Value} {L : List Int} {z : Int} (ho : W.ownsRow B 3 1 v (L.length + 1) ((L.map fun x => Value.int .i64 x) ++ [.int .i64 z])) : OwnI W B v (L ++ [z]) := by simpa [OwnI] using ho
theorem own_base {W : World} {B k : Nat} {v : Value} {L : List Int} (h : OwnI W B v L) (e : v.ownBlock = some k) : B ≤ k := by
  rcases h.2 with ⟨h0, _⟩ | ⟨g, cp, cur, hv, hB, _⟩
  · rw [h0] at e; cases e
  · rw [hv] at e; simp only [Value.ownBlock, Option.some.injEq] at e; omega
theorem grown_below {w0 W W' : World} {B : Nat} {v : Value} {L : List Int} (hb : Below B w0 W) (hB : B ≤ w0.heap.size) (o : Obj) (own : OwnI (W.alloc o) B v L) (hg : (W.alloc o).grownBy W' v.ownBlock) : Below B w0 W' :=
  hb.trans (((Below.refl B W).alloc (Nat.le_trans hB hb.size) o).grown hg (by have := hb.size; simp; omega) fun kk e => own_base own e)
theorem own_nil (W : World) (B : Nat) : OwnI W B (.slice none 0 0) [] := ⟨by simp, .inl ⟨rfl, rfl⟩⟩
def InRel (L : List Int) (z : Int) (w : World) (x : Value) (wr : World) : Prop := ∃ i : Nat, i ≤ L.length ∧ x = .int .i64 i ∧ (∀ j (h : j < L.length), j < i → L[j] ≠ z) ∧ Hid (w = wr)
theorem refIn_any {B : Nat} {v : Value} {L : List Int} (w : World) (ho : OwnI w B v L) (hl : L.length ≤ 100000) (z : Int) :
    Calls Try.prog 33 #[v, .int .i64 z] w fun e w' => e = .returned (.bool (L.contains z)) ∧ w = w' := by
  obtain ⟨c, hc⟩ : ∃ c, L.contains z = c := ⟨_, rfl⟩
  have HC := Lib.hid hc
  rw [hc]
  obtain ⟨av, cv, rfl⟩ := own_slice ho
  have HO := Lib.hid ho
  obtain ⟨n, hn⟩ : ∃ n, L.length = n := ⟨_, rfl⟩
  have HN := Lib.hid hn
  rw [hn] at hl ⊢
  clear hc ho hn
  go_enter Try.func33, Try.ntmps33
  go_wp2
  go_loopw [5] (fun x wr => InRel L z w x wr) (fun x _ => n - (intOf x).toNat)
  case atStart => exact ⟨0, Nat.zero_le _, rfl, fun j _ h => by omega, rfl⟩
  case round =>
    obtain ⟨i, hi, rfl, hno, hw⟩ := hrel
    have HNO := Lib.hid hno
    rw [HN.out] at hi
    clear hno
    by_cases hlt : i < n
    · have hiL : i < L.length := by rw [HN.out]; exact hlt
      obtain ⟨g, cp, e, _, _, hc⟩ := own_cell HO.out hiL
      injection e with e1 e2 e3
      subst e1 e3
      have hc : wr.cell? ⟨g, i, none⟩ = some (.int .i64 L[i]) := by rw [← hw.out]; exact hc
      obtain ⟨x, hx⟩ : ∃ x, L[i] = x := ⟨_, rfl⟩
      rw [hx] at hc
      have HX := Lib.hid hx
      have pi : (0 : Int) ≤ (i : Int) := by omega
      have bi : (i : Int) < (n : Int) := by omega
      clear hx e2
      by_cases hz : x = z
      · have f : (x == z) = true := by simpa using hz
        have HT := Lib.hid (show c = true by rw [← HC.out, List.contains_iff_mem, ← hz, ← HX.out]; exact List.getElem_mem hiL)
        go_wp2
        go_ret
        exact ⟨by rw [HT.out]; rfl, hw.out⟩
      · have f : (x == z) = false := by simpa using hz
        go_wp2
        go_roundw
        case rel =>
          refine ⟨i + 1, by rw [HN.out]; omega, by go_num, fun j hj h => ?_, hw⟩
          by_cases e : j = i
          · subst e; rw [HX.out]; exact hz
          · exact HNO.out j hj (by omega)
        case measure => simp [intOf]; omega
    · have HT := Lib.hid (show c = false by
        rw [← HC.out]
        refine Bool.eq_false_iff.2 fun h => ?_
        rw [List.contains_iff_mem] at h
        obtain ⟨j, hj, e⟩ := List.getElem_of_mem h
        exact HNO.out j hj (by rw [HN.out] at hj; omega) e)
      go_wp2
      go_ret
      exact ⟨by rw [HT.out]; rfl, hw.out⟩
/-! Insertion, as it goes through the row. -/
def step1 (K : Int → Int) (x : Int) (r : List Int × Bool) (y : Int) : List Int × Bool := if !r.2 && decide (K y ≤ K x) then (r.1 ++ [x] ++ [y], true) else (r.1 ++ [y], r.2)
def insF (K : Int → Int) (x : Int) (l : List Int) (k : Nat) : List Int × Bool := (l.take k).foldl (step1 K x) ([], false)
theorem step_done (K : Int → Int) (x : Int) (l nx : List Int) : l.foldl (step1 K x) (nx, true) = (nx ++ l, true) := by
  induction l generalizing nx with
  | nil => simp
  | cons y l ih => simp [step1, ih]
theorem step_ins (K : Int → Int) (x : Int) (l nx : List Int) : (if (l.foldl (step1 K x) (nx, false)).2 then (l.foldl (step1 K x) (nx, false)).1 else (l.foldl (step1 K x) (nx, false)).1 ++ [x]) = nx ++ ins K x l := by
  induction l generalizing nx with
  | nil => simp [ins]
  | cons y l ih =>
    rw [List.foldl_cons]
    unfold ins
    by_cases h : K y ≤ K x
    · rw [if_pos h, show step1 K x (nx, false) y = (nx ++ [x] ++ [y], true) by simp [step1, h], step_done]
      simp
    · rw [if_neg h, show step1 K x (nx, false) y = (nx ++ [y], false) by simp [step1, h], ih]
      simp
theorem insF_succ (K : Int → Int) (x : Int) {l : List Int} {k : Nat} (h : k < l.length) : insF K x l (k + 1) = step1 K x (insF K x l k) l[k] := by
  unfold insF
  rw [List.take_succ_eq_append_getElem h, List.foldl_append]; rfl
theorem insF_end (K : Int → Int) (x : Int) (l : List Int) : (if (insF K x l l.length).2 then (insF K x l l.length).1 else (insF K x l l.length).1 ++ [x]) = ins K x l := by
  unfold insF
  rw [List.take_length, step_ins]; rfl
theorem insF_len (K : Int → Int) (x : Int) (l : List Int) (k : Nat) : (insF K x l k).1.length ≤ k + 1 := by
  have core : ∀ (m : List Int) (r : List Int × Bool), (m.foldl (step1 K x) r).1.length ≤ r.1.length + m.length + (if r.2 then 0 else 1) := by
    intro m
    induction m with
    | nil => intro r; simp
    | cons y m ih =>
      intro r
      rw [List.foldl_cons]
      refine Nat.le_trans (ih _) ?_
      unfold step1
      cases hr : r.2
      · by_cases h : K y ≤ K x
        · simp [h]; omega
        · simp [h]; omega
      · simp; omega
  have := core (l.take k) ([], false)
  simp at this
  unfold insF
  have h2 : (List.take k l).length ≤ k := by rw [List.length_take]; omega
  simp at h2
  omega
def InnRel (w2 : World) (T : Int → Int) (i : Nat) (l : List Int) (nx d kk : Value) (wr : World) : Prop :=
  ∃ k : Nat, k ≤ l.length ∧ kk = .int .i64 k ∧ d = .bool (insF T i l k).2 ∧ OwnI wr w2.heap.size nx (insF T i l k).1 ∧ Below w2.heap.size w2 wr
def OrdRel (w : World) (T : Int → Int) (n : Nat) (x y : Value) (wr : World) : Prop :=
  ∃ i : Nat, i ≤ n ∧ y = .int .i64 i ∧ OwnI wr w.heap.size x (order T i) ∧ Below w.heap.size w wr
def OrderPost (w : World) (T : Int → Int) (n : Nat) (e : Ending) (w' : World) : Prop :=
  ∃ v, e = .returned v ∧ OwnI w' w.heap.size v (order T n) ∧ Below w.heap.size w w'
set_option maxRecDepth 40000 in
set_option maxHeartbeats 2000000 in
theorem refOrder_any (a : Option Addr) (cap n : Nat) {R : Nat → List Value} {T : Int → Int} (w : World) (hr : Abs w a cap n R T) (hn : n ≤ 40) :
    Calls Try.prog 32 #[.slice a n cap] w (OrderPost w T n) := by
  have hfit := hr.fits
  have hroom := hr.room
  have HR := Lib.hid hr
  clear hr
  go_enter Try.func32, Try.ntmps32
  go_wp2
  go_loopw [3, 4] (fun x y wr => OrdRel w T n x y wr) (fun _ y _ => n - (intOf y).toNat)
  case atStart => exact ⟨0, Nat.zero_le _, rfl, own_nil w _, Below.refl _ _⟩
  case round =>
    obtain ⟨v, rfl⟩ : ∃ v, v = u3 := ⟨_, rfl⟩
    obtain ⟨i, hi, rfl, ho, hb⟩ := hrel
    have HO := Lib.hid ho
    have HB := Lib.hid hb
    have hol := length_order (K := T) i
    obtain ⟨av, cv, rfl⟩ := own_slice ho
    have HOL := Lib.hid hol
    rw [hol]
    clear ho hb hol
    by_cases hlt : i < n
    · obtain ⟨w2, rfl⟩ : ∃ w2 : World, w2 = wr := ⟨_, rfl⟩
      have hsz2 := HB.out.size
      go_wp2
      go_loopw [5, 6, 7] (fun nx d kk wr => InnRel w2 T i (order T i) nx d kk wr) (fun _ _ kk _ => i - (intOf kk).toNat)
      case atStart => exact ⟨0, Nat.zero_le _, rfl, rfl, own_nil w2 _, Below.refl _ _⟩
      case round =>
        obtain ⟨nx, rfl⟩ : ∃ v, v = u5 := ⟨_, rfl⟩
        obtain ⟨k, hk, rfl, rfl, ho, hb⟩ := hrel
        have HO2 := Lib.hid ho
        have HB2 := Lib.hid hb
        rw [HOL.out] at hk
        clear ho hb
        have hlen := insF_len T i (order T i) k
        obtain ⟨⟨nl, d⟩, hst⟩ : ∃ r, insF T i (order T i) k = r := ⟨_, rfl⟩
        rw [hst] at HO2 hlen
        simp only [hst]
        simp only at hlen HO2
        have HST := Lib.hid hst
        clear hst
        by_cases hlk : k < i
        · have hkL : k < (order T i).length := by rw [HOL.out]; exact hlk
          obtain ⟨g, cp, e, _, hgl, hc⟩ := own_cell HO.out hkL
          have e2 := e
          injection e2 with e1 e2 e3
          subst e1 e3
          have hc0 := hc
          have hc := (HB2.out.cell (p := ⟨g, k, none⟩) hgl).trans hc
          have hmem := mem_order.1 (List.getElem_mem hkL)
          obtain ⟨y, hy⟩ : ∃ y : Nat, (order T i)[k] = y := ⟨((order T i)[k]).toNat, by omega⟩
          have HSS := Lib.hid (insF_succ T i hkL)
          rw [hy] at hc hc0 hmem
          have HGC := Lib.hid hc0
          clear hc0
          have HY := Lib.hid hy
          have ABr := HR.out.below (HB.out.trans (HB2.out.mono hsz2))
          obtain ⟨lb, lo, rfl, hty⟩ := ABr.times y (by omega)
          obtain ⟨_, _, e, hti⟩ := ABr.times i hlt
          injection e with e
          injection e with e1 e2' _
          subst e1 e2'
          obtain ⟨ti, htiE⟩ : ∃ t, T (i : Int) = t := ⟨_, rfl⟩
          obtain ⟨ty, htyE⟩ : ∃ t, T (y : Int) = t := ⟨_, rfl⟩
          rw [htiE] at hti
          rw [htyE] at hty
          have HTI := Lib.hid htiE
          have HTY := Lib.hid htyE
          have pk : (0 : Int) ≤ (k : Int) := by omega
          have bk : (k : Int) < (i : Int) := by omega
          have pi : (0 : Int) ≤ (i : Int) := by omega
          have bi : (i : Int) < (n : Int) := by omega
          have py : (0 : Int) ≤ (y : Int) := by omega
          have by' : (y : Int) < (n : Int) := by omega
          clear htiE htyE ABr hy e hmem e2
          cases d
          · by_cases hty2 : ty ≤ ti
            · have HNX := Lib.hid (show insF T i (order T i) (k + 1) = (nl ++ [(i : Int)] ++ [(y : Int)], true) by rw [HSS.out, HST.out, HY.out]; unfold step1; rw [HTI.out, HTY.out]; simp [hty2])
              go_wp2_with fail
              go_quiet (fail)
              have HB3 := Lib.hid (HB2.out.trans ((Touch.refl (fun _ => False) wr).drewN nq |>.below (B := w2.heap.size) (fun _ h => h.elim) HB2.out.size))
              have HO3 := Lib.hid (show OwnI (wr.drewN nq) w2.heap.size nx nl from HO2.out)
              have hc3 : (wr.drewN nq).cell? ⟨g, k, none⟩ = some (.int .i64 (y : Int)) := hc
              generalize wr.drewN nq = w3 at *
              clear hty hti hc
              obtain ⟨av5, cv5, rfl⟩ : ∃ av cv, nx = .slice av nl.length cv := own_slice HO3.out
              have HA5 := Lib.hid (HO3.out.alloc (.cells #[.int .i64 (i : Int)] 3))
              have g5 : (w3.alloc (.cells #[.int .i64 (i : Int)] 3)).cell? ⟨w3.heap.size, 0, none⟩ = some (.int .i64 (i : Int)) := by simp only [World.cell?, heap_alloc_new]; rfl
              have hs5 := HB3.out.size
              go_wp2_with (at_builtin; go_must (refine wpList_append_elem ints_elem rfl _ _ rfl w2.heap.size (.slice av5 nl.length cv5) nl.length (nl.map fun x => Value.int .i64 x) rfl HA5.out ⟨w3.heap.size, 0, none⟩ 1 (.int .i64 (i : Int)) rfl g5 rfl (by omega) (by omega) (by simp; omega) ?_); intro v5 W5 ho5 hg5 _; refine hold ?roundEnd)
              refine fun _ => ?nx1
              have HO5 := Lib.hid (own_snoc ho5)
              have HB5 := Lib.hid (grown_below HB3.out (by first | exact Nat.le_refl _ | omega) _ HA5.out hg5)
              clear ho5 hg5 g5 hs5
              have hc5 : W5.cell? ⟨g, k, none⟩ = some (.int .i64 (y : Int)) := (HB5.out.cell (p := ⟨g, k, none⟩) hgl).trans (HGC.out)
              have hl5 : (nl ++ [(i : Int)]).length ≤ k + 2 := by simp; omega
              obtain ⟨nl2, hnl2⟩ : ∃ l, nl ++ [(i : Int)] = l := ⟨_, rfl⟩
              rw [hnl2] at hl5 HO5 HNX
              clear hnl2 hc3
              obtain ⟨av6, cv6, rfl⟩ : ∃ av cv, v5 = .slice av nl2.length cv := own_slice HO5.out
              have HA6 := Lib.hid (HO5.out.alloc (.cells #[.int .i64 (y : Int)] 3))
              have g6 : (W5.alloc (.cells #[.int .i64 (y : Int)] 3)).cell? ⟨W5.heap.size, 0, none⟩ = some (.int .i64 (y : Int)) := by simp only [World.cell?, heap_alloc_new]; rfl
              have hs6 := HB5.out.size
              go_wp2_with (at_builtin; go_must (refine wpList_append_elem ints_elem rfl _ _ rfl w2.heap.size (.slice av6 nl2.length cv6) nl2.length (nl2.map fun x => Value.int .i64 x) rfl HA6.out ⟨W5.heap.size, 0, none⟩ 1 (.int .i64 (y : Int)) rfl g6 rfl (by omega) (by omega) (by simp; omega) ?_); intro v6 W6 ho6 hg6 _)
              have HO6 := Lib.hid (own_snoc ho6)
              have HB6 := Lib.hid (grown_below HB5.out (by first | exact Nat.le_refl _ | omega) _ HA6.out hg6)
              clear ho6 hg6 g6 hs6
              go_wp2
              go_roundw
              case rel => exact ⟨k + 1, by rw [HOL.out]; omega, by go_num, by rw [HNX.out], by rw [HNX.out]; exact HO6.out, HB6.out⟩
              case measure => simp [intOf]; omega
            · have HNX := Lib.hid (show insF T i (order T i) (k + 1) = (nl ++ [(y : Int)], false) by rw [HSS.out, HST.out, HY.out]; unfold step1; rw [HTI.out, HTY.out]; simp [hty2])
              go_wp2_with fail
              go_quiet (fail)
              have HB3 := Lib.hid (HB2.out.trans ((Touch.refl (fun _ => False) wr).drewN nq |>.below (B := w2.heap.size) (fun _ h => h.elim) HB2.out.size))
              have HO3 := Lib.hid (show OwnI (wr.drewN nq) w2.heap.size nx nl from HO2.out)
              have hc3 : (wr.drewN nq).cell? ⟨g, k, none⟩ = some (.int .i64 (y : Int)) := hc
              generalize wr.drewN nq = w3 at *
              clear hty hti hc
              obtain ⟨av5, cv5, rfl⟩ : ∃ av cv, nx = .slice av nl.length cv := own_slice HO3.out
              have HA5 := Lib.hid (HO3.out.alloc (.cells #[.int .i64 (y : Int)] 3))
              have g5 : (w3.alloc (.cells #[.int .i64 (y : Int)] 3)).cell? ⟨w3.heap.size, 0, none⟩ = some (.int .i64 (y : Int)) := by simp only [World.cell?, heap_alloc_new]; rfl
              have hs5 := HB3.out.size
              go_wp2_with (at_builtin; go_must (refine wpList_append_elem ints_elem rfl _ _ rfl w2.heap.size (.slice av5 nl.length cv5) nl.length (nl.map fun x => Value.int .i64 x) rfl HA5.out ⟨w3.heap.size, 0, none⟩ 1 (.int .i64 (y : Int)) rfl g5 rfl (by omega) (by omega) (by simp; omega) ?_); intro v5 W5 ho5 hg5 _)
              have HO5 := Lib.hid (own_snoc ho5)
              have HB5 := Lib.hid (grown_below HB3.out (by first | exact Nat.le_refl _ | omega) _ HA5.out hg5)
              clear ho5 hg5 g5 hs5
              go_wp2
              go_roundw
              case rel => exact ⟨k + 1, by rw [HOL.out]; omega, by go_num, by rw [HNX.out], by rw [HNX.out]; exact HO5.out, HB5.out⟩
              case measure => simp [intOf]; omega
          · have HNX := Lib.hid (show insF T i (order T i) (k + 1) = (nl ++ [(y : Int)], true) by rw [HSS.out, HST.out, HY.out]; unfold step1; simp)
            go_wp2_with fail
            go_quiet (fail)
            have HB3 := Lib.hid (HB2.out.trans ((Touch.refl (fun _ => False) wr).drewN nq |>.below (B := w2.heap.size) (fun _ h => h.elim) HB2.out.size))
            have HO3 := Lib.hid (show OwnI (wr.drewN nq) w2.heap.size nx nl from HO2.out)
            have hc3 : (wr.drewN nq).cell? ⟨g, k, none⟩ = some (.int .i64 (y : Int)) := hc
            generalize wr.drewN nq = w3 at *
            clear hty hti hc
            obtain ⟨av5, cv5, rfl⟩ : ∃ av cv, nx = .slice av nl.length cv := own_slice HO3.out
            have HA5 := Lib.hid (HO3.out.alloc (.cells #[.int .i64 (y : Int)] 3))
            have g5 : (w3.alloc (.cells #[.int .i64 (y : Int)] 3)).cell? ⟨w3.heap.size, 0, none⟩ = some (.int .i64 (y : Int)) := by simp only [World.cell?, heap_alloc_new]; rfl
            have hs5 := HB3.out.size
            go_wp2_with (at_builtin; go_must (refine wpList_append_elem ints_elem rfl _ _ rfl w2.heap.size (.slice av5 nl.length cv5) nl.length (nl.map fun x => Value.int .i64 x) rfl HA5.out ⟨w3.heap.size, 0, none⟩ 1 (.int .i64 (y : Int)) rfl g5 rfl (by omega) (by omega) (by simp; omega) ?_); intro v5 W5 ho5 hg5 _)
            have HO5 := Lib.hid (own_snoc ho5)
            have HB5 := Lib.hid (grown_below HB3.out (by first | exact Nat.le_refl _ | omega) _ HA5.out hg5)
            clear ho5 hg5 g5 hs5
            go_wp2
            go_roundw
            case rel => exact ⟨k + 1, by rw [HOL.out]; omega, by go_num, by rw [HNX.out], by rw [HNX.out]; exact HO5.out, HB5.out⟩
            case measure => simp [intOf]; omega
        · have hke : k = i := by omega
          have HE := Lib.hid (insF_end T i (order T i))
          have HE2 := Lib.hid (show (if d then nl else nl ++ [(i : Int)]) = order T (i + 1) by
            have := HE.out
            have h2 := HST.out
            rw [hke] at h2
            rw [HOL.out, h2] at this
            exact this)
          clear hke
          cases d
          · have HE3 := Lib.hid (show nl ++ [(i : Int)] = order T (i + 1) from HE2.out)
            obtain ⟨av5, cv5, rfl⟩ : ∃ av cv, nx = .slice av nl.length cv := own_slice HO2.out
            have HA5 := Lib.hid (HO2.out.alloc (.cells #[.int .i64 (i : Int)] 3))
            have g5 : (wr.alloc (.cells #[.int .i64 (i : Int)] 3)).cell? ⟨wr.heap.size, 0, none⟩ = some (.int .i64 (i : Int)) := by simp only [World.cell?, heap_alloc_new]; rfl
            have hs5 := HB2.out.size
            go_wp2_with (at_builtin; go_must (refine wpList_append_elem ints_elem rfl _ _ rfl w2.heap.size (.slice av5 nl.length cv5) nl.length (nl.map fun x => Value.int .i64 x) rfl HA5.out ⟨wr.heap.size, 0, none⟩ 1 (.int .i64 (i : Int)) rfl g5 rfl (by omega) (by omega) (by simp; omega) ?_); intro v5 W5 ho5 hg5 _)
            have HO5 := Lib.hid (own_snoc ho5)
            have HB5 := Lib.hid (grown_below HB2.out (by first | exact Nat.le_refl _ | omega) _ HA5.out hg5)
            clear ho5 hg5 g5 hs5
            obtain ⟨av9, cv9, rfl⟩ := own_slice HO5.out
            go_wp2
            go_roundw
            case rel => exact ⟨i + 1, by omega, by go_num, by rw [← HE3.out]; exact row_mono HO5.out fun kk e => Nat.le_trans hsz2 (own_base HO5.out e), HB.out.trans (HB5.out.mono hsz2)⟩
            case measure => simp [intOf]; omega
          · have HE3 := Lib.hid (show nl = order T (i + 1) from HE2.out)
            obtain ⟨av9, cv9, rfl⟩ := own_slice HO2.out
            go_wp2
            go_roundw
            case rel => exact ⟨i + 1, by omega, by go_num, by rw [← HE3.out]; exact row_mono HO2.out fun kk e => Nat.le_trans hsz2 (own_base HO2.out e), HB.out.trans (HB2.out.mono hsz2)⟩
            case measure => simp [intOf]; omega
    · have hin : i = n := by omega
      have HO3 := Lib.hid (show OwnI wr w.heap.size (.slice av i cv) (order T n) by rw [← hin]; have := HO.out; unfold OwnI at this ⊢; rw [HOL.out] at this ⊢; exact this)
      clear hin
      go_wp2
      go_ret
      exact ⟨_, rfl, HO3.out, HB.out⟩
end Go.Proofs.Ytogoiikgiohlhaa
