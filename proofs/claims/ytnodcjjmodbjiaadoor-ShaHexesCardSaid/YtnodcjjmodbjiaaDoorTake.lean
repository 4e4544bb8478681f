/- One block taken: the program's. -/
import Derived.Test.YtnodcjjmodbjiaaDoorSched
namespace Go.Proofs.YtnodcjjmodbjiaaDoor
open Go Go.RowKit

/-- The rounds' words, in the program's variable. -/
def KTab (w : World) : Prop := ∀ i, i < 64 → w.cell? ⟨0, i, none⟩ = some (U32 (wordAt Sha.K i))
theorem KTab.keeps {w w' : World} (h : KTab w) (k : Keeps w w') : KTab w' := fun i hi => k _ _ (h i hi)
theorem zero_state : ∃ z : Words, (∀ w, Sem.run Tryd.prog (zeroValue 44) w = .ok (.agg (arr z)) w) ∧ z.length = 8 := ⟨List.replicate 8 0#32, fun w => by kernel_rfl, by simp⟩
theorem right_quiet (x : BitVec 32) (N : Int) (h1 : 1 ≤ N) (h2 : N ≤ 31) (w : World) (j : Nat) : Calls Tryd.prog 41 #[U32 x, .int .i64 N] (w.drewN j) fun e w'' => e = .returned (U32 (Sha.rotr x N.toNat)) ∧ ∃ m, w'' = w.drewN m := by
  obtain ⟨n, rfl⟩ : ∃ n : Nat, N = n := ⟨N.toNat, by omega⟩
  exact (right_any x n (by omega) (by omega) _).mono fun _ _ ⟨m, he, hw⟩ => ⟨he, j + m, by rw [hw, World.drewN_drewN]⟩
theorem at_list {P : Program} {ops : Array Oper} {Q : Exit → Act → World → Prop} {l : List Oper} {a : Act} {w : World} (h : wpList P ops Q l a w) : wpList P ops Q l a w := h
/-- An array literal, what it comes to said by the caller. -/
theorem wpList_built {P : Program} {ops : Array Oper} {rest : List Oper} {o : Oper} {a : Act} {w : World} {Q : Exit → Act → World → Prop} (hg : o.guard = none) (t : TypeId) (parts : Array (Nat × Operand)) (ho : o.op = .build t parts)
    (cells : Array Value) (hf : P.built t (parts.map fun (i, x) => (i, a.eval x)).toList = some cells)
    (h : wpList P ops Q rest (a.put o.dst (.agg cells)) w) : wpList P ops Q (o :: rest) a w := by
  refine wpList_build hg t parts ho (by rw [hf]; rfl) ?_
  rw [hf]
  exact h
theorem stop_build {P : Program} {ops : Array Oper} {Q : Exit → Act → World → Prop} {l : List Oper} {a : Act} {w : World} {d t q1 pos after g parts} (h : wpList P ops Q (⟨d, .build t parts, q1, pos, after, g⟩ :: l) a w) : wpList P ops Q (⟨d, .build t parts, q1, pos, after, g⟩ :: l) a w := h
theorem stop_store {P : Program} {ops : Array Oper} {Q : Exit → Act → World → Prop} {l : List Oper} {a : Act} {w : World} {d t q1 pos after g x y} (h : wpList P ops Q (⟨d, .store t x y, q1, pos, after, g⟩ :: l) a w) : wpList P ops Q (⟨d, .store t x y, q1, pos, after, g⟩ :: l) a w := h
theorem built8 (a b c d e f g i : BitVec 32) : Program.built Tryd.prog 44 [(0, U32 a), (1, U32 b), (2, U32 c), (3, U32 d), (4, U32 e), (5, U32 f), (6, U32 g), (7, U32 i)] = some (arr [a, b, c, d, e, f, g, i]) := by
  kernel_rfl
def TakeRel (z8 : Words) (s : Sha.St) (S : Words) (w : World) (g2 g3 : Nat) (i : Value) (wr : World) : Prop :=
  ∃ (k : Nat) (v : Sha.St), k ≤ 64 ∧ i = .int .i64 k ∧ v = Sha.rounds s S k ∧ ArrAt wr w.heap.size 44 s.list ∧ ArrAt wr (w.heap.size + 1) 44 z8 ∧ ArrAt wr g2 60 S ∧ ArrAt wr g3 44 v.list ∧ Below w.heap.size w wr
theorem step_list (v : Sha.St) (xk xs T U : BitVec 32) (hT : v.h + (Sha.rotr v.e 6 ^^^ Sha.rotr v.e 11 ^^^ Sha.rotr v.e 25) + (v.e &&& v.f ^^^ ~~~v.e &&& v.g) + xk + xs = T)
    (hU : (Sha.rotr v.a 2 ^^^ Sha.rotr v.a 13 ^^^ Sha.rotr v.a 22) + (v.a &&& v.b ^^^ v.a &&& v.c ^^^ v.b &&& v.c) = U) : (Sha.step v xk xs).list = [T + U, v.a, v.b, v.c, v.d + T, v.e, v.f, v.g] := by
  subst hT hU; rfl
theorem plus_at (s v : Sha.St) (j : Nat) (h : j < 8) : wordAt (s.plus v).list j = wordAt s.list j + wordAt v.list j := by
  match j, h with
  | 0, _ => rfl
  | 1, _ => rfl
  | 2, _ => rfl
  | 3, _ => rfl
  | 4, _ => rfl
  | 5, _ => rfl
  | 6, _ => rfl
  | 7, _ => rfl
  | n + 8, h => omega
def AddRel (z8 A V : Words) (w : World) (g3 : Nat) (i : Value) (wr : World) : Prop :=
  ∃ (k : Nat) (f : Words), k ≤ 8 ∧ i = .int .i64 k ∧ f.length = 8 ∧ (∀ j, j < k → wordAt f j = wordAt A j + wordAt V j) ∧ (∀ j, k ≤ j → j < 8 → wordAt f j = wordAt A j) ∧ ArrAt wr w.heap.size 44 f ∧ ArrAt wr (w.heap.size + 1) 44 z8 ∧ ArrAt wr g3 44 V ∧ Below w.heap.size w wr
theorem AddRel.step {z8 A V f : Words} {w wr W : World} {g3 k j : Nat} {i v : Value} (hk : k < 8) (hg : w.heap.size + 1 < g3) (hf : f.length = 8) (h1 : ∀ j, j < k → wordAt f j = wordAt A j + wordAt V j) (h2 : ∀ j, k ≤ j → j < 8 → wordAt f j = wordAt A j)
    (d0 : ArrAt wr w.heap.size 44 f) (d1 : ArrAt wr (w.heap.size + 1) 44 z8) (d3 : ArrAt wr g3 44 V) (hb : Below w.heap.size w wr)
    (t : Touch (fun _ => False) wr W) (e : v = U32 (wordAt f k + wordAt V k)) (hi : i = .int .i64 (k + 1 : Nat)) : AddRel z8 A V w g3 i ((W.setCell ⟨w.heap.size, k, none⟩ v).drewN j) := by
  subst e
  have hs := hb.size
  have hv1 := d0.touch t fun e => e
  have t2 : Touch (fun q => q = w.heap.size) wr ((W.setCell ⟨w.heap.size, k, none⟩ (U32 (wordAt f k + wordAt V k))).drewN j) := ((t.mono fun _ e => e.elim).trans (Touch.set (F := fun q => q = w.heap.size) W w.heap.size k _ rfl)).drewN j
  refine ⟨k + 1, f.set k (wordAt f k + wordAt V k), by omega, hi, by simp [hf], fun q hq => ?_, fun q hq hq8 => ?_, (hv1.set k _).drewN j, d1.touch t2 (by omega), d3.touch t2 (by omega), hb.trans (t2.below (fun q e => by omega) hs)⟩
  · rw [wordAt_set _ _ _ _ (by omega)]
    split
    · rename_i e; subst e; rw [h2 q (by omega) (by omega)]
    · exact h1 q (by omega)
  · rw [wordAt_set _ _ _ _ (by omega), if_neg (by omega)]
    exact h2 q (by omega) hq8
set_option maxRecDepth 40000 in
set_option maxHeartbeats 1000000 in
theorem take_any (s : Sha.St) (b off cap : Nat) (l : List (BitVec 8)) (w : World) (hl : l.length = 64) (hcap : 64 ≤ cap) (hcm : cap ≤ 9223372036854775807) (hb : BytesAt w b off l) (hk : KTab w) :
    Calls Tryd.prog 33 #[.agg (arr s.list), .slice (some ⟨b, off, none⟩) 64 cap] w fun e w' => e = .returned (.agg (arr (Sha.take s l).list)) ∧ Below w.heap.size w w' := by
  obtain ⟨z, hz, hzl⟩ := zero_words
  obtain ⟨z8, hz8, hz8l⟩ := zero_state
  have SC := fun v (h : Keeps w v) => sched_any b off cap l v hl hcap hcm (hb.mono (h ⟨b, ·, none⟩))
  have hsl : s.list.length = 8 := rfl
  unfold Sha.take
  have HSl := Lib.hid (Sha.length_sched l)
  generalize Sha.sched l = S at *
  generalize hss : s.list = sl at *
  have HSS := Lib.hid hss
  clear hss
  go_enter Tryd.func33, Tryd.ntmps33
  go_wp2_with fail
  have a0 : ArrAt ((w.alloc (.cells (arr sl) 44)).alloc (.cells (arr z8) 44)) w.heap.size 44 sl := (ArrAt.new w _ _).touch (F := fun _ => False) ((Touch.refl _ _).alloc _) fun e => e
  have a1 : ArrAt ((w.alloc (.cells (arr sl) 44)).alloc (.cells (arr z8) 44)) (w.heap.size + 1) 44 z8 := by
    have := ArrAt.new (w.alloc (.cells (arr sl) 44)) 44 z8
    simpa using this
  have hb0 : Below w.heap.size w ((w.alloc (.cells (arr sl) 44)).alloc (.cells (arr z8) 44)) := ((Below.refl _ _).alloc (Nat.le_refl _) _).alloc (by simp) _
  generalize (w.alloc (.cells (arr sl) 44)).alloc (.cells (arr z8) 44) = w1 at *
  refine (SC _ (Keeps.below hb0)).mono ?_
  rintro e w2 ⟨rfl, hb2⟩
  have a0 := a0.below hb2
  have a1 := a1.below hb2
  have hs2 := a1.lt
  have hb2 := hb0.trans (hb2.mono hb0.size)
  clear hb0 SC
  have b2 : (w2.alloc (.cells (arr z) 60)).heap[w2.heap.size]? = some (.cells (arr z) 60 (0, 0)) := ArrAt.new w2 60 z
  have hi : (Tryd.prog.info? 60).map (·.size) = some (arr S).size := by rw [arr_size, HSl.out]; kernel_rfl
  have hzf : (arr z).size = (arr S).size := by rw [arr_size, arr_size, hzl, HSl.out]
  have hone := arr_one S
  have t3 : Touch (fun q => q = w2.heap.size) w2 ((w2.alloc (.cells (arr z) 60)).setRow w2.heap.size (arr S)) := ((Touch.refl _ _).alloc _).trans (Touch.setRow _ _ _ rfl)
  have b3 : ArrAt ((w2.alloc (.cells (arr z) 60)).setRow w2.heap.size (arr S)) w2.heap.size 60 S := (ArrAt.new w2 60 z).row S
  have a03 := a0.touch t3 (by omega)
  have a13 := a1.touch t3 (by omega)
  have hb3 := hb2.trans (t3.below (fun q e => by omega) hb2.size)
  clear t3
  have hi8 : (Tryd.prog.info? 44).map (·.size) = some (arr sl).size := by rw [arr_size, hsl]; kernel_rfl
  have hzf8 : (arr z8).size = (arr sl).size := by rw [arr_size, arr_size, hz8l, hsl]
  have hone8 := arr_one sl
  go_wp2_with (first
    | (refine wpList_store_row rfl 60 _ _ rfl w2.heap.size (arr S) rfl rfl _ (arr z) b2 hi hzf hone ?_
       generalize (w2.alloc (.cells (arr z) 60)).setRow w2.heap.size (arr S) = w3 at *
       have h03 : w3.heap[w.heap.size]? = some (.cells (arr sl) 44 (0, 0)) := a03
       have b4 : (w3.alloc (.cells (arr z8) 44)).heap[w3.heap.size]? = some (.cells (arr z8) 44 (0, 0)) := ArrAt.new w3 44 z8)
    | (refine wpList_load_row rfl 44 _ rfl w.heap.size rfl _ (arr sl) _ _ h03 Tryd.underlying44 rfl hi8 ?_)
    | (refine wpList_store_row rfl 44 _ _ rfl w3.heap.size (arr sl) rfl rfl _ (arr z8) b4 hi8 hzf8 hone8 ?_))
  have t5 : Touch (fun q => q = w3.heap.size) w3 ((w3.alloc (.cells (arr z8) 44)).setRow w3.heap.size (arr sl)) := ((Touch.refl _ _).alloc _).trans (Touch.setRow _ _ _ rfl)
  have d3 : ArrAt ((w3.alloc (.cells (arr z8) 44)).setRow w3.heap.size (arr sl)) w3.heap.size 44 sl := (ArrAt.new w3 44 z8).row sl
  have h2 := b3.lt
  have d0 := a03.touch t5 (by omega)
  have d1 := a13.touch t5 (by omega)
  have d2 := b3.touch t5 (by omega)
  have hb5 := hb3.trans (t5.below (fun q e => by omega) hb3.size)
  have hg2 : w.heap.size + 1 < w2.heap.size := hs2
  clear t5 b2 b3 b4 h03 a03 a13 a0 a1 hb3 hb2
  generalize (w3.alloc (.cells (arr z8) 44)).setRow w3.heap.size (arr sl) = w5 at *
  generalize w2.heap.size = g2 at *
  generalize w3.heap.size = g3 at *
  rw [← HSS.out] at d0 d3
  go_loopw [16] (fun i wr => TakeRel z8 s S w g2 g3 i wr) (fun i _ => 64 - (intOf i).toNat)
  case atStart => exact ⟨0, s, by omega, rfl, rfl, d0, d1, d2, d3, hb5⟩
  case round =>
    clear d0 d1 d2 d3 hb5
    obtain ⟨k, v, hk64, rfl, hv, d0, d1, d2, d3, hbw⟩ := hrel
    by_cases hlt : k < 64
    · have e0 : wr.cell? ⟨g3, 0, none⟩ = some (U32 v.a) := d3.cell (i := 0) (show 0 < 8 by decide)
      have e1 : wr.cell? ⟨g3, 1, none⟩ = some (U32 v.b) := d3.cell (i := 1) (show 1 < 8 by decide)
      have e2 : wr.cell? ⟨g3, 2, none⟩ = some (U32 v.c) := d3.cell (i := 2) (show 2 < 8 by decide)
      have e3 : wr.cell? ⟨g3, 3, none⟩ = some (U32 v.d) := d3.cell (i := 3) (show 3 < 8 by decide)
      have e4 : wr.cell? ⟨g3, 4, none⟩ = some (U32 v.e) := d3.cell (i := 4) (show 4 < 8 by decide)
      have e5 : wr.cell? ⟨g3, 5, none⟩ = some (U32 v.f) := d3.cell (i := 5) (show 5 < 8 by decide)
      have e6 : wr.cell? ⟨g3, 6, none⟩ = some (U32 v.g) := d3.cell (i := 6) (show 6 < 8 by decide)
      have e7 : wr.cell? ⟨g3, 7, none⟩ = some (U32 v.h) := d3.cell (i := 7) (show 7 < 8 by decide)
      have ek := hk.keeps (Keeps.below hbw) k hlt
      have es := d2.cell (i := k) (by rw [HSl.out]; exact hlt)
      have hn : Sha.rounds s S (k + 1) = Sha.step v (wordAt Sha.K k) (wordAt S k) := by rw [hv]; rfl
      have HN := Lib.hid hn
      have H0 := Lib.hid d0
      have H1 := Lib.hid d1
      have H2 := Lib.hid d2
      have H3 := Lib.hid d3
      have HK := Lib.hid hk
      clear hv hn d0 d1 d2 d3 hk
      generalize wordAt Sha.K k = xk at *
      generalize wordAt S k = xs at *
      go_wp2
      go_quiet (exact right_quiet _ _ (by decide) (by decide) _ _)
      have f0 : (wr.drewN nq).cell? ⟨g3, 0, none⟩ = some (U32 v.a) := e0
      have f1 : (wr.drewN nq).cell? ⟨g3, 1, none⟩ = some (U32 v.b) := e1
      have f2 : (wr.drewN nq).cell? ⟨g3, 2, none⟩ = some (U32 v.c) := e2
      have f3 : (wr.drewN nq).cell? ⟨g3, 3, none⟩ = some (U32 v.d) := e3
      have f4 : (wr.drewN nq).cell? ⟨g3, 4, none⟩ = some (U32 v.e) := e4
      have f5 : (wr.drewN nq).cell? ⟨g3, 5, none⟩ = some (U32 v.f) := e5
      have f6 : (wr.drewN nq).cell? ⟨g3, 6, none⟩ = some (U32 v.g) := e6
      have f7 : (wr.drewN nq).cell? ⟨g3, 7, none⟩ = some (U32 v.h) := e7
      have G0 : Hid (ArrAt (wr.drewN nq) w.heap.size 44 s.list) := Lib.hid H0.out
      have G1 : Hid (ArrAt (wr.drewN nq) (w.heap.size + 1) 44 z8) := Lib.hid H1.out
      have G2 : Hid (ArrAt (wr.drewN nq) g2 60 S) := Lib.hid H2.out
      have G3 : Hid (ArrAt (wr.drewN nq) g3 44 v.list) := Lib.hid H3.out
      have GB : Below w.heap.size w (wr.drewN nq) := below_drewN hbw nq
      clear e0 e1 e2 e3 e4 e5 e6 e7 ek es H0 H1 H2 H3 hbw
      generalize wr.drewN nq = w6 at *
      go_wp2
      go_quiet (exact right_quiet _ _ (by decide) (by decide) _ _)
      have h3 : w6.heap[g3]? = some (.cells (arr v.list) 44 (0, 0)) := G3.out
      generalize hT : v.h + (Sha.rotr v.e 6 ^^^ Sha.rotr v.e 11 ^^^ Sha.rotr v.e 25) + (v.e &&& v.f ^^^ ~~~v.e &&& v.g) + xk + xs = T
      generalize hU : (Sha.rotr v.a 2 ^^^ Sha.rotr v.a 13 ^^^ Sha.rotr v.a 22) + (v.a &&& v.b ^^^ v.a &&& v.c ^^^ v.b &&& v.c) = U
      have HT := Lib.hid hT
      have HU := Lib.hid hU
      clear hT hU
      obtain ⟨L, hL⟩ : ∃ L : Words, L = [T + U, v.a, v.b, v.c, v.d + T, v.e, v.f, v.g] := ⟨_, rfl⟩
      have hbu := built8 (T + U) v.a v.b v.c (v.d + T) v.e v.f v.g
      rw [← hL] at hbu
      have hLl : L.length = 8 := by rw [hL]; rfl
      have HL := Lib.hid hL
      clear hL
      have hsz : (arr v.list).size = (arr L).size := by rw [arr_size, arr_size, hLl]; rfl
      have hiv : (Tryd.prog.info? 44).map (·.size) = some (arr L).size := by rw [arr_size, hLl]; kernel_rfl
      have hov := arr_one L
      go_wp2_with (with_reducible refine stop_build ?roundEnd)
      refine wpList_built rfl 44 _ rfl (arr L) ?hb0 ?nx1
      case hb0 => go_simp
      clear hbu f0 f1 f2 f3 f4 f5 f6 f7
      go_wp2_with (refine wpList_store_row rfl 44 _ _ rfl g3 (arr L) rfl rfl _ (arr v.list) h3 hiv hsz hov ?_)
      go_roundw
      case rel =>
        have t : Touch (fun q => q = g3) w6 ((w6.drewN nq).setRow g3 (arr L)) := ((Touch.refl _ _).drewN nq).trans (Touch.setRow _ _ _ rfl)
        have hs := GB.size
        have e := step_list v xk xs T U HT.out HU.out
        rw [← HL.out] at e
        refine ⟨k + 1, Sha.step v xk xs, by omega, by go_num, HN.out.symm, G0.out.touch t (by omega), G1.out.touch t (by omega), G2.out.touch t (by omega), ?_, GB.trans (t.below (fun q e => by omega) hs)⟩
        rw [e]
        exact (G3.out.drewN nq).row L
      case measure => simp [intOf]; omega
    · obtain rfl : k = 64 := by omega
      rw [show (((64 : Nat) : Int)) = 64 from rfl]
      have hg2' : w.heap.size + 1 < g3 := Nat.lt_trans hg2 h2
      subst hv
      have hP := Lib.hid (plus_at s (Sha.rounds s S 64))
      have hPl : (s.plus (Sha.rounds s S 64)).list.length = 8 := rfl
      have hVl : (Sha.rounds s S 64).list.length = 8 := rfl
      have hAl : s.list.length = 8 := rfl
      clear HSS d2 hk hb hlt
      generalize hPP : (s.plus (Sha.rounds s S 64)).list = PP at *
      have HPP := Lib.hid hPP
      clear hPP
      generalize (Sha.rounds s S 64).list = V at *
      generalize s.list = A at *
      have rel2 : AddRel z8 A V w g3 (.int .i64 0) wr := ⟨0, A, by omega, rfl, hAl, fun j h => by omega, fun j _ _ => rfl, d0, d1, d3, hbw⟩
      clear d0 d1 d3 hbw
      go_wp2
      go_loopw [96] (fun i wr => AddRel z8 A V w g3 i wr) (fun i _ => 8 - (intOf i).toNat)
      case atStart => exact rel2
      case round =>
        clear rel2
        obtain ⟨k, f, hk, rfl, hf, h1, h2, d0, d1, d3, hbw⟩ := hrel
        by_cases hlt : k < 8
        · have c1 := d0.cell (i := k) (by omega)
          have c2 := d3.cell (i := k) (by omega)
          have hth := d0.thawed k
          have H1 := Lib.hid h1
          have H2 := Lib.hid h2
          have D0 := Lib.hid d0
          have D1 := Lib.hid d1
          have D3 := Lib.hid d3
          have HBW := Lib.hid hbw
          clear h1 h2 d0 d1 d3 hbw
          obtain ⟨ya, hya⟩ : ∃ y, wordAt f k = y := ⟨_, rfl⟩
          obtain ⟨yv, hyv⟩ : ∃ y, wordAt V k = y := ⟨_, rfl⟩
          rw [hya] at c1
          rw [hyv] at c2
          have HYA := Lib.hid hya
          have HYV := Lib.hid hyv
          clear hya hyv
          go_wp2_with fail
          refine wp_region_mid 8 (by kernel_rfl) (by kernel_rfl) rfl ?_
          simp only [List.take_succ_cons, List.take_zero, List.drop_zero]
          repeat (first | go_big_quiet_step (fail) | quiet_step (fail))
          refine wpQuiet_nil ?_
          intro j
          go_wp2
          refine midPost_normal (rest_quiet (by kernel_rfl) ?_)
          simp only [List.drop_succ_cons, List.drop_nil]
          refine wpQuiet_nil ?_
          intro j'
          clear c1 c2 hth
          go_wp2
          go_roundw
          case rel =>
            refine AddRel.step hlt hg2' hf H1.out H2.out D0.out D1.out D3.out HBW.out ?_ (by rw [HYA.out, HYV.out]) (by go_num)
            repeat (first | exact Touch.refl _ _ | refine Touch.drewN ?_ _)
          case measure => simp [intOf]; omega
        · obtain rfl : k = 8 := by omega
          have e0 : f = PP := words_ext (by rw [hf, hPl]) fun i hi => by rw [h1 i (by omega), hP.out i (by omega)]
          subst e0
          have hi9 : (Tryd.prog.info? 44).map (·.size) = some (arr f).size := by rw [arr_size, hf]; kernel_rfl
          have hzf9 : (arr z8).size = (arr f).size := by rw [arr_size, arr_size, hz8l, hf]
          have hone9 := arr_one f
          have HB := Lib.hid hbw
          have hr2 := d1.row f
          have tR : Touch (fun q => q = w.heap.size + 1) wr (wr.setRow (w.heap.size + 1) (arr f)) := Touch.setRow wr _ _ rfl
          have hv1 : wr.heap[w.heap.size]? = some (.cells (arr f) 44 (0, 0)) := d0
          have hr1 : wr.heap[w.heap.size + 1]? = some (.cells (arr z8) 44 (0, 0)) := d1
          clear d0 d1 d3 hbw h1 h2
          go_wp2_with (first | (refine wpList_load_row rfl 44 _ rfl w.heap.size rfl _ (arr f) _ _ hv1 Tryd.underlying44 rfl hi9 ?_) | (refine wpList_store_row rfl 44 _ _ rfl (w.heap.size + 1) (arr f) rfl rfl _ (arr z8) hr1 hi9 hzf9 hone9 ?_))
          refine bodyPost_ret (results_cell_row rfl _ _ (w.heap.size + 1) _ (arr f) _ _ rfl hr2 Tryd.underlying44 rfl hi9) rfl ?_
          exact ⟨by rw [HPP.out], HB.out.trans (tR.below (fun q e => by omega) HB.out.size)⟩
end Go.Proofs.YtnodcjjmodbjiaaDoor
