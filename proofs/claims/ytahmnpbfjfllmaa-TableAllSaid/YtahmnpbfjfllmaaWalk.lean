/- walk: through a table by All, as far as one goes. -/
import Derived.Test.YtahmnpbfjfllmaaAll
import Derived.Test.YtahmnpbfjfllmaaGet
namespace Go.Proofs.Ytahmnpbfjfllmaa
open Go Go.RowKit
attribute [local go_sem] Oper.semAt_some

def RowBox (W : World) (b : Nat) (cs : Array Value) (t : TypeId) : Prop := W.heap[b]? = some (.cells cs t (0, 0))
theorem RowBox.below {W W' : World} {b : Nat} {cs : Array Value} {t : TypeId} (h : RowBox W b cs t) (hb : Below W.heap.size W W') : RowBox W' b cs t := (hb.block b (heap_lt h)).trans h
theorem RowBox.grown {W W' : World} {b : Nat} {cs : Array Value} {t : TypeId} {row : Option Nat} (h : RowBox W b cs t) (hg : W.grownBy W' row) (hr : ∀ r, row = some r → ∃ o : Obj, W.heap[r]? = some o ∧ o.isCells = false) : RowBox W' b cs t := by
  refine (hg.block b (heap_lt h) fun e => ?_).trans h
  obtain ⟨o, ho, hc⟩ := hr b e.symm
  rw [h] at ho
  injection ho with ho
  rw [← ho] at hc
  cases hc
/-- What was gone through rises. -/
def chainB : List (List (BitVec 8)) → Bool
  | [] => true
  | [_] => true
  | k :: m :: r => decide (cmpB k m < 0) && chainB (m :: r)
def lastK : List (List (BitVec 8)) → List (BitVec 8)
  | [] => zeroKey
  | [k] => k
  | _ :: m :: r => lastK (m :: r)
theorem lastK_snoc : ∀ (l : List (List (BitVec 8))) (k : List (BitVec 8)), lastK (l ++ [k]) = k
  | [], _ => rfl
  | [_], _ => rfl
  | _ :: m :: r, k => by
    show lastK (m :: r ++ [k]) = k
    exact lastK_snoc (m :: r) k
theorem chainB_snoc : ∀ (l : List (List (BitVec 8))) (k : List (BitVec 8)), l ≠ [] → chainB (l ++ [k]) = (chainB l && decide (cmpB (lastK l) k < 0))
  | [], _, h => (h rfl).elim
  | [a], k, _ => by
    show (decide (cmpB a k < 0) && true) = (true && decide (cmpB a k < 0))
    rw [Bool.and_true, Bool.true_and]
  | a :: m :: r, k, _ => by
    show (decide (cmpB a m < 0) && chainB (m :: r ++ [k])) = ((decide (cmpB a m < 0) && chainB (m :: r)) && decide (cmpB (lastK (m :: r)) k < 0))
    rw [chainB_snoc (m :: r) k (by simp), Bool.and_assoc]
theorem chainB_up : ∀ l : List (List (BitVec 8)), l.Pairwise (fun x y => cmpB x y < 0) → chainB l = true
  | [], _ => rfl
  | [_], _ => rfl
  | a :: m :: r, h => by
    rw [List.pairwise_cons] at h
    show (decide (cmpB a m < 0) && chainB (m :: r)) = true
    rw [chainB_up (m :: r) h.2, decide_eq_true (h.1 m (by simp))]
    rfl
def keysOf {L : List SlotI} (pre : List (Of' L)) : List (List (BitVec 8)) := pre.map fun x => x.1.key
/-- A table's rows, rising: there is such a list. -/
theorem rise_ex {S : Nat → SlotI} {c : Nat} (h : Tab.Inv S c) (hk : ∀ p, p < c → (S p).key.length = 32) : ∃ L, RiseOf S c L := by
  have hkeys : ∀ x ∈ fullL S c, x.key.length = 32 := fun x hx => by
    obtain ⟨p, hp, _, rfl⟩ := mem_fullL.1 hx
    exact hk p hp
  refine ⟨((kslots (fullL S c) hkeys).toList.mergeSort fun x y => !ltK y x).map (·.1), rise_of h hk ?_ ?_⟩
  · have := (List.mergeSort_perm (kslots (fullL S c) hkeys).toList fun x y => !ltK y x).map (·.1)
    rw [kslots_list] at this
    exact this
  · rw [List.pairwise_map]
    have hs := List.pairwise_mergeSort (le := fun x y => !ltK y x) (fun a b c h1 h2 => by
      rw [Bool.not_eq_true'] at h1 h2 ⊢
      exact swoK.ntrans c b a h2 h1) (fun a b => by
      cases e : ltK b a with
      | false => rfl
      | true =>
        cases e2 : ltK a b with
        | false => rfl
        | true =>
          have := swoK.trans _ _ _ e e2
          rw [swoK.irrefl] at this
          cases this) (kslots (fullL S c) hkeys).toList
    refine hs.imp fun {x y} q => ?_
    rw [Bool.not_eq_true'] at q
    unfold ltK at q
    rw [decide_eq_false_iff_not] at q
    exact q
/-- What lies in the walk's own boxes. -/
structure WalkB (w : World) (h : Nat) (stop : Int) (m : Nat) (lk : List (BitVec 8)) (q : Bool) (W : World) : Prop where
  b0 : RowBox W w.heap.size #[.pointer (some ⟨h, 0, none⟩)] 48
  b1 : RowBox W (w.heap.size + 1) #[.int .i64 stop] 3
  b2 : RowBox W (w.heap.size + 1 + 1) #[.int .i64 m] 3
  b3 : RowBox W (w.heap.size + 1 + 1 + 1) (lk.map U8).toArray 23
  b4 : RowBox W (w.heap.size + 1 + 1 + 1 + 1) #[.bool q] 4
  below : Below w.heap.size w W
def WalkI {L : List SlotI} (w : World) (h : Nat) (stop : Int) (pre : List (Of' L)) (W : World) : Prop := WalkB w h stop pre.length (lastK (keysOf pre)) (chainB (keysOf pre)) W
theorem WalkI.own {L : List SlotI} (w : World) (h : Nat) (stop : Int) (B : Nat) (hB : w.heap.size ≤ B) : OwnFrom B (fun (pre : List (Of' L)) W => WalkI w h stop pre W) := fun _ _ _ _ hs hg hr =>
  ⟨RowBox.grown (WalkB.b0 hs) hg fun r e => (hr r e).2, RowBox.grown (WalkB.b1 hs) hg fun r e => (hr r e).2, RowBox.grown (WalkB.b2 hs) hg fun r e => (hr r e).2, RowBox.grown (WalkB.b3 hs) hg fun r e => (hr r e).2, RowBox.grown (WalkB.b4 hs) hg fun r e => (hr r e).2,
   (WalkB.below hs).grown hg (WalkB.below hs).size fun k e => Nat.le_trans hB (hr k e).1⟩
theorem zero_id (w : World) : Sem.run Try.prog (zeroValue 23) w = .ok (.agg (zeroKey.map U8).toArray) w := by kernel_rfl
theorem built_zero : Program.built Try.prog 23 [] = some (zeroKey.map U8).toArray := by kernel_rfl
abbrev walkW (w : World) (h : Nat) (stop : Int) (Z : Array Value) : World := ((((w.alloc (.cells #[.pointer (some ⟨h, 0, none⟩)] 48)).alloc (.cells #[.int .i64 stop] 3)).alloc (.cells #[.int .i64 0] 3)).alloc (.cells Z 23)).setRow (w.heap.size + 1 + 1 + 1) Z |>.alloc (.cells #[.bool true] 4)
theorem walk_start (L : List SlotI) (w : World) (h : Nat) (stop : Int) (Z : Array Value) (hZ : (zeroKey.map U8).toArray = Z) : WalkI (L := L) w h stop [] (walkW w h stop Z) := by
  show WalkI (L := L) w h stop [] (World.alloc (World.setRow (World.alloc (World.alloc (World.alloc (World.alloc w _) _) _) _) _ _) _)
  obtain ⟨W1, h1⟩ : ∃ W1, w.alloc (.cells #[.pointer (some ⟨h, 0, none⟩)] 48) = W1 := ⟨_, rfl⟩
  obtain ⟨W2, h2⟩ : ∃ W2, W1.alloc (.cells #[.int .i64 stop] 3) = W2 := ⟨_, rfl⟩
  obtain ⟨W3, h3⟩ : ∃ W3, W2.alloc (.cells #[.int .i64 0] 3) = W3 := ⟨_, rfl⟩
  obtain ⟨W4, h4⟩ : ∃ W4, (W3.alloc (.cells Z 23)).setRow W3.heap.size Z = W4 := ⟨_, rfl⟩
  obtain ⟨W5, h5⟩ : ∃ W5, W4.alloc (.cells #[.bool true] 4) = W5 := ⟨_, rfl⟩
  have s1 : W1.heap.size = w.heap.size + 1 := by rw [← h1]; simp
  have s2 : W2.heap.size = w.heap.size + 1 + 1 := by rw [← h2]; simp [s1]
  have s3 : W3.heap.size = w.heap.size + 1 + 1 + 1 := by rw [← h3]; simp [s2]
  have s4 : W4.heap.size = w.heap.size + 1 + 1 + 1 + 1 := by rw [← h4]; simp [World.setRow, s3]
  have b1 : Below w.heap.size w W1 := by rw [← h1]; exact (Below.refl _ _).alloc (Nat.le_refl _) _
  have b2 : Below W1.heap.size W1 W2 := by rw [← h2]; exact (Below.refl _ _).alloc (Nat.le_refl _) _
  have b3 : Below W2.heap.size W2 W3 := by rw [← h3]; exact (Below.refl _ _).alloc (Nat.le_refl _) _
  obtain ⟨m9, b4⟩ := made_row W3 23 Z Z
  rw [h4] at m9 b4
  have b5 : Below W4.heap.size W4 W5 := by rw [← h5]; exact (Below.refl _ _).alloc (Nat.le_refl _) _
  have r0 : RowBox W1 w.heap.size #[.pointer (some ⟨h, 0, none⟩)] 48 := by rw [← h1]; exact heap_alloc_new w _
  have r1 : RowBox W2 W1.heap.size #[.int .i64 stop] 3 := by rw [← h2]; exact heap_alloc_new W1 _
  have r2 : RowBox W3 W2.heap.size #[.int .i64 0] 3 := by rw [← h3]; exact heap_alloc_new W2 _
  have r3 : RowBox W4 W3.heap.size Z 23 := m9
  have r4 : RowBox W5 W4.heap.size #[.bool true] 4 := by rw [← h5]; exact heap_alloc_new W4 _
  have q0 := (((r0.below b2).below b3).below b4).below b5
  have q1 := ((r1.below b3).below b4).below b5
  have q2 := (r2.below b4).below b5
  have q3 := r3.below b5
  have qb := (((b1.trans (b2.mono (by omega))).trans (b3.mono (by omega))).trans (b4.mono (by omega))).trans (b5.mono (by omega))
  rw [s1] at q1
  rw [s2] at q2
  rw [s3] at q3
  rw [s4] at r4
  rw [h1, h2, h3]
  rw [s3] at h4
  rw [h4, h5]
  exact ⟨q0, q1, q2, by rw [show lastK (keysOf ([] : List (Of' L))) = zeroKey from rfl, hZ]; exact q3, r4, qb⟩
theorem WalkB.to {w : World} {h : Nat} {stop : Int} {m : Nat} {lk : List (BitVec 8)} {q : Bool} {W W' : World} (k : WalkB w h stop m lk q W) (hb : Below W.heap.size W W') : WalkB w h stop m lk q W' :=
  ⟨k.b0.below hb, k.b1.below hb, k.b2.below hb, k.b3.below hb, k.b4.below hb, k.below.trans (hb.mono k.below.size)⟩
theorem keepsFrom_below {B : Nat} {W W' : World} (hb : Below W.heap.size W W') : KeepsFrom B W W' := ⟨hb.size, fun k _ _ hk _ => (hb.block k (heap_lt hk)).trans hk⟩
theorem RowBox.c0 {W : World} {b : Nat} {v : Value} {t : TypeId} (h : RowBox W b #[v] t) : W.cell? ⟨b, 0, none⟩ = some v := (cell_of_row _ _ 0 _ _ _ h).trans rfl
theorem RowBox.thawed {W : World} {b : Nat} {cs : Array Value} {t : TypeId} (h : RowBox W b cs t) (o : Nat) : W.frozen? ⟨b, o, none⟩ = false := frozen_of_row W b o _ _ h
theorem RowBox.set {W : World} {b : Nat} {v : Value} {t : TypeId} (h : RowBox W b #[v] t) (u : Value) : RowBox (W.setCell ⟨b, 0, none⟩ u) b #[u] t := by
  unfold RowBox
  rw [heap_setCell_same W b 0 _ _ _ h]; rfl
theorem RowBox.set_other {W : World} {b b' : Nat} {cs : Array Value} {t : TypeId} (h : RowBox W b cs t) (hne : b ≠ b') (u : Value) : RowBox (W.setCell ⟨b', 0, none⟩ u) b cs t :=
  (Touch.set (F := fun y => y = b') W b' 0 u rfl).block b (heap_lt h) hne |>.trans h
theorem RowBox.row_other {W : World} {b b' : Nat} {cs c' : Array Value} {t : TypeId} (h : RowBox W b cs t) (hne : b ≠ b') : RowBox (W.setRow b' c') b cs t :=
  (setRow_heap_other W b' b c' hne).trans h
/-- The blocks that a round turns. -/
def walkF (w : World) (k : Nat) : Prop := k = w.heap.size + 1 + 1 ∨ k = w.heap.size + 1 + 1 + 1 ∨ k = w.heap.size + 1 + 1 + 1 + 1
theorem keepsFrom_row {B : Nat} {W : World} {b : Nat} {cs c' : Array Value} {t : TypeId} (h : RowBox W b cs t) : KeepsFrom B W (W.setRow b c') :=
  ⟨(Touch.setRow (F := fun y => y = b) W b c' rfl).size, fun k o _ hk ho => by
    refine (setRow_heap_other W b k c' fun e => ?_).trans hk
    rw [e, h] at hk
    injection hk with hk
    rw [← hk] at ho
    cases ho⟩
/-- A round's last steps: the key, the number. -/
theorem WalkB.fin {w : World} {h : Nat} {stop : Int} {m : Nat} {lk : List (BitVec 8)} {q : Bool} {W : World} (k : WalkB w h stop m lk q W) (x : List (BitVec 8)) (B : Nat) :
    WalkB w h stop (m + 1) x q ((W.setRow (w.heap.size + 1 + 1 + 1) (x.map U8).toArray).setCell ⟨w.heap.size + 1 + 1, 0, none⟩ (.int .i64 ((m : Int) + 1))) ∧
    CellsBut (walkF w) W ((W.setRow (w.heap.size + 1 + 1 + 1) (x.map U8).toArray).setCell ⟨w.heap.size + 1 + 1, 0, none⟩ (.int .i64 ((m : Int) + 1))) ∧
    KeepsFrom B W ((W.setRow (w.heap.size + 1 + 1 + 1) (x.map U8).toArray).setCell ⟨w.heap.size + 1 + 1, 0, none⟩ (.int .i64 ((m : Int) + 1))) := by
  have r0 := (k.b0.row_other (b' := w.heap.size + 1 + 1 + 1) (c' := (x.map U8).toArray) (by omega)).set_other (b' := w.heap.size + 1 + 1) (by omega) (.int .i64 ((m : Int) + 1))
  have r1 := (k.b1.row_other (b' := w.heap.size + 1 + 1 + 1) (c' := (x.map U8).toArray) (by omega)).set_other (b' := w.heap.size + 1 + 1) (by omega) (.int .i64 ((m : Int) + 1))
  have r2 := (k.b2.row_other (b' := w.heap.size + 1 + 1 + 1) (c' := (x.map U8).toArray) (by omega)).set (.int .i64 ((m : Int) + 1))
  have r3 : RowBox _ (w.heap.size + 1 + 1 + 1) _ _ := RowBox.set_other (b' := w.heap.size + 1 + 1) (setRow_heap W _ _ (x.map U8).toArray _ _ k.b3) (by omega) (.int .i64 ((m : Int) + 1))
  have r4 := (k.b4.row_other (b' := w.heap.size + 1 + 1 + 1) (c' := (x.map U8).toArray) (by omega)).set_other (b' := w.heap.size + 1 + 1) (by omega) (.int .i64 ((m : Int) + 1))
  have t1 : Touch (walkF w) W (W.setRow (w.heap.size + 1 + 1 + 1) (x.map U8).toArray) := Touch.setRow _ _ _ (.inr (.inl rfl))
  have t2 : Touch (walkF w) (W.setRow (w.heap.size + 1 + 1 + 1) (x.map U8).toArray) ((W.setRow (w.heap.size + 1 + 1 + 1) (x.map U8).toArray).setCell ⟨w.heap.size + 1 + 1, 0, none⟩ (.int .i64 ((m : Int) + 1))) := Touch.set _ _ _ _ (.inl rfl)
  have tb := k.below.trans ((t1.trans t2).below (B := w.heap.size) (fun y e => by unfold walkF at e; omega) k.below.size)
  exact ⟨⟨r0, r1, by rw [show (((m + 1 : Nat)) : Int) = (m : Int) + 1 by omega]; exact r2, r3, r4, tb⟩, (CellsBut.setRow W _ _ (.inr (.inl rfl))).trans (CellsBut.set _ _ _ _ (.inl rfl)), (keepsFrom_row k.b3).trans ((KeepsOthers.setCell _ _ _).from _)⟩
theorem WalkB.bad {w : World} {h : Nat} {stop : Int} {m : Nat} {lk : List (BitVec 8)} {q : Bool} {W : World} (k : WalkB w h stop m lk q W) :
    WalkB w h stop m lk false (W.setCell ⟨w.heap.size + 1 + 1 + 1 + 1, 0, none⟩ (.bool false)) := by
  have t2 : Touch (walkF w) W (W.setCell ⟨w.heap.size + 1 + 1 + 1 + 1, 0, none⟩ (.bool false)) := Touch.set _ _ _ _ (.inr (.inr rfl))
  exact ⟨k.b0.set_other (by omega) _, k.b1.set_other (by omega) _, k.b2.set_other (by omega) _, k.b3.set_other (by omega) _, k.b4.set _, k.below.trans (t2.below (B := w.heap.size) (fun y e => by unfold walkF at e; omega) k.below.size)⟩
theorem has_of {S : Nat → SlotI} {c : Nat} {L : List SlotI} (hi : Tab.Inv S c) (hL : RiseOf S c L) {x : SlotI} (hx : x ∈ L) (v : Int) : Tab.Has S c x.key v ↔ some x.val = some v := by
  obtain ⟨p, hp, hst, hpe⟩ := (hL.mem x).1 hx
  have h0 : Tab.Has S c x.key x.val := ⟨p, hp, hst, by rw [hpe], by rw [hpe]⟩
  obtain ⟨j, hj⟩ := Tab.found_of_room hi.room x.key
  by_cases h1 : (S (Tab.place x.key c j)).st = 1
  · rw [hi.hit hj h1, (hi.hit hj h1 _).1 h0]
    exact ⟨fun e => by rw [e], fun e => (Option.some.inj e).symm⟩
  · exact (hi.miss hj h1 _ h0).elim
set_option maxHeartbeats 4000000 in
set_option maxRecDepth 40000 in
theorem walk_in (n : Nat) (hn : 6 ≤ n) {w : World} {h b c ng g : Nat} {S : Nat → SlotI} (t : TabAt w h b c S ng g) (stop : Int) :
    CallsIn Fence.wide n Try.prog 29 #[.pointer (some ⟨h, 0, none⟩), .int .i64 stop] w fun e w' => (∃ m : Nat, e = .returned (.tuple #[.bool true, .int .i64 m]) ∧ (m = ng ∨ (m : Int) = stop ∧ 1 ≤ m)) ∧ Below w.heap.size w w' := by
  have hbu := built_zero
  have hz := zero_id
  refine callsIn_of_wp_marks Try.func29 rfl trivial ?_ rfl
  simp only [Try.ntmps29, List.size_toArray, List.length_cons, List.length_nil, Nat.reduceAdd, Nat.reduceSub, Array.replicate_succ, Array.replicate_zero, List.push_toArray, List.append_toArray, List.nil_append, List.cons_append]
  obtain ⟨Z, hZ⟩ : ∃ Z, (zeroKey.map U8).toArray = Z := ⟨_, rfl⟩
  have sZ : Z.size = 32 := by rw [← hZ]; simp [zeroKey]
  have oZ : Z.all (·.oneCell') = true := by rw [← hZ]; exact all_oneCell_toArray fun v hv => by obtain ⟨_, _, rfl⟩ := List.mem_map.1 hv; rfl
  have iZ : (Try.prog.info? 23).map (·.size) = some Z.size := by rw [sZ]; kernel_rfl
  rw [hZ] at hbu hz
  have hn3 := heap_alloc_new (((w.alloc (.cells #[.pointer (some ⟨h, 0, none⟩)] 48)).alloc (.cells #[.int .i64 stop] 3)).alloc (.cells #[.int .i64 0] 3)) (.cells Z 23)
  have hsz : (((w.alloc (.cells #[.pointer (some ⟨h, 0, none⟩)] 48)).alloc (.cells #[.int .i64 stop] 3)).alloc (.cells #[.int .i64 0] 3)).heap.size = w.heap.size + 1 + 1 + 1 := by simp
  rw [hsz] at hn3
  have WS := fun L => walk_start L w h stop Z hZ
  have RI := rising_any t
  have cb0 := (cell_of_row _ _ 0 _ _ _ (WS []).b0).trans rfl
  have HWS := Lib.hid WS
  clear WS
  gi_wp2_with (first
    | (with_reducible refine in_build 23 ?_; go_must (refine wpListIn_built rfl 23 _ rfl Z (by go_simp) ?_))
    | (with_reducible refine in_store 23 ?_; go_must (refine wpListIn_store_row rfl 23 _ _ rfl (w.heap.size + 1 + 1 + 1) Z rfl rfl _ Z hn3 iZ rfl oZ ?_)))
  refine ⟨trivial, fun _ => by omega, (callsIn_wide.2 (all_any _ _)).mono ?_⟩
  rintro e w' ⟨rfl, rfl⟩
  obtain ⟨L, hL⟩ := rise_ex t.look.inv t.look.rows.key
  have WS := HWS.out L
  clear HWS hn3 hsz cb0 RI
  obtain ⟨W5, hW5⟩ : ∃ W5, walkW w h stop Z = W5 := ⟨_, rfl⟩
  have hW5' := hW5
  unfold walkW at hW5'
  rw [hW5'] at ⊢
  rw [hW5] at WS
  clear hW5 hW5'
  gi_wp2_with fail
  obtain ⟨W6, hW6⟩ : ∃ W6, W5.alloc (.cells #[.pointer (some ⟨h, 0, none⟩)] 48) = W6 := ⟨_, rfl⟩
  have h56 : Below W5.heap.size W5 W6 := by rw [← hW6]; exact (Below.refl _ _).alloc (Nat.le_refl _) _
  have bt : RowBox W6 W5.heap.size #[.pointer (some ⟨h, 0, none⟩)] 48 := by rw [← hW6]; exact heap_alloc_new W5 _
  have WS6 := WalkB.to WS h56
  rw [hW6]
  clear hW6 WS
  have hw6 := (WalkB.below WS6).size
  have hl4 := heap_lt (WalkB.b4 WS6)
  have t6 := t.below (WalkB.below WS6)
  refine wpIn_rangeFunc_ownH rfl (by omega) (gf := 56) (lb := #[.pointer (some ⟨W5.heap.size, 0, none⟩)]) rfl trivial (enters_of Try.func56 (by kernel_rfl) rfl)
    (all_stops (n - 1) (by omega) (walkF w) W5.heap.size h b c ng g S L W6 (fun k hk => by unfold walkF at hk; omega) bt.c0 t6 hL) CellsBut.trans (CellsBut.putObj (w := W6)) (Below.refl _ _) (fun _ => rfl)
    (fun pre W => WalkI w h stop pre W)
    (fun cc pre W => WalkI w h stop pre W ∧ cc = .exit 0 ∧ (pre.length : Int) = stop ∧ 1 ≤ pre.length)
    (WalkI.own w h stop _ hw6)
    (fun cc s X Y row hs hg hr => ⟨WalkI.own w h stop _ hw6 s X Y row hs.1 hg hr, hs.2⟩)
    WS6
    (fun x a' W => ∃ Bx, w.heap.size + 5 ≤ Bx ∧ RowBox W Bx (x.1.key.map U8).toArray 23 ∧ a' = { tmps := #[.pointer (some ⟨h, 0, none⟩), .int .i64 stop, .pointer (some ⟨w.heap.size, 0, none⟩), .pointer (some ⟨w.heap.size + 1, 0, none⟩), .bool false, .int .i64 0, .pointer (some ⟨w.heap.size + 1 + 1, 0, none⟩), .pointer (some ⟨w.heap.size + 1 + 1 + 1, 0, none⟩), .pointer (some ⟨w.heap.size + 1 + 1 + 1 + 1, 0, none⟩), .pointer (some ⟨Bx, 0, none⟩), .int .i64 x.1.val, undef, undef, .agg Z, .pointer (some ⟨h, 0, none⟩), .func (.func 56) #[] #[.pointer (some ⟨W5.heap.size, 0, none⟩)], .agg (x.1.key.map U8).toArray, .int .i64 x.1.val, undef, undef, undef, undef, undef, undef, undef, undef, undef, undef, undef, undef, undef, undef, undef, undef, undef, undef, undef, undef, undef, undef, undef, undef, undef, undef, undef, undef, undef, undef, undef], defers := [] })
    (fun x a' _ X Y row hs hg hr => by obtain ⟨Bx, h1, h2, h3⟩ := hs; exact ⟨Bx, h1, h2.grown hg fun r e => (hr r e).2, h3⟩)
    ?assign ?body ?done ?stop
  case assign =>
    rintro l pre x W K hi hK
    have hkey := hL.key x.1 x.2
    have hw4 := heap_lt (WalkB.b4 hi)
    obtain ⟨K', hK'⟩ : ∃ K', (x.1.key.map U8).toArray = K' := ⟨_, rfl⟩
    have sK : Z.size = K'.size := by rw [sZ, ← hK']; simp [hkey]
    have oK : K'.all (·.oneCell') = true := by rw [← hK']; exact all_oneCell_toArray fun v hv => by obtain ⟨_, _, rfl⟩ := List.mem_map.1 hv; rfl
    have iK : (Try.prog.info? 23).map (·.size) = some K'.size := by rw [← sK]; exact iZ
    have hnW := heap_alloc_new W (.cells Z 23)
    obtain ⟨m9, n9⟩ := made_row W 23 Z K'
    have HI := Lib.hid hi
    have HK := Lib.hid hK
    clear hi hK
    simp only [slotArgs, hK']
    gi_wp2_with (with_reducible refine in_store 23 ?_; go_must (refine wpListIn_store_row rfl 23 _ _ rfl W.heap.size K' rfl rfl _ Z hnW iK sK oK ?_))
    exact HK.out _ _ (keepsFrom_below n9) (CellsBut.of_below n9) (WalkB.to HI.out n9) ⟨W.heap.size, by omega, by rw [hK']; exact m9, by rw [hK']⟩
  case body =>
    rintro l pre x a' W hl ⟨r, hr⟩ hi ⟨Bx, hBx, bX, rfl⟩ hlt
    have hkey := hL.key x.1 x.2
    have G := get_any (t.below (WalkB.below hi)) x.1.key hkey (some x.1.val) (has_of t.look.inv hL x.2)
    have c0 := (WalkB.b0 hi).c0
    have h1' : 1 ≤ n - 1 - 1 := by omega
    obtain ⟨K', hK'⟩ : ∃ K', (x.1.key.map U8).toArray = K' := ⟨_, rfl⟩
    have sK : K'.size = 32 := by rw [← hK']; simp [hkey]
    have oK : K'.all (·.oneCell') = true := by rw [← hK']; exact all_oneCell_toArray fun v hv => by obtain ⟨_, _, rfl⟩ := List.mem_map.1 hv; rfl
    have iK : (Try.prog.info? 23).map (·.size) = some K'.size := by rw [sK]; kernel_rfl
    rw [hK'] at G bX ⊢
    obtain ⟨vv, hvv⟩ : ∃ vv, x.1.val = vv := ⟨_, rfl⟩
    rw [hvv] at G ⊢
    have HI := Lib.hid hi
    have HT := Lib.hid t
    have rX : W.heap[Bx]? = some (.cells K' 23 (0, 0)) := bX
    clear hi bX t6 WS6 bt
    gi_wp2_with (with_reducible refine in_load 23 ?_; go_must (refine wpListIn_load_row rfl 23 _ rfl Bx rfl 23 K' (0, 0) _ rX Try.underlying23 rfl iK ?_))
    refine ⟨trivial, (CallsIn.inRound l (callsIn_wide.2 G)).mono ?_⟩
    rintro e W1 ⟨rfl, hb1⟩
    have HI1 := Lib.hid (WalkB.to HI.out hb1)
    have rX1 : W1.heap[Bx]? = some (.cells K' 23 (0, 0)) := (hb1.block Bx (heap_lt rX)).trans rX
    have HKF := Lib.hid (keepsFrom_below (B := W6.heap.size) hb1)
    have HCB := Lib.hid (CellsBut.of_below (F := walkF w) hb1)
    have hlen : L.length ≤ 1048576 := by
      have := hL.len
      have := Tab.cnt_le (fun i => (S i).st == 1) c
      have := t.look.big.2
      unfold Tab.fulls at *
      omega
    have hks : keysOf (pre ++ [x]) = keysOf pre ++ [x.1.key] := by simp [keysOf]
    have hpl : (pre ++ [x]).length = pre.length + 1 := by simp
    have HFIN : ∀ (q : Bool) (W2 W3 : World), WalkB w h stop (pre.length + 1) x.1.key q W3 → q = chainB (keysOf pre ++ [x.1.key]) → WalkI w h stop (pre ++ [x]) W3 := fun q _ W3 k e => by
      unfold WalkI
      rw [hks, lastK_snoc, hpl, ← e]
      exact k
    have HF := Lib.hid HFIN
    have hch : ∀ y, pre ≠ [] → chainB (keysOf pre ++ [y]) = (chainB (keysOf pre) && decide (cmpB (lastK (keysOf pre)) y < 0)) := fun y hne => chainB_snoc _ _ fun e => hne (List.map_eq_nil_iff.1 e)
    have HCH := Lib.hid hch
    have hlk : (lastK (keysOf pre)).length = 32 := by
      have : ∀ l : List (List (BitVec 8)), (∀ k ∈ l, k.length = 32) → (lastK l).length = 32 := by
        intro l
        induction l with
        | nil => intro _; rfl
        | cons a r ih =>
          intro hh
          cases r with
          | nil => exact hh a (by simp)
          | cons b r => exact ih fun k hk => hh k (by simp [hk])
      refine this _ fun k hk => ?_
      unfold keysOf at hk
      obtain ⟨y, _, rfl⟩ := List.mem_map.1 hk
      exact hL.key y.1 y.2
    have LS := less_any (lastK (keysOf pre)) x.1.key hlk hkey W1
    rw [hK'] at LS
    have cn := HI1.out.b2.c0
    have cs := HI1.out.b1.c0
    obtain ⟨LK, hLK⟩ : ∃ LK, ((lastK (keysOf pre)).map U8).toArray = LK := ⟨_, rfl⟩
    have sL : LK.size = K'.size := by rw [← hLK, sK]; simp [hlk]
    have rL : W1.heap[w.heap.size + 1 + 1 + 1]? = some (.cells LK 23 (0, 0)) := by rw [← hLK]; exact HI1.out.b3
    have iL : (Try.prog.info? 23).map (·.size) = some LK.size := by rw [sL]; exact iK
    rw [hLK] at LS
    obtain ⟨d, hd⟩ : ∃ d, decide (cmpB (lastK (keysOf pre)) x.1.key < 0) = d := ⟨_, rfl⟩
    rw [hd] at LS
    have HD := Lib.hid hd
    have hvne : (vv != vv) = false := by simp
    have hmlt : pre.length < 1048576 := by omega
    have HLT := Lib.hid hlt
    clear G rX HI hb1 hks hpl HFIN hch hd hlt
    obtain ⟨m, hm⟩ : ∃ m, pre.length = m := ⟨_, rfl⟩
    have FNX : ∀ (q : Bool) (Wx : World), WalkB w h stop m (lastK (keysOf pre)) q Wx → WalkB w h stop (m + 1) x.1.key q ((Wx.setRow (w.heap.size + 1 + 1 + 1) K').setCell ⟨w.heap.size + 1 + 1, 0, none⟩ (.int .i64 ((m : Int) + 1))) ∧ CellsBut (walkF w) Wx ((Wx.setRow (w.heap.size + 1 + 1 + 1) K').setCell ⟨w.heap.size + 1 + 1, 0, none⟩ (.int .i64 ((m : Int) + 1))) ∧ KeepsFrom W6.heap.size Wx ((Wx.setRow (w.heap.size + 1 + 1 + 1) K').setCell ⟨w.heap.size + 1 + 1, 0, none⟩ (.int .i64 ((m : Int) + 1))) := fun q Wx k => by
      have := WalkB.fin k x.1.key W6.heap.size
      rw [hK'] at this
      exact this
    have H1 : WalkB w h stop m (lastK (keysOf pre)) (chainB (keysOf pre)) W1 := by rw [← hm]; exact HI1.out
    rw [hm] at cn hmlt
    have HM := Lib.hid hm
    have HH1 := Lib.hid H1
    clear hm HI1 H1
    by_cases hm0 : m = 0
    · have hg1 : decide ((m : Int) > 0) = false := decide_eq_false (by omega)
      have hg2 : decide ((0 : Int) < (m : Int)) = false := decide_eq_false (by omega)
      have hg3 : decide (0 < m) = false := decide_eq_false (by omega)
      have hne : pre = [] := List.eq_nil_of_length_eq_zero (HM.out.trans hm0)
      have hcc : chainB (keysOf pre) = chainB (keysOf pre ++ [x.1.key]) := by rw [hne]; rfl
      have HCC := Lib.hid hcc
      clear hm0 hne LS hcc
      gi_wp2_with fail
      refine ⟨trivial, ?_⟩
      have FX := FNX (chainB (keysOf pre)) W1 HH1.out
      obtain ⟨fw, fc, fk⟩ := FX
      have c2 := (RowBox.row_other (b' := w.heap.size + 1 + 1 + 1) (c' := K') HH1.out.b2 (by omega)).c0
      have f2 := (RowBox.row_other (b' := w.heap.size + 1 + 1 + 1) (c' := K') HH1.out.b2 (by omega)).thawed 0
      have c3 := fw.b2.c0
      have c4 := fw.b1.c0
      rw [show (((m + 1 : Nat)) : Int) = (m : Int) + 1 by omega] at c3
      have HFW := Lib.hid fw
      have HFC := Lib.hid fc
      have HFK := Lib.hid fk
      clear FNX fw fc fk
      by_cases hst : (m : Int) + 1 = stop
      · have hsb : ((m : Int) + 1 == stop) = true := by simp [hst]
        have HST := Lib.hid hst
        clear hst
        gi_wp2_with (first
          | (with_reducible refine in_load 23 ?_; refine wpListIn_load_row rfl 23 _ rfl Bx rfl 23 K' (0, 0) _ rX1 Try.underlying23 rfl iK ?_)
          | (with_reducible refine in_store 23 ?_; go_must (refine wpListIn_store_row rfl 23 _ _ rfl (w.heap.size + 1 + 1 + 1) K' rfl rfl _ LK rL iK sL oK ?_)))
        exact ⟨HKF.out.trans HFK.out, HF.out _ W1 _ (by rw [HM.out]; exact HFW.out) (HCC.out), rfl, by rw [List.length_append, List.length_singleton, HM.out, ← HST.out]; omega, by rw [List.length_append, List.length_singleton]; omega⟩
      · have hsb : ((m : Int) + 1 == stop) = false := by simpa using hst
        clear hst
        gi_wp2_with (first
          | (with_reducible refine in_load 23 ?_; refine wpListIn_load_row rfl 23 _ rfl Bx rfl 23 K' (0, 0) _ rX1 Try.underlying23 rfl iK ?_)
          | (with_reducible refine in_store 23 ?_; go_must (refine wpListIn_store_row rfl 23 _ _ rfl (w.heap.size + 1 + 1 + 1) K' rfl rfl _ LK rL iK sL oK ?_)))
        exact ⟨HKF.out.trans HFK.out, HCB.out.trans HFC.out, HF.out _ W1 _ (by rw [HM.out]; exact HFW.out) (HCC.out)⟩
    · have hg1 : decide ((m : Int) > 0) = true := decide_eq_true (by omega)
      have hg2 : decide ((0 : Int) < (m : Int)) = true := decide_eq_true (by omega)
      have hg3 : decide (0 < m) = true := decide_eq_true (by omega)
      have hne : pre ≠ [] := fun e => by rw [e] at HM; exact hm0 HM.out.symm
      have hcc := HCH.out x.1.key hne
      rw [HD.out] at hcc
      have HCC := Lib.hid hcc
      clear hm0 hne hcc
      gi_wp2_with (first
        | (with_reducible refine in_load 23 ?_; refine wpListIn_load_row rfl 23 _ rfl Bx rfl 23 K' (0, 0) _ rX1 Try.underlying23 rfl iK ?_)
        | (with_reducible refine in_load 23 ?_; refine wpListIn_load_row rfl 23 _ rfl (w.heap.size + 1 + 1 + 1) rfl 23 LK (0, 0) _ rL Try.underlying23 rfl iL ?_))
      refine ⟨trivial, (CallsIn.inRound l (callsIn_wide.2 LS)).mono ?_⟩
      rintro e W2 ⟨rfl, hb2⟩
      have HH2 := Lib.hid (HH1.out.to hb2)
      have rX2 : W2.heap[Bx]? = some (.cells K' 23 (0, 0)) := (hb2.block Bx (heap_lt rX1)).trans rX1
      have rL2 : W2.heap[w.heap.size + 1 + 1 + 1]? = some (.cells LK 23 (0, 0)) := (hb2.block _ (heap_lt rL)).trans rL
      have HKF2 := Lib.hid (HKF.out.trans (keepsFrom_below (B := W6.heap.size) hb2))
      have HCB2 := Lib.hid (HCB.out.trans (CellsBut.of_below (F := walkF w) hb2))
      clear rX1 rL cn cs hb2 LS HH1 HKF HCB
      have rX1 := rX2
      have rL := rL2
      clear rX2 rL2
      cases d with
      | true =>
        have HC2 := Lib.hid (show chainB (keysOf pre) = chainB (keysOf pre ++ [x.1.key]) by rw [HCC.out, Bool.and_true])
        have FX := FNX (chainB (keysOf pre)) W2 HH2.out
        obtain ⟨fw, fc, fk⟩ := FX
        have c2 := (RowBox.row_other (b' := w.heap.size + 1 + 1 + 1) (c' := K') HH2.out.b2 (by omega)).c0
        have f2 := (RowBox.row_other (b' := w.heap.size + 1 + 1 + 1) (c' := K') HH2.out.b2 (by omega)).thawed 0
        have c3 := fw.b2.c0
        have c4 := fw.b1.c0
        rw [show (((m + 1 : Nat)) : Int) = (m : Int) + 1 by omega] at c3
        have HFW := Lib.hid fw
        have HFC := Lib.hid fc
        have HFK := Lib.hid fk
        clear FNX fw fc fk
        by_cases hst : (m : Int) + 1 = stop
        · have hsb : ((m : Int) + 1 == stop) = true := by simp [hst]
          have HST := Lib.hid hst
          clear hst
          gi_wp2_with (first
            | (with_reducible refine in_load 23 ?_; refine wpListIn_load_row rfl 23 _ rfl Bx rfl 23 K' (0, 0) _ rX1 Try.underlying23 rfl iK ?_)
            | (with_reducible refine in_store 23 ?_; go_must (refine wpListIn_store_row rfl 23 _ _ rfl (w.heap.size + 1 + 1 + 1) K' rfl rfl _ LK rL iK sL oK ?_)))
          exact ⟨HKF2.out.trans HFK.out, HF.out _ W2 _ (by rw [HM.out]; exact HFW.out) (HC2.out), rfl, by rw [List.length_append, List.length_singleton, HM.out, ← HST.out]; omega, by rw [List.length_append, List.length_singleton]; omega⟩
        · have hsb : ((m : Int) + 1 == stop) = false := by simpa using hst
          clear hst
          gi_wp2_with (first
            | (with_reducible refine in_load 23 ?_; refine wpListIn_load_row rfl 23 _ rfl Bx rfl 23 K' (0, 0) _ rX1 Try.underlying23 rfl iK ?_)
            | (with_reducible refine in_store 23 ?_; go_must (refine wpListIn_store_row rfl 23 _ _ rfl (w.heap.size + 1 + 1 + 1) K' rfl rfl _ LK rL iK sL oK ?_)))
          exact ⟨HKF2.out.trans HFK.out, HCB2.out.trans HFC.out, HF.out _ W2 _ (by rw [HM.out]; exact HFW.out) (HC2.out)⟩
      | false =>
        have HC2 := Lib.hid (show false = chainB (keysOf pre ++ [x.1.key]) by rw [HCC.out, Bool.and_false])
        have q4 := HH2.out.b4.c0
        have q5 := HH2.out.b4.thawed 0
        have HH3 := Lib.hid HH2.out.bad
        have HKF3 := Lib.hid (HKF2.out.trans ((KeepsOthers.setCell W2 ⟨w.heap.size + 1 + 1 + 1 + 1, 0, none⟩ (.bool false)).from _))
        have HCB3 := Lib.hid (HCB2.out.trans (CellsBut.set W2 (w.heap.size + 1 + 1 + 1 + 1) 0 (.bool false) (.inr (.inr rfl))))
        have rX3 : (W2.setCell ⟨w.heap.size + 1 + 1 + 1 + 1, 0, none⟩ (.bool false)).heap[Bx]? = some (.cells K' 23 (0, 0)) := RowBox.set_other rX1 (by omega) _
        have rL3 : (W2.setCell ⟨w.heap.size + 1 + 1 + 1 + 1, 0, none⟩ (.bool false)).heap[w.heap.size + 1 + 1 + 1]? = some (.cells LK 23 (0, 0)) := RowBox.set_other rL (by omega) _
        clear rX1 rL
        have rX1 := rX3
        have rL := rL3
        clear rX3 rL3
        generalize hW3 : W2.setCell ⟨w.heap.size + 1 + 1 + 1 + 1, 0, none⟩ (.bool false) = W3 at *
        have HW3 := hW3
        clear hW3
        have FX := FNX false W3 HH3.out
        obtain ⟨fw, fc, fk⟩ := FX
        have c2 := (RowBox.row_other (b' := w.heap.size + 1 + 1 + 1) (c' := K') HH3.out.b2 (by omega)).c0
        have f2 := (RowBox.row_other (b' := w.heap.size + 1 + 1 + 1) (c' := K') HH3.out.b2 (by omega)).thawed 0
        have c3 := fw.b2.c0
        have c4 := fw.b1.c0
        rw [show (((m + 1 : Nat)) : Int) = (m : Int) + 1 by omega] at c3
        have HFW := Lib.hid fw
        have HFC := Lib.hid fc
        have HFK := Lib.hid fk
        clear FNX fw fc fk
        by_cases hst : (m : Int) + 1 = stop
        · have hsb : ((m : Int) + 1 == stop) = true := by simp [hst]
          have HST := Lib.hid hst
          clear hst
          gi_wp2_with (first
            | (with_reducible refine in_load 23 ?_; refine wpListIn_load_row rfl 23 _ rfl Bx rfl 23 K' (0, 0) _ rX1 Try.underlying23 rfl iK ?_)
            | (with_reducible refine in_store 23 ?_; go_must (refine wpListIn_store_row rfl 23 _ _ rfl (w.heap.size + 1 + 1 + 1) K' rfl rfl _ LK rL iK sL oK ?_)))
          exact ⟨HKF3.out.trans HFK.out, HF.out _ W3 _ (by rw [HM.out]; exact HFW.out) (HC2.out), rfl, by rw [List.length_append, List.length_singleton, HM.out, ← HST.out]; omega, by rw [List.length_append, List.length_singleton]; omega⟩
        · have hsb : ((m : Int) + 1 == stop) = false := by simpa using hst
          clear hst
          gi_wp2_with (first
            | (with_reducible refine in_load 23 ?_; refine wpListIn_load_row rfl 23 _ rfl Bx rfl 23 K' (0, 0) _ rX1 Try.underlying23 rfl iK ?_)
            | (with_reducible refine in_store 23 ?_; go_must (refine wpListIn_store_row rfl 23 _ _ rfl (w.heap.size + 1 + 1 + 1) K' rfl rfl _ LK rL iK sL oK ?_)))
          exact ⟨HKF3.out.trans HFK.out, HCB3.out.trans HFC.out, HF.out _ W3 _ (by rw [HM.out]; exact HFW.out) (HC2.out)⟩
  case done =>
    rintro D ys W hD rfl hi hK
    have cn := (WalkB.b2 hi).c0
    have cq := (WalkB.b4 hi).c0
    have hch : chainB (keysOf L.attach) = true := chainB_up _ (by
      unfold keysOf
      rw [List.pairwise_map]
      have := hL.up
      rw [← List.attach_map_subtype_val L, List.pairwise_map] at this
      exact this)
    rw [hch] at cq
    have hlen : L.attach.length = ng := by rw [List.length_attach, hL.len]; exact t.nf
    rw [hlen] at cn
    gi_wp2_with fail
    gi_region
    gi_wp2_with fail
    have hKd : W.drew.heap[D]? = some (.deferred (some [])) := hK
    refine ⟨by simp, .inl ⟨_, _, rfl, run_takeDeferred hKd, ?_⟩⟩
    exact ⟨_, results_tmp2 rfl _ _ _, ⟨ng, rfl, .inl rfl⟩, ((WalkB.below hi).drew).trans (belowK_b (w := w) (Nat.le_refl _) W.drew D _ _ (by omega) hKd rfl rfl)⟩
  case stop =>
    rintro D cc pre W hD hpre ⟨hi, rfl, hst, h1⟩ hK
    have cn := (WalkB.b2 hi).c0
    have cq := (WalkB.b4 hi).c0
    have hch : chainB (keysOf pre) = true := chainB_up _ (by
      unfold keysOf
      rw [List.pairwise_map]
      have := hL.up
      rw [← List.attach_map_subtype_val L, List.pairwise_map] at this
      exact this.sublist hpre.sublist)
    rw [hch] at cq
    obtain ⟨m, hm⟩ : ∃ m, pre.length = m := ⟨_, rfl⟩
    rw [hm] at cn hst h1
    have HST := Lib.hid hst
    clear hst
    gi_wp2_with fail
    gi_region
    gi_wp2_with fail
    have hKd : W.drew.heap[D]? = some (.deferred (some [])) := hK
    refine ⟨by simp, .inl ⟨_, _, rfl, run_takeDeferred hKd, ?_⟩⟩
    exact ⟨_, results_tmp2 rfl _ _ _, ⟨m, rfl, .inr ⟨HST.out, h1⟩⟩, ((WalkB.below hi).drew).trans (belowK_b (w := w) (Nat.le_refl _) W.drew D _ _ (by omega) hKd rfl rfl)⟩
end Go.Proofs.Ytahmnpbfjfllmaa
