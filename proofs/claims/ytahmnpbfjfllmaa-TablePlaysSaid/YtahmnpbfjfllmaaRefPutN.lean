/- The document's own Put, where the key is not there yet. -/
import Derived.Test.YtahmnpbfjfllmaaRefPut
namespace Go.Proofs.Ytahmnpbfjfllmaa
open Go Go.RowKit

/-- What has been laid of the pairs so far. -/
def NewInv (L : List KV) (k : List (BitVec 8)) (v : Int) (i : Nat) (dn : Bool) (O : List KV) : Prop :=
  (dn = false ∧ O = L.take i ∧ ∀ m (h : m < L.length), m < i → ¬ cmpB k L[m].key < 0) ∨
  (dn = true ∧ ∃ j, j < i ∧ (∀ m (h : m < L.length), m < j → ¬ cmpB k L[m].key < 0) ∧ (∀ h : j < L.length, cmpB k L[j].key < 0) ∧ O = L.take j ++ ⟨k, v⟩ :: (L.take i).drop j)
def NewRel (w : World) (B : Nat) (L : List KV) (k : List (BitVec 8)) (v : Int) (o d x : Value) (wr : World) : Prop :=
  ∃ (i : Nat) (O : List KV) (dn : Bool), i ≤ L.length ∧ x = .int .i64 i ∧ d = .bool dn ∧ OwnsC kvC 33 wr B 67 o O ∧ Below B w wr ∧ NewInv L k v i dn O
section
variable {L : List KV} {k : List (BitVec 8)} {v : Int} {i : Nat} {O : List KV}
theorem NewInv.len {dn : Bool} (h : NewInv L k v i dn O) : O.length ≤ i + 1 := by
  rcases h with ⟨_, rfl, _⟩ | ⟨_, j, hj, _, _, rfl⟩
  · rw [List.length_take]; omega
  · rw [List.length_append, List.length_cons, List.length_drop, List.length_take, List.length_take]; omega
theorem NewInv.more (h : NewInv L k v i true O) (hi : i < L.length) : NewInv L k v (i + 1) true (O ++ [L[i]]) := by
  rcases h with ⟨h, _⟩ | ⟨_, j, hj, h1, h2, rfl⟩
  · cases h
  · refine .inr ⟨rfl, j, by omega, h1, h2, ?_⟩
    rw [List.take_succ_eq_append_getElem hi, List.drop_append_of_le_length (by rw [List.length_take]; omega), List.append_assoc, List.cons_append]
theorem NewInv.past (h : NewInv L k v i false O) (hi : i < L.length) (hn : ¬ cmpB k L[i].key < 0) : NewInv L k v (i + 1) false (O ++ [L[i]]) := by
  rcases h with ⟨_, rfl, h1⟩ | ⟨h, _⟩
  · refine .inl ⟨rfl, (List.take_succ_eq_append_getElem hi).symm, fun m hm hmi => ?_⟩
    by_cases e : m = i
    · subst e; exact hn
    · exact h1 m hm (by omega)
  · cases h
theorem NewInv.here (h : NewInv L k v i false O) (hi : i < L.length) (hn : cmpB k L[i].key < 0) : NewInv L k v (i + 1) true ((O ++ [⟨k, v⟩]) ++ [L[i]]) := by
  rcases h with ⟨_, rfl, h1⟩ | ⟨h, _⟩
  · refine .inr ⟨rfl, i, by omega, fun m hm hmi => h1 m hm hmi, fun _ => hn, ?_⟩
    rw [List.take_succ_eq_append_getElem hi, List.drop_append_of_le_length (by rw [List.length_take]; omega), List.drop_of_length_le (by rw [List.length_take]; omega)]
    simp
  · cases h
theorem NewInv.done (h : NewInv L k v L.length true O) (hno : ∀ p ∈ L, p.key ≠ k) : PutSpec L k v O := by
  rcases h with ⟨h, _⟩ | ⟨_, j, hj, h1, h2, rfl⟩
  · cases h
  · exact .inr ⟨hno, j, by omega, fun m hm hmj => h1 m hm hmj, h2, by rw [List.take_of_length_le (Nat.le_refl _)]⟩
theorem NewInv.last (h : NewInv L k v L.length false O) (hno : ∀ p ∈ L, p.key ≠ k) : PutSpec L k v (O ++ [⟨k, v⟩]) := by
  rcases h with ⟨_, rfl, h1⟩ | ⟨h, _⟩
  · refine .inr ⟨hno, L.length, Nat.le_refl _, fun m hm hmj => h1 m hm hmj, fun h => by omega, ?_⟩
    rw [List.drop_of_length_le (Nat.le_refl _)]
  · cases h
end
theorem putSpec_key {L L' : List KV} {k : List (BitVec 8)} {v : Int} (h : PutSpec L k v L') (hk : k.length = 32) (hL : ∀ p ∈ L, p.key.length = 32) : ∀ p ∈ L', p.key.length = 32 := by
  intro p hp
  rcases h with ⟨i, hi, _, rfl⟩ | ⟨_, j, hj, _, _, rfl⟩
  · rcases List.mem_or_eq_of_mem_set hp with hp | rfl
    · exact hL p hp
    · exact hk
  · rcases List.mem_append.1 hp with hp | hp
    · exact hL p (List.mem_of_mem_take hp)
    · rcases List.mem_cons.1 hp with rfl | hp
      · exact hk
      · exact hL p (List.mem_of_mem_drop hp)
set_option maxHeartbeats 4000000 in
set_option maxRecDepth 40000 in
theorem rput_new {w : World} {x : Nat} {a : Option Addr} {cp : Nat} {L : List KV} {cap dead : Nat} (h : RefAt w x a cp L cap dead) (k : List (BitVec 8)) (hk : k.length = 32) (v : Int) (hno : ∀ p ∈ L, p.key ≠ k) (hL : L.length ≤ 90000) (hcap : cap ≤ 1048576) (hdead : dead ≤ 1048576) :
    Calls Try.prog 33 #[.pointer (some ⟨x, 0, none⟩), .agg (k.map U8).toArray, .int .i64 v] w (RPutPost w x L cap dead k v) := by
  have row : (w.alloc (.cells (k.map U8).toArray 23)).heap[w.heap.size]? = some (.cells (k.map U8).toArray 23 (0, 0)) := heap_alloc_new w _
  have hb : Below w.heap.size w (w.alloc (.cells (k.map U8).toArray 23)) := (Below.refl _ _).alloc (Nat.le_refl _) _
  have h1 := h.below hb
  have hik : (Try.prog.info? 23).map (·.size) = some (k.map U8).length := by rw [List.length_map, hk]; kernel_rfl
  have hika : (Try.prog.info? 23).map (·.size) = some (k.map U8).toArray.size := by rw [List.size_toArray]; exact hik
  have AT := at_any h1 k hk
  have hfit := h.rows.fits
  have hroom := h.rows.room
  have hbuilt := built_kv k hk v
  have hxs := heap_lt h.head
  have hkk := Lib.hid hk
  have HKV := Lib.hid (length_kvC (p := ⟨k, v⟩) hk)
  have HONE := Lib.hid (one_kvC ⟨k, v⟩)
  have LESSA := fun (m : List (BitVec 8)) (hm : m.length = 32) (w : World) => refLess_any k m hk hm w
  clear h hk
  generalize hCV : kvC ⟨k, v⟩ = CV at *
  have HCV := Lib.hid hCV
  clear hCV
  generalize hKE : k.map U8 = KL at *
  clear hKE
  go_enter Try.func33, Try.ntmps33
  go_wp2_with (with_reducible refine at_load 23 ?_; refine wpList_load_row rfl 23 _ rfl w.heap.size rfl _ KL.toArray _ _ row Try.underlying23 rfl hika ?_)
  generalize w.alloc (.cells KL.toArray 23) = w1 at *
  refine AT.mono ?_
  rintro e w2 ⟨⟨r, rfl, hat⟩, hb2⟩
  obtain rfl : r = -1 := by
    rcases hat with ⟨q, _⟩ | ⟨i, hi, _, e⟩
    · exact q
    · exact (hno _ (List.getElem_mem hi) e).elim
  have H2 := Lib.hid (h1.below hb2)
  have row2 := (hb2.block _ (heap_lt row)).trans row
  have HB2 := Lib.hid (hb.trans (hb2.mono hb.size))
  have hx2 : x < w2.heap.size := heap_lt H2.out.head
  have HNO := Lib.hid hno
  clear AT h1 hat hb hb2 row hno
  go_wp2_with fail
  go_loopw [7, 8, 9] (fun o d x wr => NewRel w2 w2.heap.size L k v o d x wr) (fun _ _ x _ => L.length - (intOf x).toNat)
  case atStart => exact ⟨0, [], false, Nat.zero_le _, rfl, rfl, ownsC_nil _ _ _, Below.refl _ _, .inl ⟨rfl, by simp, fun m hm h0 => by omega⟩⟩
  case round =>
    obtain ⟨i, O, dn, hi, rfl, rfl, HO, hbr, hinv⟩ := hrel
    have Hr := H2.out.below hbr
    have c0r := Hr.head.c0
    obtain ⟨av, cv, rfl, _, _⟩ := HO.form
    have hszr := hbr.size
    have holen := hinv.len
    have HINV := Lib.hid hinv
    clear hinv
    by_cases hlt : i < L.length
    · have hne : ((i : Int) == -1) = false := by rw [beq_eq_false_iff_ne]; omega
      have hol : O.length + 1 ≤ 1048576 := by omega
      have hol2 : (O ++ [(⟨k, v⟩ : KV)]).length + 1 ≤ 1048576 := by rw [List.length_append, List.length_singleton]; omega
      obtain ⟨b0, off, rfl, hrows⟩ := Hr.rows.rows.resolve_left (fun e => by rw [e] at hlt; simp at hlt)
      have hC0 := hrows i hlt
      have hkey := Hr.key L[i] (List.getElem_mem hlt)
      have hkr := rangeAt_part hC0 0 32
      rw [kvC_key hkey, Nat.add_zero] at hkr
      have hiM : (Try.prog.info? 23).map (·.size) = some (L[i].key.map U8).length := by rw [List.length_map, hkey]; kernel_rfl
      have HLC := Lib.hid (length_kvC hkey)
      have hiC : (Try.prog.info? 67).map (·.size) = some (kvC L[i]).length := by rw [HLC.out]; kernel_rfl
      have HONEi := Lib.hid (one_kvC L[i])
      have kd : Keeps wr wr.drew := Keeps.drewN wr 1
      have ne : Nonempty (Of (Keeps wr)) := of_ne kd
      have hb3 := hbr.trans ((show Below wr.heap.size wr wr.drew from (Below.refl _ _).drew).mono hbr.size)
      have hC3 : wr.drew.rangeAt b0 (off + i * 33) (kvC L[i]) := hC0
      have c03 : wr.drew.cell? ⟨x, 0, none⟩ = some (.slice (some ⟨b0, off, none⟩) L.length cp) := c0r
      have rowr := (hbr.block _ (heap_lt row2)).trans row2
      have rk := rangeAt_row rowr
      have hout : ∀ dn' O', NewInv L k v (i + 1) dn' O' → NewInv L k v (i + 1) dn' O' := fun _ _ h => h
      have HMORE := Lib.hid (fun h : NewInv L k v i true O => h.more hlt)
      have HPAST := Lib.hid (fun h : NewInv L k v i false O => h.past hlt)
      have HHERE := Lib.hid (fun h : NewInv L k v i false O => h.here hlt)
      have HO := Lib.hid HO
      have HBR := Lib.hid hbr
      have HB3 := Lib.hid hb3
      have LESS := LESSA L[i].key hkey
      have hx8 : x < wr.heap.size := heap_lt Hr.head
      clear Hr hbr hrows hkey hout hb3 LESSA row2
      generalize hLi : L[i] = li at *
      have HLI := Lib.hid hLi
      clear hLi
      generalize hC : kvC li = C at *
      have HC := Lib.hid hC
      clear hC
      generalize li.key.map U8 = M at *
      cases dn with
      | true =>
          have HO3 := Lib.hid (HO.out.drewN 1)
          rw [show wr.drewN 1 = wr.drew from rfl] at HO3
          go_wp2_with fail
          refine wp_region_plan [([0, 1, 2, 3, 4, 5, 6, 7, 8, 9, 10, 11, 12, 13, 14, 15], some 16), ([17], none)] (fun w' => ∃ y : Of (Keeps wr), w' = y.to) (by kernel_rfl) (by kernel_rfl) (fun _ _ d _ _ h => by cases d <;> exact h) (of_mk kd) ?_
          refine plan_some (show wpQuiet _ _ _ _ (_ :: _ :: _ :: _ :: _ :: _ :: _ :: _ :: _ :: _ :: _ :: _ :: _ :: _ :: _ :: _ :: []) _ from ?_)
          repeat (first
            | go_big_quiet_step (fail)
            | quiet_step (fail))
          refine wpQuiet_nil (show wpList _ _ _ (_ :: []) _ _ from ?_)
          go_wp2_with fail
          refine late_normal (fun _ h => h) (of_mk kd) ?_
          refine plan_none (show wpQuiet _ _ _ _ (_ :: []) _ from ?_)
          repeat (first
            | go_big_quiet_step (fail)
            | quiet_step (fail))
          refine wpQuiet_nil ?_
          refine plan_nil ?_
          clear kd ne c0r hC0 hkr rk rowr LESS
          generalize wr.drew = w3 at *
          go_wp2_with (first
            | (with_reducible refine at_load 67 ?_; go_must (refine wpList_load_mid rfl 67 _ rfl b0 (off + i * 33) rfl C _ hC3 Try.underlying67 rfl hiC ?_))
            | (with_reducible refine at_slit 61 ?_; go_must (refine wpList_lit_append Try.underlying61 kv_info rfl (by decide) (by decide) rfl _ rfl rfl _ _ rfl w2.heap.size _ O HO3.out li C HC.out rfl rfl rfl HONEi.out HLC.out hol (by decide) HB3.out.size ?_)))
          intro v5 w5 HO5 T5 hv5
          have HB5 := Lib.hid (touch_own HB3.out (Nat.le_refl _) HO3.out T5)
          have HO5 := Lib.hid HO5
          clear T5 hv5 hC3 c03
          go_wp2
          go_roundw
          case rel => exact ⟨i + 1, _, true, by omega, by go_num, rfl, HO5.out, HB5.out, HMORE.out HINV.out⟩
          case measure => simp [intOf]; omega
      | false =>
          have c0y : ∀ y : Of (Keeps wr), y.to.cell? ⟨x, 0, none⟩ = some (.slice (some ⟨b0, off, none⟩) L.length cp) := fun y => y.ok _ _ c0r
          have r1 : ∀ W, Keeps wr W → W.rangeAt w.heap.size 0 KL := fun W hW o v hv => hW _ _ (rk o v hv)
          have r2 : ∀ W, Keeps wr W → W.rangeAt b0 (off + i * 33) M := fun W hW o v hv => hW _ _ (hkr o v hv)
          by_cases hless : cmpB k li.key < 0
          · have hlb : decide (cmpB k li.key < 0) = true := decide_eq_true hless
            rw [hlb] at LESS
            have HHERE2 := Lib.hid (HHERE.out HINV.out hless)
            clear hlb hless
            go_wp2_with fail
            refine wp_region_plan [([0, 1, 2, 3, 4, 5, 6, 7, 8, 9, 10, 11, 12, 13, 14, 15], some 16), ([17], none)] (fun w' => ∃ y : Of (Keeps wr), w' = y.to) (by kernel_rfl) (by kernel_rfl) (fun _ _ d _ _ h => by cases d <;> exact h) (of_mk kd) ?_
            refine plan_some (show wpQuiet _ _ _ _ (_ :: _ :: _ :: _ :: _ :: _ :: _ :: _ :: _ :: _ :: _ :: _ :: _ :: _ :: _ :: _ :: []) _ from ?_)
            repeat (first
              | (go_big_quiet_want; refine quiet_mid_of (fun w' e => (show w'.rangeAt w.heap.size 0 KL from by obtain ⟨y, rfl⟩ := e; exact r1 _ y.ok)) Try.underlying23 rfl hik rfl rfl ?_; simp only [Act.put, List.setIfInBounds_toArray, List.set_cons_succ, List.set_cons_zero]; go_big_quiet_on)
              | (go_big_quiet_want; refine quiet_mid_of (fun w' e => (show w'.rangeAt b0 (off + i * 33) M from by obtain ⟨y, rfl⟩ := e; exact r2 _ y.ok)) Try.underlying23 rfl hiM rfl rfl ?_; simp only [Act.put, List.setIfInBounds_toArray, List.set_cons_succ, List.set_cons_zero]; go_big_quiet_on)
              | go_big_quiet_step (fail)
              | quiet_step (fail))
            refine wpQuiet_nil (show wpList _ _ _ (_ :: []) _ _ from ?_)
            go_wp2_with fail
            refine (LESS _).mono ?_
            rintro en w6 ⟨rfl, hb6⟩
            have kd6 : Keeps wr w6 := fun q v hq => Keeps.below hb6 _ _ (kd q v hq)
            have HB36 := Lib.hid ((show Below wr.heap.size wr w6 from (Below.refl _ _).drew.trans hb6))
            go_wp2_with fail
            refine late_normal (fun _ h => h) (of_mk kd6) ?_
            refine plan_none (show wpQuiet _ _ _ _ (_ :: []) _ from ?_)
            repeat (first
              | go_big_quiet_step (fail)
              | quiet_step (fail))
            refine wpQuiet_nil ?_
            refine plan_nil ?_
            clear kd ne c0r hkr rk c0y r1 r2 LESS hC3 c03
            have b36 := HB36.out
            have HB6 := Lib.hid (HBR.out.trans (b36.mono HBR.out.size))
            have HO6 := Lib.hid (HO.out.below b36)
            have row6 := (b36.block _ (heap_lt rowr)).trans rowr
            have hC6 : w6.rangeAt b0 (off + i * 33) C := fun o v hv => kd6 _ _ (hC0 o v hv)
            have H6 := Lib.hid (H2.out.below HB6.out)
            clear b36 kd6 hb6 hC0 rowr
            go_wp2_with (first
            | (with_reducible refine at_load 23 ?_; go_must (refine wpList_load_row rfl 23 _ rfl w.heap.size rfl _ KL.toArray _ _ row6 Try.underlying23 rfl hika ?_))
            | (with_reducible refine at_build 67 ?_; go_must (refine wpList_built' rfl 67 _ rfl CV.toArray (by go_simp) ?_))
            | (with_reducible refine at_slit 61 ?_; go_must (refine wpList_lit_append Try.underlying61 kv_info rfl (by decide) (by decide) rfl _ rfl rfl _ _ rfl w2.heap.size _ O HO6.out ⟨k, v⟩ CV HCV.out rfl rfl rfl HONE.out HKV.out hol (by decide) HB6.out.size ?_)))
            intro v5 w5 HO5 T5 hv5
            have HB5 := Lib.hid (touch_own HB6.out (Nat.le_refl _) HO6.out T5)
            have H5 := H2.out.below HB5.out
            have c05 := H5.head.c0
            obtain ⟨b0', off', e0, hrows5⟩ := H5.rows.rows.resolve_left (fun e => by rw [e] at hlt; simp at hlt)
            injection e0 with e0
            injection e0 with e0 e0'
            subst e0 e0'
            have hC5 := hrows5 i hlt
            obtain ⟨O2, hO2⟩ : ∃ O2, O ++ [(⟨k, v⟩ : KV)] = O2 := ⟨_, rfl⟩
            rw [hO2] at HO5 HHERE2 hol2
            clear hO2
            have HO5 := Lib.hid HO5
            obtain ⟨av5, cv5, rfl, _, _⟩ := HO5.out.form
            rw [HLI.out, HC.out] at hC5
            clear T5 hv5 hC6 H5 hrows5 row6
            go_wp2_with (first
            | (with_reducible refine at_load 67 ?_; go_must (refine wpList_load_mid rfl 67 _ rfl b0 (off + i * 33) rfl C _ hC5 Try.underlying67 rfl hiC ?_))
            | (with_reducible refine at_slit 61 ?_; go_must (refine wpList_lit_append Try.underlying61 kv_info rfl (by decide) (by decide) rfl _ rfl rfl _ _ rfl w2.heap.size _ _ HO5.out li C HC.out rfl rfl rfl HONEi.out HLC.out hol2 (by decide) HB5.out.size ?_)))
            intro v7 w7 HO7 T7 hv7
            have HB7 := Lib.hid (touch_own HB5.out (Nat.le_refl _) HO5.out T7)
            have HO7 := Lib.hid HO7
            clear T7 hv7 hC5 c05
            go_wp2
            go_roundw
            case rel => exact ⟨i + 1, _, true, by omega, by go_num, rfl, HO7.out, HB7.out, HHERE2.out⟩
            case measure => simp [intOf]; omega
          · have hlb : decide (cmpB k li.key < 0) = false := decide_eq_false hless
            rw [hlb] at LESS
            have HPAST2 := Lib.hid (HPAST.out HINV.out hless)
            clear hlb hless
            go_wp2_with fail
            refine wp_region_plan [([0, 1, 2, 3, 4, 5, 6, 7, 8, 9, 10, 11, 12, 13, 14, 15], some 16), ([17], none)] (fun w' => ∃ y : Of (Keeps wr), w' = y.to) (by kernel_rfl) (by kernel_rfl) (fun _ _ d _ _ h => by cases d <;> exact h) (of_mk kd) ?_
            refine plan_some (show wpQuiet _ _ _ _ (_ :: _ :: _ :: _ :: _ :: _ :: _ :: _ :: _ :: _ :: _ :: _ :: _ :: _ :: _ :: _ :: []) _ from ?_)
            repeat (first
              | (go_big_quiet_want; refine quiet_mid_of (fun w' e => (show w'.rangeAt w.heap.size 0 KL from by obtain ⟨y, rfl⟩ := e; exact r1 _ y.ok)) Try.underlying23 rfl hik rfl rfl ?_; simp only [Act.put, List.setIfInBounds_toArray, List.set_cons_succ, List.set_cons_zero]; go_big_quiet_on)
              | (go_big_quiet_want; refine quiet_mid_of (fun w' e => (show w'.rangeAt b0 (off + i * 33) M from by obtain ⟨y, rfl⟩ := e; exact r2 _ y.ok)) Try.underlying23 rfl hiM rfl rfl ?_; simp only [Act.put, List.setIfInBounds_toArray, List.set_cons_succ, List.set_cons_zero]; go_big_quiet_on)
              | go_big_quiet_step (fail)
              | quiet_step (fail))
            refine wpQuiet_nil (show wpList _ _ _ (_ :: []) _ _ from ?_)
            go_wp2_with fail
            refine (LESS _).mono ?_
            rintro en w6 ⟨rfl, hb6⟩
            have kd6 : Keeps wr w6 := fun q v hq => Keeps.below hb6 _ _ (kd q v hq)
            have HB36 := Lib.hid ((show Below wr.heap.size wr w6 from (Below.refl _ _).drew.trans hb6))
            go_wp2_with fail
            refine late_normal (fun _ h => h) (of_mk kd6) ?_
            refine plan_none (show wpQuiet _ _ _ _ (_ :: []) _ from ?_)
            repeat (first
              | go_big_quiet_step (fail)
              | quiet_step (fail))
            refine wpQuiet_nil ?_
            refine plan_nil ?_
            clear kd ne c0r hkr rk c0y r1 r2 LESS hC3 c03
            have b36 := HB36.out
            have HB6 := Lib.hid (HBR.out.trans (b36.mono HBR.out.size))
            have HO6 := Lib.hid (HO.out.below b36)
            have hC6 : w6.rangeAt b0 (off + i * 33) C := fun o v hv => kd6 _ _ (hC0 o v hv)
            have c06 := (H2.out.below HB6.out).head.c0
            clear b36 kd6 hb6 hC0 rowr
            go_wp2_with (first
            | (with_reducible refine at_load 67 ?_; go_must (refine wpList_load_mid rfl 67 _ rfl b0 (off + i * 33) rfl C _ hC6 Try.underlying67 rfl hiC ?_))
            | (with_reducible refine at_slit 61 ?_; go_must (refine wpList_lit_append Try.underlying61 kv_info rfl (by decide) (by decide) rfl _ rfl rfl _ _ rfl w2.heap.size _ O HO6.out li C HC.out rfl rfl rfl HONEi.out HLC.out hol (by decide) HB6.out.size ?_)))
            intro v5 w5 HO5 T5 hv5
            have HB5 := Lib.hid (touch_own HB6.out (Nat.le_refl _) HO6.out T5)
            have HO5 := Lib.hid HO5
            clear T5 hv5 hC6 c06
            go_wp2
            go_roundw
            case rel => exact ⟨i + 1, _, false, by omega, by go_num, rfl, HO5.out, HB5.out, HPAST2.out⟩
            case measure => simp [intOf]; omega
    · obtain rfl : i = L.length := by omega
      have hhad : ¬ ∃ p ∈ L, p.key = k := fun ⟨p, hp, e⟩ => HNO.out p hp e
      have HHAD := Lib.hid hhad
      clear hhad Hr
      cases dn with
      | true =>
        have SPEC := Lib.hid (HINV.out.done HNO.out)
        have hol : O.length = L.length + 1 := (putSpec_len SPEC.out).2 HHAD.out
        have HOX := Lib.hid HO
        have HBX := Lib.hid hbr
        clear HO hbr c0r
        have HR := Lib.hid (H2.out.below HBX.out).head
        have c0x := HR.out.c0
        have c1x := HR.out.c1
        have c2x := HR.out.c2
        go_wp2_with fail
        go_quiet (fail)
        have td : Touch (fun _ => False) wr (wr.drewN nq) := (Touch.refl _ _).drewN nq
        have HH3 := Lib.hid (HR.out.touch td id)
        have HO3 := Lib.hid (HOX.out.drewN nq)
        have HB3 := Lib.hid (below_drewN HBX.out nq)
        clear td c0x c1x c2x
        generalize wr.drewN nq = w3 at *
        have hx3 : x < w3.heap.size := heap_lt HH3.out
        have fin : ∀ (av : Option Addr) (cv cap' dead' : Nat) (wf : World), RHead wf x av O.length cv cap' dead' → RowsC kvC 33 wf av cv O → Touch (fun y => y = x) w3 wf → (∀ ad, av = some ad → w2.heap.size ≤ ad.block ∧ ad.block < w3.heap.size) → Tab.PutNums cap L.length dead cap' O.length dead' (∃ p ∈ L, p.key = k) → RPutPost w x L cap dead k v (.returned (.tuple #[])) wf := by
          intro av cv cap' dead' wf q1 q2 q3 q4 q5
          refine ⟨rfl, av, cv, O, cap', dead', ⟨q1, q2, fun p hp => ?_, fun ad e => ⟨?_, ?_⟩⟩, SPEC.out, q5, fun ad e => Nat.le_trans HB2.out.size (q4 ad e).1, ?_⟩
          · exact putSpec_key SPEC.out hkk.out H2.out.key p hp
          · have := (q4 ad e).1; omega
          · have := (q4 ad e).2; have := q3.size; omega
          · exact (Touch.of_below (HB2.out.trans (HB3.out.mono HB2.out.size))).trans q3
        have HFIN := Lib.hid fin
        clear fin
        obtain ⟨ax, cx, ex, RX, ownX⟩ := HO3.out.form
        injection ex with ex1 _ ex3
        subst ex1 ex3
        have hbw : ∀ ad, av = some ad → w2.heap.size ≤ ad.block ∧ ad.block < w3.heap.size := fun ad e => by
          rcases ownX with ⟨_, e2, _⟩ | ⟨gb, e2, _, q1, q2, _⟩
          · rw [e2] at e; cases e
          · rw [e2] at e; injection e with e; subst e; exact ⟨q1, q2⟩
        have hap : ∀ ad, av = some ad → ad.block ≠ x := fun ad e => by have := (hbw ad e).1; omega
        have HBW := Lib.hid hbw
        have HAP := Lib.hid hap
        have HRX := Lib.hid RX
        clear hbw hap RX ownX
        by_cases hbig : 3 * cap < 4 * (L.length + dead + 1)
        · have SL := slots_any w3 (L.length + 1) (by omega)
          rw [show ((L.length + 1 : Nat) : Int) = (L.length : Int) + 1 by omega] at SL
          rw [show decide (3 * (cap : Int) < 4 * ((L.length : Int) + dead + 1)) = true by simp; omega]
          have c0x := HH3.out.c0
          go_wp2_with fail
          refine SL.mono ?_
          rintro e w' ⟨⟨c', rfl, hsz⟩, rfl⟩
          have h1 := HH3.out.set1 c'
          have h2 := h1.set2 0
          rw [show (((0 : Nat)) : Int) = 0 from rfl] at h2
          have h3 := h2.set0 av O.length cv
          have x1 := HH3.out.c1
          have t1 := HH3.out.thawed
          have x2 := h1.c2
          have t2 := h1.thawed
          have x3 := h2.c0
          have t3 := h2.thawed
          have TS1 : Touch (fun y => y = x) w3 (w3.setCell ⟨x, 1, none⟩ (.int .i64 c')) := Touch.set (F := fun y => y = x) _ x 1 _ rfl
          have TS2 := TS1.trans (Touch.set (F := fun y => y = x) (w3.setCell ⟨x, 1, none⟩ (.int .i64 c')) x 2 (.int .i64 0) rfl)
          have TS := TS2.trans (Touch.set (F := fun y => y = x) _ x 0 (.slice av O.length cv) rfl)
          have HTS := Lib.hid TS
          have H3 := Lib.hid h3
          have HSZ := Lib.hid hsz
          rw [hol] at HTS H3
          clear SL h1 h2 h3 TS1 TS2 TS c0x hsz
          go_wp2_with fail
          refine bodyPost_end (results_none rfl _ _ _) rfl ?_
          refine HFIN.out av cv c' 0 _ (by rw [hol]; exact H3.out) (HRX.out.touch HTS.out HAP.out) HTS.out HBW.out ⟨fun q => (HHAD.out q).elim, fun _ => ⟨hol, fun q => by omega, fun _ => ⟨HSZ.out, rfl⟩⟩⟩
        · rw [show decide (3 * (cap : Int) < 4 * ((L.length : Int) + dead + 1)) = false by simp; omega]
          have h3 := HH3.out.set0 av O.length cv
          have x3 := HH3.out.c0
          have t3 := HH3.out.thawed
          have TS : Touch (fun y => y = x) w3 (w3.setCell ⟨x, 0, none⟩ (.slice av O.length cv)) := Touch.set (F := fun y => y = x) _ x 0 _ rfl
          have HTS := Lib.hid TS
          have H3 := Lib.hid h3
          rw [hol] at HTS H3
          clear h3 TS
          go_wp2_with fail
          refine bodyPost_end (results_none rfl _ _ _) rfl ?_
          refine HFIN.out av cv cap dead _ (by rw [hol]; exact H3.out) (HRX.out.touch HTS.out HAP.out) HTS.out HBW.out ⟨fun q => (HHAD.out q).elim, fun _ => ⟨hol, fun _ => ⟨rfl, rfl⟩, fun q => by omega⟩⟩
      | false =>
        have rowr := (hbr.block _ (heap_lt row2)).trans row2
        have hol : O.length + 1 ≤ 1048576 := by omega
        have HO := Lib.hid HO
        have HBR := Lib.hid hbr
        clear hbr row2
        go_wp2_with (first
            | (with_reducible refine at_load 23 ?_; go_must (refine wpList_load_row rfl 23 _ rfl w.heap.size rfl _ KL.toArray _ _ rowr Try.underlying23 rfl hika ?_))
            | (with_reducible refine at_build 67 ?_; go_must (refine wpList_built' rfl 67 _ rfl CV.toArray (by go_simp) ?_))
            | (with_reducible refine at_slit 61 ?_; go_must (refine wpList_lit_append Try.underlying61 kv_info rfl (by decide) (by decide) rfl _ rfl rfl _ _ rfl w2.heap.size _ O HO.out ⟨k, v⟩ CV HCV.out rfl rfl rfl HONE.out HKV.out hol (by decide) HBR.out.size ?_)))
        intro v5 w5 HO5 T5 hv5
        have HBX := Lib.hid (touch_own HBR.out (Nat.le_refl _) HO.out T5)
        have HOX := Lib.hid HO5
        obtain ⟨av5, cv5, rfl, _, _⟩ := HOX.out.form
        have SPEC := Lib.hid (HINV.out.last HNO.out)
        have hol : (O ++ [(⟨k, v⟩ : KV)]).length = L.length + 1 := (putSpec_len SPEC.out).2 HHAD.out
        clear T5 hv5 HO5 rowr
        obtain ⟨O', hO'⟩ : ∃ O', O ++ [(⟨k, v⟩ : KV)] = O' := ⟨_, rfl⟩
        rw [hO'] at HOX SPEC hol
        rw [hO']
        clear hO'
        have HR := Lib.hid (H2.out.below HBX.out).head
        have c0x := HR.out.c0
        have c1x := HR.out.c1
        have c2x := HR.out.c2
        go_wp2_with fail
        go_quiet (fail)
        have td : Touch (fun _ => False) w5 (w5.drewN nq) := (Touch.refl _ _).drewN nq
        have HH3 := Lib.hid (HR.out.touch td id)
        have HO3 := Lib.hid (HOX.out.drewN nq)
        have HB3 := Lib.hid (below_drewN HBX.out nq)
        clear td c0x c1x c2x
        generalize w5.drewN nq = w3 at *
        have hx3 : x < w3.heap.size := heap_lt HH3.out
        have fin : ∀ (av : Option Addr) (cv cap' dead' : Nat) (wf : World), RHead wf x av O'.length cv cap' dead' → RowsC kvC 33 wf av cv O' → Touch (fun y => y = x) w3 wf → (∀ ad, av = some ad → w2.heap.size ≤ ad.block ∧ ad.block < w3.heap.size) → Tab.PutNums cap L.length dead cap' O'.length dead' (∃ p ∈ L, p.key = k) → RPutPost w x L cap dead k v (.returned (.tuple #[])) wf := by
          intro av cv cap' dead' wf q1 q2 q3 q4 q5
          refine ⟨rfl, av, cv, O', cap', dead', ⟨q1, q2, fun p hp => ?_, fun ad e => ⟨?_, ?_⟩⟩, SPEC.out, q5, fun ad e => Nat.le_trans HB2.out.size (q4 ad e).1, ?_⟩
          · exact putSpec_key SPEC.out hkk.out H2.out.key p hp
          · have := (q4 ad e).1; omega
          · have := (q4 ad e).2; have := q3.size; omega
          · exact (Touch.of_below (HB2.out.trans (HB3.out.mono HB2.out.size))).trans q3
        have HFIN := Lib.hid fin
        clear fin
        obtain ⟨ax, cx, ex, RX, ownX⟩ := HO3.out.form
        injection ex with ex1 _ ex3
        subst ex1 ex3
        have hbw : ∀ ad, av5 = some ad → w2.heap.size ≤ ad.block ∧ ad.block < w3.heap.size := fun ad e => by
          rcases ownX with ⟨_, e2, _⟩ | ⟨gb, e2, _, q1, q2, _⟩
          · rw [e2] at e; cases e
          · rw [e2] at e; injection e with e; subst e; exact ⟨q1, q2⟩
        have hap : ∀ ad, av5 = some ad → ad.block ≠ x := fun ad e => by have := (hbw ad e).1; omega
        have HBW := Lib.hid hbw
        have HAP := Lib.hid hap
        have HRX := Lib.hid RX
        clear hbw hap RX ownX
        by_cases hbig : 3 * cap < 4 * (L.length + dead + 1)
        · have SL := slots_any w3 (L.length + 1) (by omega)
          rw [show ((L.length + 1 : Nat) : Int) = (L.length : Int) + 1 by omega] at SL
          rw [show decide (3 * (cap : Int) < 4 * ((L.length : Int) + dead + 1)) = true by simp; omega]
          have c0x := HH3.out.c0
          go_wp2_with fail
          refine SL.mono ?_
          rintro e w' ⟨⟨c', rfl, hsz⟩, rfl⟩
          have h1 := HH3.out.set1 c'
          have h2 := h1.set2 0
          rw [show (((0 : Nat)) : Int) = 0 from rfl] at h2
          have h3 := h2.set0 av5 O'.length cv5
          have x1 := HH3.out.c1
          have t1 := HH3.out.thawed
          have x2 := h1.c2
          have t2 := h1.thawed
          have x3 := h2.c0
          have t3 := h2.thawed
          have TS1 : Touch (fun y => y = x) w3 (w3.setCell ⟨x, 1, none⟩ (.int .i64 c')) := Touch.set (F := fun y => y = x) _ x 1 _ rfl
          have TS2 := TS1.trans (Touch.set (F := fun y => y = x) (w3.setCell ⟨x, 1, none⟩ (.int .i64 c')) x 2 (.int .i64 0) rfl)
          have TS := TS2.trans (Touch.set (F := fun y => y = x) _ x 0 (.slice av5 O'.length cv5) rfl)
          have HTS := Lib.hid TS
          have H3 := Lib.hid h3
          have HSZ := Lib.hid hsz
          rw [hol] at HTS H3
          clear SL h1 h2 h3 TS1 TS2 TS c0x hsz
          go_wp2_with fail
          refine bodyPost_end (results_none rfl _ _ _) rfl ?_
          refine HFIN.out av5 cv5 c' 0 _ (by rw [hol]; exact H3.out) (HRX.out.touch HTS.out HAP.out) HTS.out HBW.out ⟨fun q => (HHAD.out q).elim, fun _ => ⟨hol, fun q => by omega, fun _ => ⟨HSZ.out, rfl⟩⟩⟩
        · rw [show decide (3 * (cap : Int) < 4 * ((L.length : Int) + dead + 1)) = false by simp; omega]
          have h3 := HH3.out.set0 av5 O'.length cv5
          have x3 := HH3.out.c0
          have t3 := HH3.out.thawed
          have TS : Touch (fun y => y = x) w3 (w3.setCell ⟨x, 0, none⟩ (.slice av5 O'.length cv5)) := Touch.set (F := fun y => y = x) _ x 0 _ rfl
          have HTS := Lib.hid TS
          have H3 := Lib.hid h3
          rw [hol] at HTS H3
          clear h3 TS
          go_wp2_with fail
          refine bodyPost_end (results_none rfl _ _ _) rfl ?_
          refine HFIN.out av5 cv5 cap dead _ (by rw [hol]; exact H3.out) (HRX.out.touch HTS.out HAP.out) HTS.out HBW.out ⟨fun q => (HHAD.out q).elim, fun _ => ⟨hol, fun _ => ⟨rfl, rfl⟩, fun q => by omega⟩⟩
end Go.Proofs.Ytahmnpbfjfllmaa
