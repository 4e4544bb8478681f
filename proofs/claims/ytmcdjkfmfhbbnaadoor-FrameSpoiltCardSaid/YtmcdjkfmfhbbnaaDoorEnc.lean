/- Size, Encode. -/
import Derived.Test.YtmcdjkfmfhbbnaaDoorEnt
import Derived.Test.YtmcdjkfmfhbbnaaDoorByteOps
import Derived.Test.YtmcdjkfmfhbbnaaDoorAdd
namespace Go.Proofs.YtmcdjkfmfhbbnaaDoor
open Go Go.RowKit

theorem sum_at {a : Option Addr} {cap n : Nat} (l : List (BitVec 8)) (w : World) (hn : l.length = n) (hh : Half w) (hb : Reads w a cap l) :
    Calls Tryd.prog 31 #[.slice a n cap] w fun e w' => e = .returned (U32 (CrcMath.sum l)) ∧ w = w' := by
  subst hn; exact sum_any a cap l w hh hb
theorem ret_two {v : Value} {a b : Int} (h : a = b) : Ending.returned (.tuple #[v, .int .i64 a]) = .returned (.tuple #[v, .int .i64 b]) := by rw [h]
theorem entry_size {C : List Value} (h : C.length = 34) : (Tryd.prog.info? 26).map (·.size) = some C.toArray.size := by rw [List.size_toArray, h]; kernel_rfl
set_option maxHeartbeats 400000 in
theorem size_any (e : Ent) (a : Option Addr) (cap : Nat) (hk : e.key.length = 32) (hl : e.data.length ≤ 1048576) (w : World) :
    Calls Tryd.prog 15 #[.agg (entC e (.slice a e.data.length cap)).toArray] w fun en w' => en = .returned (.int .i64 (size e)) ∧ Below w.heap.size w w' := by
  have hE := entAt_alloc w e (.slice a e.data.length cap) 26 hk
  have row := heap_alloc_new w (.cells (entC e (.slice a e.data.length cap)).toArray 26)
  have hiE := entry_size (length_entC (dv := .slice a e.data.length cap) hk)
  have hb := (Below.refl w.heap.size w).alloc (Nat.le_refl _) (.cells (entC e (.slice a e.data.length cap)).toArray 26)
  have CH := check_any e a cap hk hl
  unfold size
  have HE := Lib.hid hE
  clear hE
  have C0 := fun (W : World) (hw : Below (w.alloc (.cells (entC e (.slice a e.data.length cap)).toArray 26)).heap.size (w.alloc (.cells (entC e (.slice a e.data.length cap)).toArray 26)) W) => (HE.out.keeps (Keeps.below hw)).c0
  have C33 := fun (W : World) (hw : Below (w.alloc (.cells (entC e (.slice a e.data.length cap)).toArray 26)).heap.size (w.alloc (.cells (entC e (.slice a e.data.length cap)).toArray 26)) W) => (HE.out.keeps (Keeps.below hw)).c33
  clear HE hk
  generalize entC e (.slice a e.data.length cap) = C at *
  generalize hC : chk e = c at *
  have HC := Lib.hid hC
  clear hC
  generalize e.data.length = n at *
  generalize e.tag = t at *
  generalize hr : (if c = 0 then (if t = 2 then 9 else 41 + n) else 0) = r
  have HR := Lib.hid hr
  clear hr
  go_enter Tryd.func15, Tryd.ntmps15
  go_wp2_with (with_reducible refine at_load 26 ?_; go_must (refine wpList_load_row rfl 26 _ rfl w.heap.size rfl _ C.toArray _ _ row Tryd.underlying26 rfl hiE ?_))
  refine (CH _).mono ?_
  rintro en w2 ⟨rfl, hb2⟩
  have c0 := C0 w2 hb2
  have c33 := C33 w2 hb2
  rw [Nat.zero_add] at c33
  have hbb := hb.trans (hb2.mono hb.size)
  clear C0 C33 CH row hb hb2
  by_cases h0 : c = 0
  · subst h0
    by_cases ht : t = 2
    · subst ht
      go_wp2_with fail
      go_ret
      exact ⟨ret_i64 (by rw [← HR.out]; rfl), hbb⟩
    · have ht' : (t == 2) = false := by simpa using ht
      have HT := Lib.hid ht
      clear ht
      go_wp2_with fail
      go_ret
      exact ⟨ret_i64 (by have := HR.out; simp [HT.out] at this; omega), hbb⟩
  · have h0' : (c != 0) = true := by simpa using h0
    have HT := Lib.hid h0
    clear h0
    go_wp2_with fail
    go_ret
    exact ⟨ret_i64 (by have := HR.out; simp [HT.out] at this; omega), hbb⟩
/-- What stands behind an Encode. -/
def EncPost (w : World) (e : Ent) (en : Ending) (w' : World) : Prop := ∃ v, en = .returned (.tuple #[v, .int .i64 (chk e)]) ∧ Owns w' w.heap.size 5 v (enc e) ∧ Below w.heap.size w w'
theorem encode_no (e : Ent) (a : Option Addr) (cap : Nat) (hk : e.key.length = 32) (hl : e.data.length ≤ 1048576) (w : World) (hc : chk e ≠ 0) :
    Calls Tryd.prog 12 #[.agg (entC e (.slice a e.data.length cap)).toArray] w (EncPost w e) := by
  have row := heap_alloc_new w (.cells (entC e (.slice a e.data.length cap)).toArray 26)
  have hiE := entry_size (length_entC (dv := .slice a e.data.length cap) hk)
  have hb := (Below.refl w.heap.size w).alloc (Nat.le_refl _) (.cells (entC e (.slice a e.data.length cap)).toArray 26)
  have CH := check_any e a cap hk hl
  have he : enc e = [] := by unfold enc; rw [if_neg hc]
  have hc' : (chk e != 0) = true := by simpa using hc
  unfold EncPost
  rw [he]
  clear hc hk
  generalize entC e (.slice a e.data.length cap) = C at *
  generalize chk e = c at *
  go_enter Tryd.func12, Tryd.ntmps12
  go_wp2_with (with_reducible refine at_load 26 ?_; go_must (refine wpList_load_row rfl 26 _ rfl w.heap.size rfl _ C.toArray _ _ row Tryd.underlying26 rfl hiE ?_))
  refine (CH _).mono ?_
  rintro en w2 ⟨rfl, hb2⟩
  go_wp2_with fail
  go_ret2
  exact ⟨_, rfl, owns_nil _ _ _, hb.trans (hb2.mono hb.size)⟩
theorem grown_below {B : Nat} {E : TypeId} {w0 w w' : World} {v : Value} {l : List (BitVec 8)} (hb : Below B w0 w) (hB : B ≤ w0.heap.size) (ho : Owns w B E v l) (hg : w.grownBy w' v.ownBlock) : Below B w0 w' :=
  hb.trans ((Touch.of_grown (F := fun k => v.ownBlock = some k) hg fun k hk => hk).below (fun k hk => (row_lt ho hk).1) (Nat.le_trans hB hb.size))
set_option maxHeartbeats 2000000 in
theorem encode_yes (e : Ent) (a : Option Addr) (cap : Nat) (hk : e.key.length = 32) (w : World) (hh : Half w) (hr : Reads w a cap e.data) (hc : chk e = 0) :
    Calls Tryd.prog 12 #[.agg (entC e (.slice a e.data.length cap)).toArray] w (EncPost w e) := by
  have hl : e.data.length ≤ 16384 := by
    rcases chk_ok hc with h | h | h
    · exact h.2
    · rw [h.2]; exact Nat.zero_le _
    · rw [h.2.2]; exact Nat.zero_le _
  have hE := entAt_alloc w e (.slice a e.data.length cap) 26 hk
  have row := heap_alloc_new w (.cells (entC e (.slice a e.data.length cap)).toArray 26)
  have hiE := entry_size (length_entC (dv := .slice a e.data.length cap) hk)
  have hb := (Below.refl w.heap.size w).alloc (Nat.le_refl _) (.cells (entC e (.slice a e.data.length cap)).toArray 26)
  have CH := check_any e a cap hk (by omega)
  have SZ := size_any e a cap hk (by omega)
  have hsz := size_le e
  have he : enc e = sumB (body e) ++ body e := by unfold enc; rw [if_pos hc]; rfl
  have hbody : body e = leB (BitVec.ofNat 64 (size e)) 4 ++ ([BitVec.ofInt 8 e.tag] ++ ((if e.tag = 2 then [] else e.key) ++ e.data)) := rfl
  have hlb := length_body hk hc
  have ht : e.tag = 2 ∨ (e.tag ≠ 2 ∧ 0 ≤ e.tag ∧ e.tag < 256) := by
    rcases chk_ok hc with h | h | h
    · rw [h.1]; exact .inr (by decide)
    · rw [h.1]; exact .inr (by decide)
    · exact .inl h.1
  unfold EncPost
  rw [he, hc]
  rw [hc] at CH
  have hs9 : 9 ≤ size e := by
    unfold size; rw [if_pos hc]; split <;> omega
  obtain ⟨K, hK⟩ : ∃ K, (if e.tag = 2 then [] else e.key) = K := ⟨_, rfl⟩
  rw [hK] at hbody
  have hKK : (e.tag = 2 ∧ K = []) ∨ (e.tag ≠ 2 ∧ K = e.key) := by
    by_cases h : e.tag = 2
    · exact .inl ⟨h, by rw [← hK, if_pos h]⟩
    · exact .inr ⟨h, by rw [← hK, if_neg h]⟩
  generalize body e = Bd at *
  have CC := Lib.hid (fun (W : World) (hw : Below (w.alloc (.cells (entC e (.slice a e.data.length cap)).toArray 26)).heap.size (w.alloc (.cells (entC e (.slice a e.data.length cap)).toArray 26)) W) =>
    (show W.cell? ⟨w.heap.size, 0, none⟩ = some (.int .i64 e.tag) ∧ BytesAt W w.heap.size 1 e.key ∧ W.cell? ⟨w.heap.size, 33, none⟩ = some (.slice a e.data.length cap) from by
      have q := hE.keeps (Keeps.below hw)
      have q33 := q.c33
      have qk := q.ck
      rw [Nat.zero_add] at q33 qk
      refine ⟨q.c0, fun i hi => ?_, q33⟩
      rw [qk i (U8 (byteAt e.key i)) (by rw [List.getElem?_map, List.getElem?_eq_getElem hi, byteAt_lt hi]; rfl)]))
  have HBD := Lib.hid hbody
  have HLB := Lib.hid hlb
  have HE := Lib.hid hE
  have HH := Lib.hid hh
  have HR := Lib.hid hr
  have HKK := Lib.hid hKK
  have HKL := Lib.hid hk
  clear hbody hlb hE hh hr hKK hK hk he hc
  generalize entC e (.slice a e.data.length cap) = C at *
  generalize hkey : e.key = key at *
  generalize hdat : e.data = data at *
  generalize htag : e.tag = tag at *
  generalize hsize : size e = n at *
  clear hkey hdat htag hsize
  have hq : (tag != 2) = false ∧ 0 ≤ tag ∧ tag < 256 ∧ K = [] ∨ (tag != 2) = true ∧ 0 ≤ tag ∧ tag < 256 ∧ K = key := by
    rcases ht with h | ⟨h, h1, h2⟩
    · refine .inl ⟨by rw [h]; rfl, by omega, by omega, ?_⟩
      rcases HKK.out with q | q
      · exact q.2
      · exact (q.1 h).elim
    · refine .inr ⟨by simpa using h, h1, h2, ?_⟩
      rcases HKK.out with q | q
      · exact (h q.1).elim
      · exact q.2
  have htb : Value.int .u8 tag = U8 (BitVec.ofInt 8 tag) := u8_of tag (by rcases hq with h | h <;> exact h.2.1) (by rcases hq with h | h <;> exact h.2.2.1)
  have HTB := Lib.hid htb
  clear htb ht HKK HE
  have PU := fun (W : World) => put_reads (BitVec.ofNat 64 n) W
  rw [← u64_nat n (by omega)] at PU
  have hx4 := Lib.hid (length_leB (BitVec.ofNat 64 n) 4)
  generalize leB (BitVec.ofNat 64 n) 4 = x at *
  go_enter Tryd.func12, Tryd.ntmps12
  go_wp2_with (with_reducible refine at_load 26 ?_; go_must (refine wpList_load_row rfl 26 _ rfl w.heap.size rfl _ C.toArray _ _ row Tryd.underlying26 rfl hiE ?_))
  refine (CH _).mono ?_
  rintro en w2 ⟨rfl, hb2⟩
  have row2 := (hb2.block _ (heap_lt row)).trans row
  go_wp2_with (with_reducible refine at_load 26 ?_; go_must (refine wpList_load_row rfl 26 _ rfl w.heap.size rfl _ C.toArray _ _ row2 Tryd.underlying26 rfl hiE ?_))
  refine (SZ _).mono ?_
  rintro en w3 ⟨rfl, hb3⟩
  have hb23 := hb2.trans (hb3.mono hb2.size)
  have hsz1 : w.heap.size < (w.alloc (.cells C.toArray 26)).heap.size := by simp
  have HB1 := Lib.hid hb
  clear row row2 CH SZ hb2 hb3 hb
  generalize w.alloc (.cells C.toArray 26) = w1 at *
  go_wp2_with (at_make; refine wpList_make_room w3 byteSlice rfl _ _ rfl 4 n rfl rfl (by omega) (by omega) ?_; intro w4 ho4 hb4)
  have ho4 := ho4.mono (B' := w1.heap.size) hb23.size
  have hb4 := hb23.trans (hb4.mono hb23.size)
  generalize hv4 : Value.slice (some ⟨w3.heap.size, 0, none⟩) 4 n = v4 at *
  clear hv4 hb23
  refine (PU _).mono ?_
  rintro en w5 ⟨rfl, hr5, _, hb5⟩
  have ho5 := ho4.below hb5
  have hb5 := hb4.trans (hb5.mono hb4.size)
  have hs5 := hb5.size
  clear ho4 hb4
  go_wp2_with (at_builtin; refine wpList_append_bytes byteSlice rfl _ _ rfl w1.heap.size v4 (List.replicate 4 0#8) rfl ho5 _ _ x rfl hr5 (by rw [hx4.out]; simp) hs5 ?_)
  intro v6 w6 ho6 hg6
  have hb6 := grown_below hb5 (Nat.le_refl _) ho5 hg6
  have c6 := (CC.out w6 hb6).1
  have hs6 := hb6.size
  clear ho5 hg6 hb5 hr5 PU hs5
  have ha6 : Below w6.heap.size w6 (w6.alloc (.cells #[.int .u8 tag] 5)) := (Below.refl _ _).alloc (Nat.le_refl _) _
  have ho6a := ho6.below ha6
  have hb6a := hb6.trans (ha6.mono hb6.size)
  have hs6a := hb6a.size
  have rl6 : Reads (w6.alloc (.cells #[.int .u8 tag] 5)) (some ⟨w6.heap.size, 0, none⟩) 1 [BitVec.ofInt 8 tag] := reads_lit w6 #[.int .u8 tag] 5 (0, 0) [BitVec.ofInt 8 tag] (by rw [HTB.out]; rfl) (by simp)
  have hl6 : (0#8 :: 0#8 :: 0#8 :: 0#8 :: x).length = 8 := by simp [hx4.out]
  clear ho6 hb6
  obtain ⟨L6, hL6⟩ : ∃ L6, (0#8 :: 0#8 :: 0#8 :: 0#8 :: x) = L6 := ⟨_, rfl⟩
  rw [hL6] at ho6a hl6
  have HL6 := Lib.hid hL6
  have HN6 := Lib.hid hl6
  clear hL6 hl6
  go_wp2_with (at_builtin; go_must (refine wpList_append_n byteSlice rfl _ _ rfl w1.heap.size v6 L6 rfl ho6a _ 1 1 [BitVec.ofInt 8 tag] rfl rfl rl6 (by rw [HN6.out]; simp) hs6a ?_))
  intro v7 w7 ho7 hg7
  have hb7 := grown_below hb6a (Nat.le_refl _) ho6a hg7
  obtain ⟨c7, ck7, c33⟩ := CC.out w7 hb7
  have hs7 := hb7.size
  obtain ⟨L7, hL7⟩ : ∃ L7, L6 ++ [BitVec.ofInt 8 tag] = L7 := ⟨_, rfl⟩
  have hl7 : L7.length = 9 := by rw [← hL7, List.length_append, HN6.out]; rfl
  rw [hL7] at ho7
  have HL7 := Lib.hid hL7
  have HN7 := Lib.hid hl7
  clear hL7 hl7 hb6a ho6a hg7 rl6 ha6 hs6a c6
  have DAT := fun (W : World) (hw : Below w1.heap.size w1 W) => (show Below w.heap.size w W ∧ Reads W a cap data ∧ Half W from by
    have q := HB1.out.trans (hw.mono (by omega))
    exact ⟨q, HR.out.keeps (Keeps.below q), HH.out.keeps (Keeps.below q)⟩)
  have HD := Lib.hid DAT
  have r7 := (DAT w7 hb7).2.1
  clear DAT
  -- behind the data
  have TAIL : ∀ (W : World) (v : Value) (L : List (BitVec 8)), Owns W w1.heap.size 5 v L → Below w1.heap.size w1 W → L = L7 ++ (K ++ data) →
      ∃ g c, v = .slice (some ⟨g, 0, none⟩) L.length c ∧ L.length = n ∧ L.drop 4 = Bd ∧ w1.heap.size ≤ g := fun W v L ho hb hL => by
    have hll : L.length = n := by
      have q := HLB.out
      rw [HBD.out] at q
      simp only [List.length_append, hx4.out] at q
      rw [hL, List.length_append, HN7.out, List.length_append]
      simp at q
      omega
    obtain ⟨g, c, e1, _, hg, _⟩ := ho.row (by omega)
    refine ⟨g, c, e1, hll, ?_, hg⟩
    rw [hL, HBD.out, ← HL7.out, ← HL6.out]
    simp
  have HT := Lib.hid TAIL
  clear TAIL
  rcases hq with ⟨q1, q2, q3, q4⟩ | ⟨q1, q2, q3, q4⟩
  · subst q4
    go_wp2_with (at_builtin; go_must (refine wpList_append_bytes byteSlice rfl _ _ rfl w1.heap.size v7 L7 rfl ho7 a cap data rfl r7 (by rw [HN7.out]; omega) hs7 ?_))
    intro v9 w9 ho9 hg9
    have hb9 := grown_below hb7 (Nat.le_refl _) ho7 hg9
    obtain ⟨L9, hL9⟩ : ∃ L9, L9 = L7 ++ ([] ++ data) := ⟨_, rfl⟩
    rw [show L7 ++ data = L9 by rw [hL9]; rfl] at ho9
    obtain ⟨g9, c9, rfl, hn9, hd9, hg9⟩ := HT.out w9 v9 L9 ho9 hb9 hL9
    have r9 := ho9.reads
    obtain ⟨a', c', e1, r9⟩ := r9
    injection e1 with e1 _ e3
    subst e1 e3
    have sl := fun W => run_slice_from byteSlice W (some ⟨g9, 0, none⟩) L9.length c9 .i64 4 4 rfl (by omega)
    have rd9 := r9.drop 4 (by omega)
    rw [hd9] at rd9
    have SU := sum_at Bd w9 (n := L9.length - 4) (by rw [← hd9, List.length_drop]) (HD.out w9 hb9).2.2 rd9
    have PU2 := fun W => put_reads ((CrcMath.sum Bd).setWidth 64) W
    have hy4 := Lib.hid (length_leB ((CrcMath.sum Bd).setWidth 64) 4)
    have HD9 := Lib.hid hd9
    have HN9 := Lib.hid hn9
    clear hL9 r9 rd9 hd9 hn9
    generalize hY : leB ((CrcMath.sum Bd).setWidth 64) 4 = y at *
    have HY := Lib.hid hY
    clear hY
    go_wp2_with fail
    refine SU.mono ?_
    rintro en w' ⟨rfl, rfl⟩
    go_wp2_with fail
    refine (PU2 _).mono ?_
    rintro en w10 ⟨rfl, _, hy10, hb10⟩
    have ho10 := ho9.below hb10
    have hb10 := hb9.trans (hb10.mono hb9.size)
    clear PU2 SU sl ho9
    go_wp2_with (refine wpList_copy_head byteSlice rfl _ _ rfl w1.heap.size g9 L9.length c9 L9 rfl rfl ho10 w9.heap.size 0 y.length 4 y rfl rfl hy10 (by rw [hy4.out, HN9.out]; omega) ?_)
    intro w11 ho11 ht11
    rw [hy4.out, HD9.out] at ho11
    go_wp2_with fail
    go_ret2
    refine ⟨_, rfl, by unfold sumB; rw [HY.out]; exact ho11.mono (by omega), HB1.out.trans ((hb10.trans (ht11.below (fun x e => by have e : x = g9 := e; omega) hb10.size)).mono (by omega))⟩
  · subst q4
    have ck : Reads w7 (some ⟨w.heap.size, 1, none⟩) 32 K := ⟨by rw [HKL.out]; exact Nat.le_refl _, by omega, (by intro e; cases e), .inr ⟨_, _, rfl, ck7⟩⟩
    go_wp2_with (at_builtin; go_must (refine wpList_append_n byteSlice rfl _ _ rfl w1.heap.size v7 L7 rfl ho7 (some ⟨w.heap.size, 1, none⟩) 32 32 K rfl HKL.out.symm ck (by rw [HN7.out, HKL.out]; omega) hs7 ?_))
    intro v8 w8 ho8 hg8
    have hb8 := grown_below hb7 (Nat.le_refl _) ho7 hg8
    have c8 := (CC.out w8 hb8).2.2
    have r8 := (HD.out w8 hb8).2.1
    have hs8 := hb8.size
    obtain ⟨L8, hL8⟩ : ∃ L8, L7 ++ K = L8 := ⟨_, rfl⟩
    have hl8 : L8.length = 41 := by rw [← hL8, List.length_append, HN7.out, HKL.out]
    rw [hL8] at ho8
    have HL8 := Lib.hid hL8
    have HN8 := Lib.hid hl8
    clear hL8 hl8 ho7 hg8 r7 ck ck7
    go_wp2_with (at_builtin; go_must (refine wpList_append_bytes byteSlice rfl _ _ rfl w1.heap.size v8 L8 rfl ho8 a cap data rfl r8 (by rw [HN8.out]; omega) hs8 ?_))
    intro v9 w9 ho9 hg9
    have hb9 := grown_below hb8 (Nat.le_refl _) ho8 hg9
    obtain ⟨L9, hL9⟩ : ∃ L9, L9 = L7 ++ (K ++ data) := ⟨_, rfl⟩
    rw [show L8 ++ data = L9 by rw [hL9, ← HL8.out, List.append_assoc]] at ho9
    obtain ⟨g9, c9, rfl, hn9, hd9, hg9⟩ := HT.out w9 v9 L9 ho9 hb9 hL9
    have r9 := ho9.reads
    obtain ⟨a', c', e1, r9⟩ := r9
    injection e1 with e1 _ e3
    subst e1 e3
    have sl := fun W => run_slice_from byteSlice W (some ⟨g9, 0, none⟩) L9.length c9 .i64 4 4 rfl (by omega)
    have rd9 := r9.drop 4 (by omega)
    rw [hd9] at rd9
    have SU := sum_at Bd w9 (n := L9.length - 4) (by rw [← hd9, List.length_drop]) (HD.out w9 hb9).2.2 rd9
    have PU2 := fun W => put_reads ((CrcMath.sum Bd).setWidth 64) W
    have hy4 := Lib.hid (length_leB ((CrcMath.sum Bd).setWidth 64) 4)
    have HD9 := Lib.hid hd9
    have HN9 := Lib.hid hn9
    clear hL9 r9 rd9 hd9 hn9
    generalize hY : leB ((CrcMath.sum Bd).setWidth 64) 4 = y at *
    have HY := Lib.hid hY
    clear hY
    go_wp2_with fail
    refine SU.mono ?_
    rintro en w' ⟨rfl, rfl⟩
    go_wp2_with fail
    refine (PU2 _).mono ?_
    rintro en w10 ⟨rfl, _, hy10, hb10⟩
    have ho10 := ho9.below hb10
    have hb10 := hb9.trans (hb10.mono hb9.size)
    clear PU2 SU sl ho9
    go_wp2_with (refine wpList_copy_head byteSlice rfl _ _ rfl w1.heap.size g9 L9.length c9 L9 rfl rfl ho10 w9.heap.size 0 y.length 4 y rfl rfl hy10 (by rw [hy4.out, HN9.out]; omega) ?_)
    intro w11 ho11 ht11
    rw [hy4.out, HD9.out] at ho11
    go_wp2_with fail
    go_ret2
    refine ⟨_, rfl, by unfold sumB; rw [HY.out]; exact ho11.mono (by omega), HB1.out.trans ((hb10.trans (ht11.below (fun x e => by have e : x = g9 := e; omega) hb10.size)).mono (by omega))⟩
theorem encode_any (e : Ent) (a : Option Addr) (cap : Nat) (hk : e.key.length = 32) (hl : e.data.length ≤ 1048576) (w : World) (hh : Half w) (hr : Reads w a cap e.data) :
    Calls Tryd.prog 12 #[.agg (entC e (.slice a e.data.length cap)).toArray] w (EncPost w e) := by
  by_cases hc : chk e = 0
  · exact encode_yes e a cap hk w hh hr hc
  · exact encode_no e a cap hk hl w hc
end Go.Proofs.YtmcdjkfmfhbbnaaDoor
