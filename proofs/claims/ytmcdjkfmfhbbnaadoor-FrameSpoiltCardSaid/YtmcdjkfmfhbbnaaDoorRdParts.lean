/- What Read leans on: number, fits, Clone; results of three words; entries changed in place. -/
import Derived.Test.YtmcdjkfmfhbbnaaDoorEnc
import Derived.Test.YtmcdjkfmfhbbnaaDoorIts
import Derived.Lib.SliceRun
namespace Go.Proofs.YtmcdjkfmfhbbnaaDoor
open Go Go.RowKit

def num32 (m : List (BitVec 8)) : BitVec 32 := (leOf (m.take 4)).setWidth 32
theorem num32_toNat (m : List (BitVec 8)) : (num32 m).toNat = leN (m.take 4) := by
  have h := leN_lt4 (m.take 4) (by rw [List.length_take]; omega)
  unfold num32
  rw [BitVec.toNat_setWidth, leOf_toNat _ (by rw [List.length_take]; omega)]
  exact Nat.mod_eq_of_lt h
theorem get_at (b off cap n : Nat) (l : List (BitVec 8)) (w : World) (hn : l.length = n) (h1 : 1 ≤ l.length) (h8 : l.length ≤ 8) (hb : BytesAt w b off l) :
    Calls Tryd.prog 42 #[.slice (some ⟨b, off, none⟩) n cap] w fun e w' => e = .returned (.tuple #[U64 (leOf l), .bool true]) ∧ w = w' := by
  subst hn; exact get_any b off cap l w h1 h8 hb
theorem rget_at (b off cap n : Nat) (l : List (BitVec 8)) (w : World) (hn : l.length = n) (h1 : 1 ≤ l.length) (h8 : l.length ≤ 8) (hb : BytesAt w b off l) :
    Calls Tryd.prog 37 #[.slice (some ⟨b, off, none⟩) n cap] w fun e w' => e = .returned (.tuple #[U64 (leOf l), .bool true]) ∧ w = w' := by
  subst hn; exact rget_any b off cap l w h1 h8 hb
theorem number_any (b off cap n : Nat) (m : List (BitVec 8)) (w : World) (hn : m.length = n) (h4 : 4 ≤ m.length) (hc : n ≤ cap) (hb : BytesAt w b off m) :
    Calls Tryd.prog 34 #[.slice (some ⟨b, off, none⟩) n cap] w fun e w' => e = .returned (U32 (num32 m)) ∧ w = w' := by
  have sl := run_slice_to byteSlice w (some ⟨b, off, none⟩) n cap .i64 4 4 rfl (by omega)
  have GE := get_at b off cap 4 (m.take 4) w (by rw [List.length_take]; omega) (by rw [List.length_take]; omega) (by rw [List.length_take]; omega) (hb.take 4)
  unfold num32
  generalize leOf (m.take 4) = x at *
  clear hn hb
  go_enter Tryd.func34, Tryd.ntmps34
  go_wp2_with fail
  refine GE.mono ?_
  rintro e w' ⟨rfl, rfl⟩
  go_wp2_with fail
  go_ret
  exact ⟨rfl, rfl⟩
set_option maxHeartbeats 400000 in
theorem fits_any (t : BitVec 8) (n : Nat) (hn : n < 4294967296) (w : World) :
    Calls Tryd.prog 35 #[U8 t, .int .i64 n] w fun e w' => e = .returned (.bool (fits t.toNat n)) ∧ w = w' := by
  obtain ⟨r, hr⟩ : ∃ r, fits t.toNat n = r := ⟨_, rfl⟩
  rw [hr]
  have ht : t.toNat < 256 := t.isLt
  unfold fits at hr
  by_cases h0 : t.toNat = 0
  · rw [if_pos h0] at hr
    have h0' : ((t.toNat : Int) == 0) = true := by simp [h0]
    have hr' : (decide ((41 : Int) ≤ n) && decide ((n : Int) ≤ 16425)) = r := by
      rw [← hr, Bool.eq_iff_iff]; simp; omega
    have HR := Lib.hid hr'
    clear hr hr' h0
    by_cases h1 : (41 : Int) ≤ n
    · have g1 : decide ((41 : Int) ≤ n) = true := decide_eq_true h1
      go_enter Tryd.func35, Tryd.ntmps35
      go_wp2_with fail
      go_ret
      exact ⟨ret_bool (by rw [← HR.out, g1]; rfl), rfl⟩
    · have g1 : decide ((41 : Int) ≤ n) = false := decide_eq_false h1
      go_enter Tryd.func35, Tryd.ntmps35
      go_wp2_with fail
      go_ret
      exact ⟨ret_bool (by rw [← HR.out, g1]; rfl), rfl⟩
  · rw [if_neg h0] at hr
    have h0' : ((t.toNat : Int) == 0) = false := by simp; omega
    by_cases h1 : t.toNat = 1
    · rw [if_pos h1] at hr
      have h1' : ((t.toNat : Int) == 1) = true := by simp [h1]
      have hr' : ((n : Int) == 41) = r := by
        rw [← hr, Bool.eq_iff_iff]; simp; omega
      have HR := Lib.hid hr'
      clear hr hr' h0 h1
      go_enter Tryd.func35, Tryd.ntmps35
      go_wp2_with fail
      go_ret
      exact ⟨ret_bool HR.out, rfl⟩
    · rw [if_neg h1] at hr
      have h1' : ((t.toNat : Int) == 1) = false := by simp; omega
      by_cases h2 : t.toNat = 2
      · rw [if_pos h2] at hr
        have h2' : ((t.toNat : Int) == 2) = true := by simp [h2]
        have hr' : ((n : Int) == 9) = r := by
          rw [← hr, Bool.eq_iff_iff]; simp; omega
        have HR := Lib.hid hr'
        clear hr hr' h0 h1 h2
        go_enter Tryd.func35, Tryd.ntmps35
        go_wp2_with fail
        go_ret
        exact ⟨ret_bool HR.out, rfl⟩
      · rw [if_neg h2] at hr
        have h2' : ((t.toNat : Int) == 2) = false := by simp; omega
        have HR := Lib.hid hr
        clear hr h0 h1 h2
        go_enter Tryd.func35, Tryd.ntmps35
        go_wp2_with fail
        go_ret
        exact ⟨ret_bool HR.out, rfl⟩
/-- 'bytes.Clone' of a slice that is not nil. -/
theorem clone_any (ad : Addr) (n cap : Nat) (m : List (BitVec 8)) (w : World) (hn : n = m.length) (hl : m.length ≤ 1048576) (hr : Reads w (some ad) cap m) :
    Calls Tryd.prog 36 #[.slice (some ad) n cap] w (Copies w m) := by
  have hb : Below w.heap.size w (w.alloc (.cells #[] 5)) := (Below.refl _ _).alloc (Nat.le_refl _) _
  have ho : Owns (w.alloc (.cells #[] 5)) w.heap.size 5 (.slice (some ⟨w.heap.size, 0, none⟩) 0 0) [] :=
    ⟨rfl, .inr ⟨_, 0, #[], rfl, Nat.le_refl _, heap_alloc_new _ _, Nat.le_refl _, by unfold maxLen; omega, rfl, rfl⟩⟩
  have hr' := hr.keeps (Keeps.below hb)
  subst hn
  have hnil : ∀ W : World, (binOp .eql 24 (.slice (some ad) m.length cap) (.slice none 0 0)).run Tryd.prog W = .ok (.bool false) W :=
    fun W => Lib.run_eql_slice_nil (P := Tryd.prog) W 24 5 (some ad) m.length cap 0 0 byteSlice.slice
  go_enter Tryd.func36, Tryd.ntmps36
  go_wp2_with (at_builtin; go_must (refine wpList_append_bytes byteSlice rfl _ _ rfl w.heap.size _ [] rfl ho (some ad) cap m rfl hr' (by simp; omega) hb.size ?_))
  intro v' w' h1 h2
  go_wp2_with fail
  go_ret
  exact ⟨_, rfl, h1, grown_below hb (Nat.le_refl _) ho h2⟩
theorem results_cell3 {P : Program} {fn : Func} {p q r : Tmp} {ty : TypeId} (h : fn.results = #[.cell p ty, .tmp q, .tmp r]) (tmps : Array Value) (w : World) (g : Nat) (t : TypeId) (cs : Array Value) (fr : Nat × Nat) (d : TypeDesc)
    (hp : tmps.getD p undef = .pointer (some ⟨g, 0, none⟩)) (hg : w.heap[g]? = some (.cells cs t fr))
    (hu : P.underlying ty = some d) (hd : (match d with | .struct _ | .array _ _ => true | _ => false) = true) (hi : (P.info? ty).map (·.size) = some cs.size) :
    (results fn tmps).run P w = .ok (.tuple #[.agg cs, tmps.getD q undef, tmps.getD r undef]) w := by
  have hp' : tmps[p]?.getD undef = .pointer (some ⟨g, 0, none⟩) := by simpa using hp
  simp [results, h, hp', asAddr, run_loadVar_row w g t ty cs fr d hg hu hd hi]
theorem run_arrayAt {P : Program} (w : World) (t e : TypeId) (n len cap : Nat) (ad : Addr) (ht : P.underlying t = some (.array n e)) (h : n ≤ len) : (Instr.arrayAt t (.slice (some ad) len cap)).run P w = .ok (.pointer (some ad)) w := by
  unfold Instr.arrayAt
  simp [run_underlying ht, show ¬ len < n by omega]
theorem rangeAt_join {w : World} {b o : Nat} {xs ys : List Value} (h1 : w.rangeAt b o xs) (h2 : w.rangeAt b (o + xs.length) ys) : w.rangeAt b o (xs ++ ys) := fun j v hv => by
  rcases Nat.lt_or_ge j xs.length with h | h
  · rw [List.getElem?_append_left h] at hv
    exact h1 j v hv
  · rw [List.getElem?_append_right h] at hv
    have := h2 _ v hv
    rwa [show o + xs.length + (j - xs.length) = o + j by omega] at this
/-- A key laid into an entry. -/
theorem ent_key {w : World} {g : Nat} {t : Int} {k k' : List (BitVec 8)} {d : List (BitVec 8)} {dv : Value} (h : w.rangeAt g 0 (entC ⟨t, k, d⟩ dv)) (hf : ∀ o, w.frozen? ⟨g, o, none⟩ = false) (hk : k.length = 32) (hk' : k'.length = 32) :
    w.there g 1 (k'.map U8).length ∧ (w.setCells g 1 (k'.map U8)).rangeAt g 0 (entC ⟨t, k', d⟩ dv) := by
  have hl := length_entC (e := ⟨t, k, d⟩) (dv := dv) hk
  have th : w.there g 1 32 := fun j hj => ⟨by
    have := World.rangeAt.isSome h (1 + j) (by rw [hl]; omega)
    rwa [Nat.zero_add] at this, hf _⟩
  have hl' : (k'.map U8).length = 32 := by rw [List.length_map, hk']
  refine ⟨by rw [hl']; exact th, ?_⟩
  have e : entC ⟨t, k', d⟩ dv = [.int .i64 t] ++ (k'.map U8 ++ [dv]) := rfl
  rw [e]
  have h0 : w.rangeAt g 0 [.int .i64 t] := fun j v hv => h j v (by
    match j, hv with
    | 0, hv => exact hv)
  have h33 : w.rangeAt g 33 [dv] := fun j v hv => by
    match j, hv with
    | 0, hv =>
      simp at hv
      subst hv
      have := h 33 dv (entC_data hk)
      rwa [Nat.zero_add] at this
  refine rangeAt_join (World.rangeAt_setCells_apart h0 g _ _ (.inr (.inl (by simp)))) (rangeAt_join ?_ ?_)
  · exact World.rangeAt_setCells_same w g _ _ (by rw [hl']; exact th)
  · rw [hl']
    exact World.rangeAt_setCells_apart h33 g _ _ (.inr (.inr (by rw [hl']; omega)))
theorem ent_key' {w : World} {g : Nat} {t : Int} {k k' : List (BitVec 8)} {d : List (BitVec 8)} {dv : Value} {C : List Value} (hC : entC ⟨t, k, d⟩ dv = C) (h : w.rangeAt g 0 C) (hf : ∀ o, w.frozen? ⟨g, o, none⟩ = false) (hk : k.length = 32) (hk' : k'.length = 32) :
    w.there g 1 (k'.map U8).length ∧ (w.setCells g 1 (k'.map U8)).rangeAt g 0 (entC ⟨t, k', d⟩ dv) := by
  subst hC; exact ent_key h hf hk hk'
/-- Data laid into an entry. -/
theorem ent_data {w : World} {g : Nat} {t : Int} {k d d' : List (BitVec 8)} {dv dv' : Value} (h : w.rangeAt g 0 (entC ⟨t, k, d⟩ dv)) (hk : k.length = 32) : (w.setCell ⟨g, 33, none⟩ dv').rangeAt g 0 (entC ⟨t, k, d'⟩ dv') := by
  have hl := length_entC (e := ⟨t, k, d⟩) (dv := dv) hk
  have := rangeAt_set h 33 dv' (by rw [hl]; omega)
  rw [Nat.zero_add] at this
  have e : (entC ⟨t, k, d⟩ dv).set 33 dv' = entC ⟨t, k, d'⟩ dv' := by
    unfold entC
    rw [List.set_cons_succ, List.set_append_right _ _ (by simp [hk])]
    simp [hk]
  rw [e] at this
  exact this
end Go.Proofs.YtmcdjkfmfhbbnaaDoor
