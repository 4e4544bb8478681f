/- The document's own table in memory: where a key stands, how many slots. -/
import Derived.Test.YtahmnpbfjfllmaaRefMath
import Derived.Test.YtahmnpbfjfllmaaOwn
import Derived.Test.YtahmnpbfjfllmaaRefLess
import Derived.Test.YtahmnpbfjfllmaaRenew
namespace Go.Proofs.Ytahmnpbfjfllmaa
open Go Go.RowKit

def kvC (p : KV) : List Value := p.key.map U8 ++ [.int .i64 p.val]
theorem length_kvC {p : KV} (h : p.key.length = 32) : (kvC p).length = 33 := by simp [kvC, h]
theorem kvC_val {p : KV} (h : p.key.length = 32) : (kvC p)[32]? = some (.int .i64 p.val) := by
  unfold kvC
  rw [List.getElem?_append_right (by simp [h])]
  simp [h]
theorem kvC_key {p : KV} (h : p.key.length = 32) : ((kvC p).drop 0).take 32 = p.key.map U8 := by
  unfold kvC
  rw [List.drop_zero, List.take_append_of_le_length (by simp [h]), List.take_of_length_le (by simp [h])]
theorem one_kvC (p : KV) : ∀ v ∈ kvC p, v.oneCell' = true := by
  intro v hv
  unfold kvC at hv
  rcases List.mem_append.1 hv with hv | hv
  · obtain ⟨c, _, rfl⟩ := List.mem_map.1 hv
    rfl
  · rw [List.mem_singleton] at hv
    subst hv; rfl
def rheadC (a : Option Addr) (n cp cap dead : Nat) : Array Value := #[.slice a n cp, .int .i64 cap, .int .i64 dead]
def RHead (w : World) (x : Nat) (a : Option Addr) (n cp cap dead : Nat) : Prop := w.heap[x]? = some (.cells (rheadC a n cp cap dead) 63 (0, 0))
section
variable {w w' : World} {x : Nat} {a : Option Addr} {n cp cap dead : Nat}
theorem RHead.c0 (k : RHead w x a n cp cap dead) : w.cell? ⟨x, 0, none⟩ = some (.slice a n cp) := by rw [cell_of_row _ _ _ _ _ _ k]; rfl
theorem RHead.c1 (k : RHead w x a n cp cap dead) : w.cell? ⟨x, 1, none⟩ = some (.int .i64 cap) := by rw [cell_of_row _ _ _ _ _ _ k]; rfl
theorem RHead.c2 (k : RHead w x a n cp cap dead) : w.cell? ⟨x, 2, none⟩ = some (.int .i64 dead) := by rw [cell_of_row _ _ _ _ _ _ k]; rfl
theorem RHead.thawed (k : RHead w x a n cp cap dead) (o : Nat) : w.frozen? ⟨x, o, none⟩ = false := frozen_of_row w x o _ _ k
theorem RHead.touch {F : Nat → Prop} (k : RHead w x a n cp cap dead) (t : Touch F w w') (h1 : ¬ F x) : RHead w' x a n cp cap dead := (t.block x (heap_lt k) h1).trans k
theorem RHead.set0 (k : RHead w x a n cp cap dead) (a' : Option Addr) (n' cp' : Nat) : RHead (w.setCell ⟨x, 0, none⟩ (.slice a' n' cp')) x a' n' cp' cap dead := by
  unfold RHead
  rw [heap_setCell_same w x 0 _ _ _ k]; rfl
theorem RHead.set1 (k : RHead w x a n cp cap dead) (c' : Nat) : RHead (w.setCell ⟨x, 1, none⟩ (.int .i64 c')) x a n cp c' dead := by
  unfold RHead
  rw [heap_setCell_same w x 1 _ _ _ k]; rfl
theorem RHead.set2 (k : RHead w x a n cp cap dead) (d' : Nat) : RHead (w.setCell ⟨x, 2, none⟩ (.int .i64 d')) x a n cp cap d' := by
  unfold RHead
  rw [heap_setCell_same w x 2 _ _ _ k]; rfl
end
structure RefAt (w : World) (x : Nat) (a : Option Addr) (cp : Nat) (L : List KV) (cap dead : Nat) : Prop where
  head : RHead w x a L.length cp cap dead
  rows : RowsC kvC 33 w a cp L
  key : ∀ p ∈ L, p.key.length = 32
  apart : ∀ ad, a = some ad → ad.block ≠ x ∧ ad.block < w.heap.size
theorem RefAt.touch {F : Nat → Prop} {w w' : World} {x : Nat} {a : Option Addr} {cp : Nat} {L : List KV} {cap dead : Nat} (h : RefAt w x a cp L cap dead) (t : Touch F w w') (h1 : ¬ F x) (h2 : ∀ ad, a = some ad → ¬ F ad.block) : RefAt w' x a cp L cap dead :=
  ⟨h.head.touch t h1, h.rows.touch t h2, h.key, fun ad e => ⟨(h.apart ad e).1, Nat.lt_of_lt_of_le (h.apart ad e).2 t.size⟩⟩
theorem RefAt.below {w w' : World} {x : Nat} {a : Option Addr} {cp : Nat} {L : List KV} {cap dead : Nat} (h : RefAt w x a cp L cap dead) (t : Below w.heap.size w w') : RefAt w' x a cp L cap dead := h.touch (F := fun _ => False) (.of_below t) id fun _ _ => id
theorem slots_any (w : World) (N : Nat) (hN : N ≤ 100000) : Calls Try.prog 51 #[.int .i64 N] w fun e w' => (∃ c : Nat, e = .returned (.int .i64 c) ∧ Tab.Sized N c) ∧ w = w' := by
  go_enter Try.func51, Try.ntmps51
  go_wp2
  go_loopw [3] (fun x wr => SizeRel N w x wr) (fun x _ => 4 * N + 16 - (intOf x).toNat)
  case atStart => exact ⟨8, rfl, ⟨3, rfl⟩, by omega, .inl rfl, rfl⟩
  case round =>
    obtain ⟨c', rfl, hpow, h8, hlt, rfl⟩ := hrel
    by_cases hmore : c' < 2 * N
    · have hd : (c' : Int) < 2 * (N : Int) := by omega
      go_wp2
      go_roundw
      case rel =>
        obtain ⟨m, hm⟩ := hpow
        exact ⟨c' + c', by go_num, ⟨m + 1, by rw [hm, Nat.pow_succ]; omega⟩, by omega, .inr (by omega), rfl⟩
      case measure => simp [intOf]; omega
    · have hd : ¬ (c' : Int) < 2 * (N : Int) := by omega
      go_wp2
      go_ret
      exact ⟨⟨c', rfl, hpow, h8, by omega, hlt⟩, rfl⟩
def AtRel (w1 : World) (L : List KV) (k : List (BitVec 8)) (x : Value) (wr : World) : Prop :=
  ∃ i n : Nat, i ≤ L.length ∧ x = .int .i64 i ∧ (∀ j (h : j < L.length), j < i → L[j].key ≠ k) ∧ wr = w1.drewN n
set_option maxHeartbeats 1000000 in
theorem at_any {w : World} {x : Nat} {a : Option Addr} {cp : Nat} {L : List KV} {cap dead : Nat} (h : RefAt w x a cp L cap dead) (k : List (BitVec 8)) (hk : k.length = 32) :
    Calls Try.prog 31 #[.pointer (some ⟨x, 0, none⟩), .agg (k.map U8).toArray] w fun e w' => (∃ r, e = .returned (.int .i64 r) ∧ AtOf L k r) ∧ Below w.heap.size w w' := by
  have row : (w.alloc (.cells (k.map U8).toArray 23)).heap[w.heap.size]? = some (.cells (k.map U8).toArray 23 (0, 0)) := heap_alloc_new w _
  have hb : Below w.heap.size w (w.alloc (.cells (k.map U8).toArray 23)) := (Below.refl _ _).alloc (Nat.le_refl _) _
  have h1 := h.below hb
  have hik : (Try.prog.info? 23).map (·.size) = some (k.map U8).toArray.size := by rw [List.size_toArray, List.length_map, hk]; kernel_rfl
  have HEQ := fun (m : List (BitVec 8)) (hm : m.length = 32) (w : World) => run_eq_key m k hm hk w
  have hfit := h.rows.fits
  have hroom := h.rows.room
  have H1 := Lib.hid h1
  have c0 := h1.head.c0
  clear h h1
  generalize hKE : (k.map U8).toArray = K at *
  clear hKE
  go_enter Try.func31, Try.ntmps31
  go_wp2_with fail
  generalize w.alloc (.cells K 23) = w1 at *
  go_loopw [5] (fun i wr => AtRel w1 L k i wr) (fun i _ => L.length - (intOf i).toNat)
  case atStart => exact ⟨0, 0, Nat.zero_le _, rfl, fun j _ h => by omega, rfl⟩
  case round =>
    obtain ⟨i, n, hi, rfl, hno, hwr⟩ := hrel
    have rowr : (w1.drewN n).heap[w.heap.size]? = some (.cells K 23 (0, 0)) := row
    have c0r : (w1.drewN n).cell? ⟨x, 0, none⟩ = some (.slice a L.length cp) := c0
    have Hr := H1.out.touch (F := fun _ => False) ((Touch.refl _ w1).drewN n) id fun _ _ => id
    have hbr := below_drewN hb n
    rw [← hwr] at rowr c0r Hr hbr
    have HNO := Lib.hid hno
    have HWR := Lib.hid hwr
    have HBR := Lib.hid hbr
    clear hwr row c0 hb hno hbr
    by_cases hlt : i < L.length
    · obtain ⟨b0, off, rfl, hrows⟩ := Hr.rows.rows.resolve_left (fun e => by rw [e] at hlt; simp at hlt)
      have hr := hrows i hlt
      have hkey := Hr.key L[i] (List.getElem_mem hlt)
      have ckey := rangeAt_part hr 0 32
      rw [kvC_key hkey, Nat.add_zero] at ckey
      have hiM : (Try.prog.info? 23).map (·.size) = some (L[i].key.map U8).length := by rw [List.length_map, hkey]; kernel_rfl
      have heq := HEQ L[i].key hkey
      have hkk : (L[i].key == k) = true ↔ L[i].key = k := beq_iff_eq
      have hatn := Lib.hid (fun e : L[i].key = k => (show AtOf L k i from .inr ⟨i, hlt, rfl, e⟩))
      have hnext := Lib.hid (fun (e : L[i].key ≠ k) (j : Nat) (h : j < L.length) (h2 : j < i + 1) => (show L[j].key ≠ k by
        by_cases e2 : j = i
        · subst e2; exact e
        · exact HNO.out j h (by omega)))
      clear hr hrows Hr HEQ hkey
      generalize L[i].key = m at *
      generalize hMM : m.map U8 = M at *
      clear hMM
      by_cases hq : m = k
      · have hqb : (m == k) = true := hkk.2 hq
        rw [hqb] at heq
        have HQ := Lib.hid hq
        clear hkk hqb hq
        go_wp2_with fail
        refine wp_region_quiet_lit (by kernel_rfl) (by kernel_rfl) ?_
        repeat (first
          | (go_big_quiet_want; refine quiet_mid_of (fun w' e => (show w'.rangeAt b0 (off + i * 33) M from by obtain ⟨_, rfl⟩ := e; exact ckey)) Try.underlying23 rfl hiM rfl rfl ?_; simp only [Act.put, List.setIfInBounds_toArray, List.set_cons_succ, List.set_cons_zero]; go_big_quiet_on)
          | (go_big_quiet_want; refine quiet_row_of (fun w' e => (show w'.heap[w.heap.size]? = some (.cells K 23 (0, 0)) from by obtain ⟨_, rfl⟩ := e; exact rowr)) Try.underlying23 rfl hik rfl rfl ?_; simp only [Act.put, List.setIfInBounds_toArray, List.set_cons_succ, List.set_cons_zero]; go_big_quiet_on)
          | go_big_quiet_step (fail)
          | quiet_step (fail))
        refine wpQuiet_nil ?_
        rintro _ ⟨nq, rfl⟩
        clear heq ckey rowr
        go_wp2
        go_ret
        exact ⟨⟨_, rfl, hatn.out HQ.out⟩, below_drewN HBR.out nq⟩
      · have hqb : (m == k) = false := by
          cases e : m == k with
          | false => rfl
          | true => exact (hq (hkk.1 e)).elim
        rw [hqb] at heq
        have HQ := Lib.hid hq
        clear hkk hqb hq
        go_wp2_with fail
        refine wp_region_quiet_lit (by kernel_rfl) (by kernel_rfl) ?_
        repeat (first
          | (go_big_quiet_want; refine quiet_mid_of (fun w' e => (show w'.rangeAt b0 (off + i * 33) M from by obtain ⟨_, rfl⟩ := e; exact ckey)) Try.underlying23 rfl hiM rfl rfl ?_; simp only [Act.put, List.setIfInBounds_toArray, List.set_cons_succ, List.set_cons_zero]; go_big_quiet_on)
          | (go_big_quiet_want; refine quiet_row_of (fun w' e => (show w'.heap[w.heap.size]? = some (.cells K 23 (0, 0)) from by obtain ⟨_, rfl⟩ := e; exact rowr)) Try.underlying23 rfl hik rfl rfl ?_; simp only [Act.put, List.setIfInBounds_toArray, List.set_cons_succ, List.set_cons_zero]; go_big_quiet_on)
          | go_big_quiet_step (fail)
          | quiet_step (fail))
        refine wpQuiet_nil ?_
        rintro _ ⟨nq, rfl⟩
        clear heq ckey rowr
        go_wp2
        go_roundw
        case rel => exact ⟨i + 1, n + nq, by omega, by go_num, hnext.out HQ.out, by rw [HWR.out, World.drewN_drewN]⟩
        case measure => simp [intOf]; omega
    · obtain rfl : i = L.length := by omega
      clear Hr
      go_wp2
      go_ret
      exact ⟨⟨_, rfl, .inl ⟨rfl, fun p hp => by
        obtain ⟨j, hj, rfl⟩ := List.getElem_of_mem hp
        exact HNO.out j hj hj⟩⟩, HBR.out⟩
end Go.Proofs.Ytahmnpbfjfllmaa
