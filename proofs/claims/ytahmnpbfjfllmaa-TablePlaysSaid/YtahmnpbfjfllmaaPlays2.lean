/- A table and the document's: both Puts, both Deletes, one behind the other. -/
import Derived.Test.YtahmnpbfjfllmaaPlays
namespace Go.Proofs.Ytahmnpbfjfllmaa
open Go Go.RowKit

theorem RefAt.made {w : World} {x : Nat} (h : RHead w x none 0 0 8 0) : RefAt w x none 0 [] 8 0 :=
  ⟨h, ⟨Nat.le_refl _, by omega, .inl rfl⟩, fun p hp => (by cases hp), fun ad e => (by cases e)⟩
theorem Sim.none8 : Sim (fun _ => zeroSlot) 8 [] :=
  ⟨fun k v => ⟨fun hh => (Tab.has_empty zeroSlot rfl 8 k v hh).elim, fun e => (by cases e)⟩, List.Pairwise.nil, fun p hp => (by cases hp)⟩
/-- A call's row, in whatever world behind. -/
theorem Dos.row {w : World} {a : Option Addr} {cap : Nat} {l : List Call} (h : Dos w a cap l) {i : Nat} (hi : i < l.length) : ∃ b off, a = some ⟨b, off, none⟩ ∧ ∀ w', Below w.heap.size w w' →
    w'.cell? ⟨b, off + i * 34, none⟩ = some (.int .i64 (callAt l i).kind) ∧ w'.cell? ⟨b, off + i * 34 + 33, none⟩ = some (.int .i64 (callAt l i).val) ∧ w'.rangeAt b (off + i * 34 + 1) ((callAt l i).key.map U8) := by
  obtain ⟨b, off, e, hrows⟩ := h.rows.resolve_left (fun e => by rw [e] at hi; simp at hi)
  refine ⟨b, off, e, fun w' hb => ?_⟩
  have k := Keeps.below hb
  have hr : w'.rangeAt b (off + i * 34) (callC (callAt l i)) := fun o v hv => k _ _ (hrows i hi o v hv)
  have ck := rangeAt_cell hr (callC_kind _)
  rw [Nat.add_zero] at ck
  have ckey := rangeAt_part hr 1 32
  rw [callC_key (h.key i hi)] at ckey
  exact ⟨ck, rangeAt_cell hr (callC_val (h.key i hi)), ckey⟩
theorem Both.start {w : World} {h b x : Nat} (t : TabAt w h b 8 (fun _ => zeroSlot) 0 0) (hx : RHead w x none 0 0 8 0) : Both w h b 8 (fun _ => zeroSlot) 0 0 x none 0 [] := ⟨t, RefAt.made hx, Sim.none8, rfl⟩
/-- What stands behind both calls. -/
def PairPost (w : World) (B h x n g : Nat) (r : Value) (e : Ending) (w2 : World) : Prop :=
  e = .returned r ∧ Below B w w2 ∧ ∃ (b' c' : Nat) (S' : Nat → SlotI) (n' g' : Nat) (a' : Option Addr) (cp' : Nat) (L' : List KV), Both w2 h b' c' S' n' g' x a' cp' L' ∧ Aside B h b' x a' ∧ n' ≤ n + 1 ∧ g' ≤ g + 1
section
variable {w : World} {B h b c n g x cp : Nat} {S : Nat → SlotI} {a : Option Addr} {L : List KV}
theorem pair_put (q : Both w h b c S n g x a cp L) (z : Aside B h b x a) (hB : B ≤ w.heap.size) (k : List (BitVec 8)) (hk : k.length = 32) (v : Int) (hn : n ≤ 80000) :
    Calls Try.prog 32 #[.pointer (some ⟨h, 0, none⟩), .agg (k.map U8).toArray, .int .i64 v] w fun e w1 => e = .returned (.tuple #[]) ∧ Below B w w1 ∧ ∀ m,
      Calls Try.prog 33 #[.pointer (some ⟨x, 0, none⟩), .agg (k.map U8).toArray, .int .i64 v] (w1.drewN m) (PairPost w B h x n g (.tuple #[])) := by
  have hlen := q.len
  have hbig := q.tab.look.big
  have hroom := q.tab.room
  have hlh := q.tab.head.lt
  have hlx := heap_lt q.ref.head
  refine (put_exact q.tab k hk v (by omega)).mono ?_
  rintro e w1 ⟨rfl, b', c', S', n', g', t', hS', hn', hb', ht', hN⟩
  have hbt : Below B w w1 := ht'.below (fun y e => by rcases e with rfl | rfl; exact z.hB; exact z.bB) hB
  refine ⟨rfl, hbt, fun m => ?_⟩
  have H := (q.half z t' ht').drewN m
  have hb1 := t'.look.rows.lt
  have hbx : b' ≠ x := by rcases hb' with rfl | e; exact z.bx; omega
  refine (rput_any H.ref k hk v (by omega) (by omega) (by omega)).mono ?_
  rintro e w2 ⟨rfl, a', cp', L', cap', dead', r', hs, hM, ha', ht2⟩
  have hsz : (w1.drewN m).heap.size = w1.heap.size := rfl
  have hsz1 := hbt.size
  have hsz2 := ht'.size
  have hnd := putNums_dead hN
  have hB1 : Below B w w2 := (below_drewN hbt m).trans (ht2.below (fun y e => by rw [e]; exact z.xB) (Nat.le_trans hB hsz1))
  exact ⟨rfl, hB1, b', c', S', n', g', a', cp', L', H.put (b0 := 0) hbx z.hx q.sim hlen hk hS' hN r' hs hM ht2,
    ⟨z.hx, hbx, fun ad e => by have := ha' ad e; omega, z.hB, by have := z.bB; omega, z.xB, fun ad e => by have := ha' ad e; omega⟩, by omega, by omega⟩
theorem pair_del (q : Both w h b c S n g x a cp L) (z : Aside B h b x a) (hB : B ≤ w.heap.size) (k : List (BitVec 8)) (hk : k.length = 32) (hn : n ≤ 80000) :
    Calls Try.prog 34 #[.pointer (some ⟨h, 0, none⟩), .agg (k.map U8).toArray] w fun e w1 => ∃ r : Bool, e = .returned (.bool r) ∧ Below B w w1 ∧ ∀ m,
      Calls Try.prog 35 #[.pointer (some ⟨x, 0, none⟩), .agg (k.map U8).toArray] (w1.drewN m) (PairPost w B h x n g (.bool r)) := by
  have hlen := q.len
  have hbig := q.tab.look.big
  have hroom := q.tab.room
  have hlh := q.tab.head.lt
  have hlx := heap_lt q.ref.head
  by_cases hex : ∃ p ∈ L, p.key = k
  · obtain ⟨v, hv⟩ := (q.sim.had k).2 hex
    refine (del_exact q.tab k hk v hv (by omega)).mono ?_
    rintro e w1 ⟨rfl, b', c', S', n', g', t', hS', hn', hb', ht', hN⟩
    have hbt : Below B w w1 := ht'.below (fun y e => by rcases e with rfl | rfl; exact z.hB; exact z.bB) hB
    refine ⟨true, rfl, hbt, fun m => ?_⟩
    have H := (q.half z t' ht').drewN m
    have hb1 := t'.look.rows.lt
    have hbx : b' ≠ x := by rcases hb' with rfl | e; exact z.bx; omega
    refine (rdel_hit H.ref k hk hex (by omega) (by omega) (by omega)).mono ?_
    rintro e w2 ⟨rfl, i, hi, a', cp', cap', dead', hik, r', hM, ha', ht2⟩
    have hsz : (w1.drewN m).heap.size = w1.heap.size := rfl
    have hsz1 := hbt.size
    have hsz2 := ht'.size
    have hnd := delNums_dead hN
    have hB1 : Below B w w2 := (below_drewN hbt m).trans (ht2.below (fun y e => by rw [e]; exact z.xB) (Nat.le_trans hB hsz1))
    exact ⟨rfl, hB1, b', c', S', n', g', a', cp', _, H.del (b0 := 0) hi hbx z.hx q.sim hlen hS' hN hik r' hM ht2,
      ⟨z.hx, hbx, fun ad e => by have := ha' ad e; omega, z.hB, by have := z.bB; omega, z.xB, fun ad e => by have := ha' ad e; omega⟩, by omega, by omega⟩
  · have hno : ∀ p ∈ L, p.key ≠ k := fun p hp e => hex ⟨p, hp, e⟩
    refine (del_miss q.tab k hk fun v hv => hex ((q.sim.had k).1 ⟨v, hv⟩)).mono ?_
    rintro e w1 ⟨rfl, hb1⟩
    refine ⟨false, rfl, hb1.mono hB, fun m => ?_⟩
    have q1 := (q.below hb1).drewN m
    refine (rdel_miss q1.ref k hk hno).mono ?_
    rintro e w2 ⟨rfl, hb2⟩
    exact ⟨rfl, (below_drewN (hb1.mono hB) m).trans (hb2.mono (Nat.le_trans hB hb1.size)), b, c, S, n, g, a, cp, L, q1.below hb2, z, by omega, by omega⟩
end
end Go.Proofs.Ytahmnpbfjfllmaa
