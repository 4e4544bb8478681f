/- The law's walk: ShaSums. -/
import Derived.Test.YtnodcjjmodbjiaaDoorRSum
import Derived.Stop.BytesEq
namespace Go.Proofs.YtnodcjjmodbjiaaDoor
open Go Go.RowKit

def ub (c : BitVec 8) : UInt8 := UInt8.ofNat c.toNat
theorem ub_inj {c d : BitVec 8} (h : ub c = ub d) : c = d := by
  apply BitVec.eq_of_toNat_eq
  have := congrArg UInt8.toNat h
  simpa [ub] using this
theorem map_ub_beq : ∀ k m : List (BitVec 8), (k.map ub == m.map ub) = (k == m) := fun k m => by
  rw [Bool.eq_iff_iff, beq_iff_eq, beq_iff_eq]
  constructor
  · intro h
    induction k generalizing m with
    | nil => cases m with
      | nil => rfl
      | cons d m => simp at h
    | cons c k ih => cases m with
      | nil => simp at h
      | cons d m =>
        simp only [List.map_cons, List.cons.injEq] at h
        rw [ub_inj h.1, ih m h.2]
  · rintro rfl; rfl
theorem map_cell (k : List (BitVec 8)) : (k.map ub).map Extern.Stop.cell = k.map U8 := by
  rw [List.map_map]
  apply List.map_congr_left
  intro c _
  simp [Extern.Stop.cell, ub, U8]
theorem run_eq_id (k m : List (BitVec 8)) (hk : k.length = 32) (hm : m.length = 32) (w : World) :
    (binOp .eql 26 (.agg (k.map U8).toArray) (.agg (m.map U8).toArray)).run Tryd.prog w = .ok (.bool (k == m)) w := by
  have h := run_eql_bytes (P := Tryd.prog) w 26 5 32 Tryd.underlying26 Tryd.underlying5 (fun w => by kernel_rfl) (k.map ub) (m.map ub) (by simpa using hk) (by simpa using hm)
  rw [map_cell, map_cell, map_ub_beq] at h
  exact h
theorem Reads.lt {w : World} {a : Option Addr} {cap : Nat} {l : List (BitVec 8)} (h : Reads w a cap l) (hl : l ≠ []) : ∀ ad, a = some ad → ad.block < w.heap.size := fun ad e => by
  obtain ⟨b, off, e2, hb⟩ := h.bytes.resolve_left hl
  rw [e] at e2
  injection e2 with e2
  rw [e2]
  have := hb 0 (List.length_pos_iff.2 hl)
  exact World.block_lt_of_cell? w _ this
theorem sum_any' (a : Option Addr) (cap : Nat) (l : List (BitVec 8)) (w : World) (hr : Reads w a cap l) (hl : l.length ≤ 1048576) (hk : KTab w) :
    Calls Tryd.prog 11 #[.slice a l.length cap] w fun e w' => e = .returned (.agg ((Sha.sum l).map U8).toArray) ∧ Below w.heap.size w w' :=
  ssum_any a cap l w hr hl hk fun h ad e => hr.lt h ad e
theorem shaSums_walk (a : Option Addr) (cap : Nat) (l : List (BitVec 8)) (w : World) (hk : KTab w) (hr : Reads w a cap l) :
    Calls Tryd.prog 3 #[.slice a l.length cap] w fun e w' => e = .returned (.bool true) ∧ Below w.heap.size w w' := by
  go_enter Tryd.func3, Tryd.ntmps3
  go_wp2_with fail
  refine (cut_any _ _ l 300 _ _ rfl hr (by decide)).mono ?_
  rintro e w' ⟨rfl, rfl⟩
  have hm := hr.take 300
  have hlen : (l.take 300).length ≤ 300 := by rw [List.length_take]; omega
  generalize l.take 300 = m at *
  go_wp2_with fail
  refine (copy_any _ _ m _ hm (by omega)).mono ?_
  rintro e w1 ⟨v, rfl, ho, hb⟩
  obtain ⟨a1, c1, rfl, hr1⟩ := ho.reads
  have hm1 := hm.keeps (Keeps.below hb)
  have hk1 := hk.keeps (Keeps.below hb)
  have SU := sum_any' a1 c1 m w1 hr1 (by omega) hk1
  have heq := fun w => run_eq_id (Sha.sum m) (Sha.sum m) (sum_length m) (sum_length m) w
  rw [beq_self_eq_true] at heq
  have RS := fun w' (h : Reads w' a cap m) => rsum_any a cap m w' h (by omega)
  generalize Sha.sum m = D at *
  go_wp2_with fail
  refine SU.mono ?_
  rintro e w2 ⟨rfl, hb2⟩
  have hm2 := hm1.keeps (Keeps.below hb2)
  go_wp2_with fail
  refine (RS w2 hm2).mono ?_
  rintro e w3 ⟨rfl, hb3⟩
  have hb23 := hb2.trans (hb3.mono hb2.size)
  have hm3 := hm1.keeps (Keeps.below hb23)
  have hr3 := hr1.keeps (Keeps.below hb23)
  have hk3 := hk1.keeps (Keeps.below hb23)
  clear SU RS
  go_wp2_with fail
  refine (same_any _ _ _ _ m m _ hr3 hm3).mono ?_
  rintro e w' ⟨n, rfl, rfl⟩
  rw [beq_self_eq_true]
  go_wp2_with fail
  refine (lives_any _ (hk3.keeps (Keeps.drewN _ n))).mono ?_
  rintro e w4 ⟨rfl, hb4⟩
  go_wp2
  go_ret
  have hbb := hb.trans (hb23.mono hb.size)
  exact ⟨rfl, (below_drewN hbb n).trans (hb4.mono hbb.size)⟩
end Go.Proofs.YtnodcjjmodbjiaaDoor
