/- The hasher's Copy; what nobody's hasher answers. -/
import Derived.Test.YtnodcjjmodbjiaaDoorShaSumsW
namespace Go.Proofs.YtnodcjjmodbjiaaDoor
open Go Go.RowKit

section
variable {w w' : World} {B b : Nat} {v : Value} {l : List (BitVec 8)}
theorem Hasher.touch {F : Nat → Prop} (h : Hasher w B b v l) (t : Touch F w w') (hb : ¬ F b) (hv : ∀ k, v.ownBlock = some k → ¬ F k) : Hasher w' B b v l :=
  ⟨h.at_.touch t hb, t.owns h.own hv, h.vb, h.low⟩
theorem Hasher.below (h : Hasher w B b v l) (hb : Below w.heap.size w w') : Hasher w' B b v l := h.touch (F := fun _ => False) (.of_below hb) (fun e => e) fun _ _ e => e
theorem Hasher.lt (h : Hasher w B b v l) : b < w.heap.size ∧ ∀ k, v.ownBlock = some k → B ≤ k ∧ k < w.heap.size := ⟨h.at_.lt, fun k hk => row_lt h.own hk⟩
end
theorem zero_hasher : ∃ z : Array Value, (∀ w, Sem.run Tryd.prog (zeroValue 46) w = .ok (.agg z) w) ∧ z.size = 11 ∧ z = (hashCells false (List.replicate 8 0#32) (.slice none 0 0) 0).toArray := ⟨_, fun w => by kernel_rfl, by simp [hashCells], rfl⟩
theorem hash_size (m : Bool) (f : Words) (v : Value) (n : Int) (h : f.length = 8) : (Tryd.prog.info? 46).map (·.size) = some (hashCells m f v n).toArray.size := by
  rw [List.size_toArray, show (hashCells m f v n).length = 11 by simp [hashCells, h]]; kernel_rfl
theorem hash_one (m : Bool) (f : Words) (a : Option Addr) (len cap : Nat) (n : Int) : (hashCells m f (.slice a len cap) n).toArray.all (·.oneCell') = true := by
  rw [Array.all_eq_true_iff_forall_mem]
  intro x hx
  rw [List.mem_toArray] at hx
  simp only [hashCells, List.mem_cons, List.mem_append, List.mem_map, List.not_mem_nil, or_false] at hx
  rcases hx with rfl | ⟨y, _, rfl⟩ | rfl | rfl <;> rfl
set_option maxHeartbeats 1000000 in
theorem hcopy_any {w : World} {B b : Nat} {v : Value} {l : List (BitVec 8)} (h : Hasher w B b v l) : Calls Tryd.prog 17 #[.pointer (some ⟨b, 0, none⟩)] w fun e w' =>
    ∃ b2 v2, e = .returned (.pointer (some ⟨b2, 0, none⟩)) ∧ Hasher w' w.heap.size b2 v2 l ∧ Below w.heap.size w w' := by
  have OK := hok_any h.at_
  obtain ⟨z, hz, hzs, hz3⟩ := zero_hasher
  clear hz3
  obtain ⟨a, cap, rfl, hr⟩ := h.own.reads
  have hll : (Sha.left l).length < 64 := by rw [Sha.left_length]; omega
  have hiv := hash_size true (Sha.held l).list (.slice a (Sha.left l).length cap) l.length h.at_.len
  have hov := hash_one true (Sha.held l).list a (Sha.left l).length cap l.length
  have hrow := h.at_.row
  have hfl := h.at_.len
  have hat := h.at_
  have HH := Lib.hid h
  clear h
  have hxr : ∀ w', Hasher w' w.heap.size w.heap.size (.slice none 0 0) l → True := fun _ _ => trivial
  generalize hrl : Sha.left l = r at *
  have HRL := Lib.hid hrl
  clear hrl hxr
  generalize hsl : (Sha.held l).list = f at *
  have HSL := Lib.hid hsl
  clear hsl
  obtain ⟨C, hC⟩ : ∃ C, (hashCells true f (.slice a r.length cap) l.length).toArray = C := ⟨_, rfl⟩
  rw [hC] at hiv hov hrow
  have hsz : z.size = C.size := by rw [hzs, ← hC]; simp [hashCells, hfl]
  have HC := Lib.hid hC
  clear hC
  have h8 : (w.alloc (.cells z 46)).heap[w.heap.size]? = some (.cells z 46 (0, 0)) := heap_alloc_new w _
  have t9 : Touch (fun q => q = w.heap.size) w ((w.alloc (.cells z 46)).setRow w.heap.size C) := ((Touch.refl _ _).alloc _).trans (Touch.setRow _ _ _ rfl)
  have d9 : HAt ((w.alloc (.cells z 46)).setRow w.heap.size C) w.heap.size true f (.slice a r.length cap) l.length := ⟨by rw [setRow_heap (w.alloc (.cells z 46)) w.heap.size z C 46 _ h8, HC.out], hfl⟩
  have hb9 := t9.below (B := w.heap.size) (fun q e => by have e2 : q = w.heap.size := e; omega) (Nat.le_refl _)
  have c9 := (hat.touch t9 (fun e => by have := hat.lt; have e2 : b = w.heap.size := e; omega)).rest
  have hr9 := hr.keeps (Keeps.below hb9)
  have CL := clone_any a cap r ((w.alloc (.cells z 46)).setRow w.heap.size C) hr9 (by omega)
  clear hat hr hr9
  go_enter Tryd.func17, Tryd.ntmps17
  go_wp2_with fail
  refine OK.mono ?_
  rintro e w' ⟨rfl, rfl⟩
  clear OK
  go_wp2_with (first
    | (refine wpList_load_row rfl 46 _ rfl b rfl _ C _ _ hrow Tryd.underlying46 rfl hiv ?_)
    | (refine wpList_store_row rfl 46 _ _ rfl w.heap.size C rfl rfl _ z h8 hiv hsz hov ?_; generalize (w.alloc (.cells z 46)).setRow w.heap.size C = w9 at *))
  refine CL.mono ?_
  rintro e w5 ⟨vv, rfl, ho5, hb5⟩
  have d5 := d9.below hb5
  have f9 := d5.thawed 9
  have e9 := d5.rest
  obtain ⟨a5, c5, rfl, _⟩ := ho5.reads
  have d6 := d5.setRest (.slice a5 r.length c5)
  have t6 : Touch (fun q => q = w.heap.size) w5 (w5.setCell ⟨w.heap.size, 9, none⟩ (.slice a5 r.length c5)) := Touch.set w5 w.heap.size 9 _ rfl
  have hown : ∀ q, (Value.slice a5 r.length c5).ownBlock = some q → w9.heap.size ≤ q := fun q hq => (row_lt ho5 hq).1
  have hgl := d9.lt
  have hs9 := hb9.size
  have HD := Lib.hid d6
  have HO := Lib.hid (t6.owns ho5 fun q hq e => by have := hown q hq; have e2 : q = w.heap.size := e; omega)
  have HB := Lib.hid ((hb9.trans (hb5.mono hs9)).trans (t6.below (fun q e => by have e2 : q = w.heap.size := e; omega) (Nat.le_trans hs9 hb5.size)))
  clear CL d5 d6 ho5 hb5 t6
  go_wp2
  go_ret
  refine ⟨w.heap.size, .slice a5 r.length c5, rfl, ⟨?_, ?_, ?_, Nat.le_refl _⟩, HB.out⟩
  · rw [HSL.out]; exact HD.out
  · rw [HRL.out]; exact HO.out.mono hs9
  · intro e; have := hown _ e; omega
end Go.Proofs.YtnodcjjmodbjiaaDoor
