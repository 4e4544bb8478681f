/- Sums in digits: the program's Hex. -/
import Derived.Test.YtnodcjjmodbjiaaDoorHCopy
import Derived.Laws.BytesString
namespace Go.Proofs.YtnodcjjmodbjiaaDoor
open Go Go.RowKit

/-- A text as the model holds it. -/
def bs (l : List (BitVec 8)) : ByteArray := ⟨(l.map ub).toArray⟩
theorem bs_size (l : List (BitVec 8)) : (bs l).size = l.length := by simp [bs, ByteArray.size]
theorem bs_inj {l m : List (BitVec 8)} (h : bs l = bs m) : l = m := by
  have h1 : (l.map ub).toArray = (m.map ub).toArray := congrArg ByteArray.data h
  have h2 : l.map ub = m.map ub := by simpa using congrArg Array.toList h1
  have h3 := map_ub_beq l m
  rw [h2, beq_self_eq_true] at h3
  exact (beq_iff_eq.1 h3.symm)
theorem bs_push (l : List (BitVec 8)) : ∀ s : ByteArray, (l.map fun c => (c.toNat : Int)).foldl (fun r n => r.push (UInt8.ofNat n.toNat)) s = ⟨s.data ++ (l.map ub).toArray⟩ := by
  induction l with
  | nil => intro s; simp
  | cons c l ih =>
    intro s
    rw [List.map_cons, List.foldl_cons, ih]
    congr 1
    show s.data.push (ub c) ++ (l.map ub).toArray = s.data ++ ((c :: l).map ub).toArray
    simp
theorem run_str (b off cap : Nat) (l : List (BitVec 8)) (w : World) (hb : BytesAt w b off l) :
    (convert 22 9 (.slice (some ⟨b, off, none⟩) l.length cap)).run Tryd.prog w = .ok (.string (bs l)) w := by
  rw [run_convert_bytes_string w 22 9 5 _ _ _ byteSlice.slice Tryd.underlying5 Tryd.underlying9]
  have hl := run_loadCells_list (P := Tryd.prog) w ⟨b, off, none⟩ ((l.map fun c => (c.toNat : Int)).map (Value.int .u8)) (fun j v hv => by
    rw [List.map_map, List.getElem?_map] at hv
    obtain ⟨c, hc, rfl⟩ := Option.map_eq_some_iff.1 hv
    obtain ⟨hj, hc'⟩ := List.getElem?_eq_some_iff.1 hc
    rw [Addr.add_lit, hb j hj, byteAt_lt hj, hc']
    rfl)
  rw [List.length_map, List.length_map] at hl
  rw [run_bytesToString w ⟨b, off, none⟩ l.length cap (l.map fun c => (c.toNat : Int)) hl, bs_push]
  congr 2
  show (⟨#[] ++ (l.map ub).toArray⟩ : ByteArray) = bs l
  simp [bs]
def hexd (n : BitVec 8) : BitVec 8 := if n < 10#8 then n + 48#8 else n + 87#8
def hexOf (d : List (BitVec 8)) : List (BitVec 8) := d.flatMap fun (c : BitVec 8) => [hexd (c >>> 4), hexd (c &&& 15#8)]
theorem hex_table : ∀ x : BitVec 8, x < 16#8 → ((⟨#[48, 49, 50, 51, 52, 53, 54, 55, 56, 57, 97, 98, 99, 100, 101, 102]⟩ : ByteArray).data[x.toNat]?).map UInt8.toNat = some (hexd x).toNat := by decide +kernel
theorem run_digit (x : BitVec 8) (h : x < 16#8) (w : World) : (Instr.index 9 (.string ⟨#[48, 49, 50, 51, 52, 53, 54, 55, 56, 57, 97, 98, 99, 100, 101, 102]⟩) (U8 x)).run Tryd.prog w = .ok (U8 (hexd x)) w := by
  have ht := hex_table x h
  have hx : x.toNat < 16 := by have := BitVec.lt_def.1 h; simpa using this
  have hs : (⟨#[48, 49, 50, 51, 52, 53, 54, 55, 56, 57, 97, 98, 99, 100, 101, 102]⟩ : ByteArray).size = 16 := rfl
  rw [show U8 x = Value.int .u8 (x.toNat : Int) from rfl, run_index_string w 9 _ .u8 (x.toNat : Int) Tryd.underlying9, dif_pos ⟨by omega, by rw [hs]; omega⟩]
  have h2 : ((⟨#[48, 49, 50, 51, 52, 53, 54, 55, 56, 57, 97, 98, 99, 100, 101, 102]⟩ : ByteArray)[((x.toNat : Int)).toNat]'(by rw [hs]; omega)).toNat = (hexd x).toNat := by
    have h3 : (⟨#[48, 49, 50, 51, 52, 53, 54, 55, 56, 57, 97, 98, 99, 100, 101, 102]⟩ : ByteArray).data[x.toNat]? = some ((⟨#[48, 49, 50, 51, 52, 53, 54, 55, 56, 57, 97, 98, 99, 100, 101, 102]⟩ : ByteArray)[((x.toNat : Int)).toNat]'(by rw [hs]; omega)) := by
      rw [Array.getElem?_eq_getElem (show x.toNat < (⟨#[48, 49, 50, 51, 52, 53, 54, 55, 56, 57, 97, 98, 99, 100, 101, 102]⟩ : ByteArray).data.size from by rw [show (⟨#[48, 49, 50, 51, 52, 53, 54, 55, 56, 57, 97, 98, 99, 100, 101, 102]⟩ : ByteArray).data.size = 16 from rfl]; exact hx)]
      rfl
    rw [h3] at ht
    exact Option.some.inj ht
  rw [h2]
  rfl
theorem lt16_shr : ∀ c : BitVec 8, c >>> 4 < 16#8 := by decide +kernel
theorem lt16_and : ∀ c : BitVec 8, c &&& 15#8 < 16#8 := by decide +kernel
theorem run_index_id (d : List (BitVec 8)) (hd : d.length = 32) (k : Nat) (hk : k < 32) (w : World) : (Instr.index 26 (.agg (d.map U8).toArray) (.int .i64 k)).run Tryd.prog w = .ok (U8 (byteAt d k)) w := by
  have hu : Tryd.prog.underlying 26 = some (.array 32 5) := by kernel_rfl
  have hu2 : Tryd.prog.underlying 5 = some (.int .u8) := by kernel_rfl
  have hs : ∀ w, (sizeOf 5).run Tryd.prog w = .ok 1 w := fun w => by kernel_rfl
  have hg : (d.map U8).toArray[k]? = some (U8 (byteAt d k)) := by simp [byteAt, List.getD_eq_getElem?_getD, List.getElem?_eq_getElem (show k < d.length by omega)]
  have h1 : (k : Int) < 32 := by omega
  simp [Instr.index, run_underlying hu, asIntOf, h1, part, isAgg, run_underlying hu2, hs]
  have hk2 : k < 32 := hk
  simp [List.getElem?_toArray] at hg
  obtain ⟨x, hx, e⟩ := hg
  simp [hx, e]
  intro h; omega
theorem hex_snoc (d : List (BitVec 8)) (k : Nat) (h : k < d.length) : hexOf (d.take (k + 1)) = hexOf (d.take k) ++ [hexd (byteAt d k >>> 4), hexd (byteAt d k &&& 15#8)] := by
  unfold hexOf
  rw [take_snoc d k h, List.flatMap_append]; rfl
theorem length_hex (d : List (BitVec 8)) : (hexOf d).length = 2 * d.length := by
  unfold hexOf
  induction d with
  | nil => rfl
  | cons c d ih => rw [List.flatMap_cons, List.length_append, ih]; simp; omega
def HexRel (d : List (BitVec 8)) (B : Nat) (w : World) (s i : Value) (wr : World) : Prop :=
  ∃ k : Nat, k ≤ 32 ∧ i = .int .i64 k ∧ Owns wr B 5 s (hexOf (d.take k)) ∧ Below B w wr
set_option maxHeartbeats 1000000 in
theorem hex_any (d : List (BitVec 8)) (hd : d.length = 32) (w : World) : Calls Tryd.prog 15 #[.agg (d.map U8).toArray] w fun e w' => e = .returned (.string (bs (hexOf d))) ∧ Below w.heap.size w w' := by
  have hiv := id_size d hd
  have HIX := fun k (hk : k < 32) w => run_index_id d hd k hk w
  have hrow : (w.alloc (.cells (d.map U8).toArray 26)).heap[w.heap.size]? = some (.cells (d.map U8).toArray 26 (0, 0)) := heap_alloc_new w _
  have hb1 : Below w.heap.size w (w.alloc (.cells (d.map U8).toArray 26)) := (Below.refl _ _).alloc (Nat.le_refl _) _
  generalize (d.map U8).toArray = E at *
  have hs1 : w.heap.size ≤ (w.alloc (.cells E 26)).heap.size := hb1.size
  have hlt1 := heap_lt hrow
  obtain ⟨i0, hi0, hi1, hi2, hi3⟩ := info_parts byteSlice.info
  go_enter Tryd.func15, Tryd.ntmps15
  go_wp2_with (first
    | (at_make; refine wpList_make_own (w.alloc (.cells E 26)) rfl _ _ _ rfl w.heap.size 5 i0 (.int .u8 0) 1 byteSlice.slice hi0 hi1 hi2 .i64 .i64 64 64 rfl rfl rfl (by rw [hi3]; omega) (by unfold maxLen; omega) hs1 ?_; intro w2 hr2 hg2; have hrow2 := (hg2.block w.heap.size hlt1 (by simp)).trans hrow)
    | (refine wpList_load_row rfl 26 _ rfl w.heap.size rfl _ E _ _ hrow2 Tryd.underlying26 rfl hiv ?_))
  have hb2 : Below w.heap.size w w2 := hb1.trans ((Touch.of_grown (F := fun _ => False) hg2 fun k hk => by cases hk).below (fun _ e => e.elim) hs1)
  have o2 : Owns w2 w.heap.size 5 (.slice (some ⟨(w.alloc (.cells E 26)).heap.size, 0, none⟩) 0 64) [] := hr2
  obtain ⟨B, hB⟩ : ∃ B, w.heap.size = B := ⟨_, rfl⟩
  rw [hB] at hb2 o2
  have hBle : B ≤ w.heap.size := by omega
  have HBE := Lib.hid hB
  clear hr2 hg2 hrow hrow2 hiv hb1 hB
  go_loopw [3, 8] (fun s i wr => HexRel d B w s i wr) (fun _ i _ => 32 - (intOf i).toNat)
  case atStart => exact ⟨0, by omega, rfl, by simpa [hexOf] using o2, hb2⟩
  case round =>
    clear o2 hb2
    obtain ⟨k, hk, rfl, ho, hbw⟩ := hrel
    by_cases hlt : k < 32
    · have hix := HIX k hlt
      have hsn := hex_snoc d k (by omega)
      have hll : (hexOf (d.take k)).length ≤ 64 := by rw [length_hex, List.length_take]; omega
      generalize hexOf (d.take k) = t at *
      generalize byteAt d k = c at *
      have h1 := run_digit (c >>> 4) (lt16_shr c)
      have h2 := run_digit (c &&& 15#8) (lt16_and c)
      obtain ⟨a5, c5, rfl, _⟩ := ho.reads
      have HSN := Lib.hid hsn
      have hdr : Owns wr.drew B 5 (.slice a5 t.length c5) t := ho.drewN 1
      have hbd : Below B w wr.drew := hbw.drew
      have hbs : B ≤ wr.drew.heap.size := by have := hbw.size; show B ≤ wr.heap.size; omega
      clear hsn ho hbw HIX
      go_wp2_with fail
      refine wp_region_plan [([0, 1, 2, 3, 4, 5, 6], some 7), ([], some 8), ([9], none)] (fun _ => True) (by kernel_rfl) (by kernel_rfl) (fun _ _ d _ _ h => by cases d <;> exact h) trivial ?_
      refine plan_some (show wpQuiet _ _ _ _ (_ :: _ :: _ :: _ :: _ :: _ :: _ :: []) _ from ?_)
      repeat (go_big_quiet_step (fail))
      refine wpQuiet_nil (show wpList _ _ _ (_ :: []) _ _ from ?_)
      generalize wr.drew = w5 at *
      generalize hexd (c >>> 4) = x1 at *
      generalize hexd (c &&& 15#8) = x2 at *
      have hrz := reads_lit w5 #[U8 x1, U8 x2] 5 (0, 0) [x1, x2] rfl (by simp)
      have ho' := hdr.below (w' := w5.alloc (.cells #[U8 x1, U8 x2] 5)) ((Below.refl _ _).alloc (Nat.le_refl _) _)
      have hz' : B ≤ (w5.alloc (.cells #[U8 x1, U8 x2] 5)).heap.size := by simp; omega
      have hlen : t.length + 2 ≤ 140737488355328 := by omega
      clear h1 h2 hix
      go_wp2_with fail
      refine late_normal (fun _ h => h) trivial ?_
      refine plan_some (show wpQuiet _ _ _ _ [] _ from ?_)
      refine wpQuiet_nil (show wpList _ _ _ (_ :: []) _ _ from ?_)
      refine wpList_append_bytes_at byteSlice rfl _ _ rfl B (.slice a5 t.length c5) t rfl ho' (some ⟨w5.heap.size, 0, none⟩) 2 [x1, x2] rfl hrz hlen hz' ?_
      intro v6 w6 ho6 hg6 _
      have HB6 := Lib.hid (below_append hbd (by omega) ho' hg6)
      have HO6 := Lib.hid ho6
      clear ho6 hg6 ho' hrz hdr hbd
      go_wp2_with fail
      refine late_normal (S' := fun _ => True) (fun _ h => h) trivial ?_
      refine plan_none (show wpQuiet _ _ _ _ (_ :: []) _ from ?_)
      repeat (go_big_quiet_step (fail))
      refine wpQuiet_nil ?_
      refine plan_nil ?_
      go_wp2
      go_roundw
      case rel => exact ⟨k + 1, by omega, by go_num, by rw [HSN.out]; exact HO6.out, HB6.out⟩
      case measure => simp [intOf]; omega
    · obtain rfl : k = 32 := by omega
      rw [List.take_of_length_le (by omega)] at ho
      have hl : (hexOf d).length = 64 := by rw [length_hex, hd]
      generalize hL : hexOf d = L at *
      have HL := Lib.hid hL
      clear hL
      obtain ⟨a5, c5, rfl, hr5⟩ := ho.reads
      obtain ⟨b5, off5, rfl, hb5⟩ := hr5.bytes.resolve_left (fun e => by rw [e] at hl; cases hl)
      have hcv := run_str b5 off5 c5 L wr hb5
      clear HIX hl
      go_wp2
      go_ret
      exact ⟨by rw [HL.out]; rfl, HBE.out ▸ hbw⟩
end Go.Proofs.YtnodcjjmodbjiaaDoor
