/- The hasher's Write. -/
import Derived.Test.YtnodcjjmodbjiaaDoorHash
namespace Go.Proofs.YtnodcjjmodbjiaaDoor
open Go Go.RowKit

theorem Sha.blocks_succ : ∀ (k : Nat) (s : Sha.St) (l : List (BitVec 8)), Sha.blocks (k + 1) s l = Sha.take (Sha.blocks k s l) ((l.drop (64 * k)).take 64)
  | 0, s, l => rfl
  | k + 1, s, l => by
    rw [Sha.blocks, Sha.blocks_succ k, List.drop_drop, show 64 + 64 * k = 64 * (k + 1) by omega]
    rfl
theorem KTab.touch {F : Nat → Prop} {w w' : World} (h : KTab w) (t : Touch F w w') (hn : ¬ F 0) : KTab w' := fun i hi => t.cell (h i hi) hn
theorem Reads.touch' {F : Nat → Prop} {w w' : World} {a : Option Addr} {cap : Nat} {l : List (BitVec 8)} (h : Reads w a cap l) (t : Touch F w w') (hn : l ≠ [] → ∀ ad, a = some ad → ¬ F ad.block) : Reads w' a cap l := by
  by_cases e : l = []
  · exact ⟨h.fits, h.room, h.null, .inl e⟩
  · exact t.reads h (hn e)
theorem drop_block {g off cap n : Nat} {ad : Addr} (e : dropAddr (some ⟨g, off, none⟩) cap n = some ad) : ad.block = g := by
  unfold dropAddr at e
  split at e
  · injection e with e; rw [← e]
  · rw [Option.map_some, Addr.add_lit] at e; injection e with e; rw [← e]
/-- What the loop over whole blocks holds. -/
def BlockRel (b : Nat) (s0 : Sha.St) (vv : Value) (N : Int) (m : List (BitVec 8)) (w : World) (x : Value) (wr : World) : Prop :=
  ∃ (k : Nat) (a : Option Addr) (cap : Nat), 64 * k ≤ m.length ∧ x = .slice a (m.length - 64 * k) cap ∧ Reads wr a cap (m.drop (64 * k)) ∧ (m ≠ [] → ∀ ad, a = some ad → ad.block ≠ b) ∧
    HAt wr b true (Sha.blocks k s0 m).list vv N ∧ Touch (fun q => q = b) w wr
def Wrote (B b : Nat) (v : Value) (l m : List (BitVec 8)) (w : World) (e : Ending) (w' : World) : Prop :=
  ∃ v', e = .returned (.tuple #[]) ∧ Hasher w' B b v' (l ++ m) ∧ Touch (fun q => q = b ∨ v.ownBlock = some q) w w' ∧ ∀ q, v'.ownBlock = some q → v.ownBlock = some q ∨ w.heap.size ≤ q
set_option maxHeartbeats 1000000 in
theorem hwrite_none {w : World} {B b : Nat} {v : Value} {l : List (BitVec 8)} (h : Hasher w B b v l) (hB : B ≤ w.heap.size) (h0 : 0 < B) (hk : KTab w) (hl : Sha.left l = [])
    (a : Option Addr) (cap : Nat) (m : List (BitVec 8)) (hr : Reads w a cap m) (hlm : l.length + m.length ≤ 1048576) (hoff : m ≠ [] → ∀ ad, a = some ad → ad.block ≠ b) :
    Calls Tryd.prog 18 #[.pointer (some ⟨b, 0, none⟩), .slice a m.length cap] w (Wrote B b v l m w) := by
  have hlow := h.low
  have OK := hok_any h.at_
  have cN := h.at_.n_
  have fN := h.at_.thawed 10
  have h1 := h.at_.setN ((l.length : Int) + m.length)
  have c9 := h1.rest
  have t1 : Touch (fun q => q = b) w (w.setCell ⟨b, 10, none⟩ (.int .i64 ((l.length : Int) + m.length))) := Touch.set w b 10 _ rfl
  have hv : ∃ a' cap', v = .slice a' 0 cap' := by obtain ⟨a', cap', e, _⟩ := h.own.reads; rw [hl] at e; exact ⟨a', cap', e⟩
  obtain ⟨a', cap', rfl⟩ := hv
  have hr1 := hr.touch' t1 hoff
  have HH := Lib.hid h
  have HK := Lib.hid hk
  have HHL := Lib.hid (Sha.held_append l m)
  have HLL := Lib.hid (Sha.left_append l m)
  clear h hk
  generalize Sha.held l = s0 at *
  go_enter Tryd.func18, Tryd.ntmps18
  go_wp2_with fail
  refine OK.mono ?_
  rintro e w' ⟨rfl, rfl⟩
  clear OK
  go_wp2_with fail
  have T1 := Lib.hid t1
  clear cN fN c9 hr t1
  generalize w.setCell ⟨b, 10, none⟩ (.int .i64 ((l.length : Int) + m.length)) = w1 at *
  go_loopw [1] (fun x wr => BlockRel b s0 (.slice a' 0 cap') ((l.length : Int) + m.length) m w1 x wr) (fun x _ => match x with | .slice _ n _ => n | _ => 0)
  case atStart => exact ⟨0, a, cap, by omega, rfl, hr1, hoff, h1, Touch.refl _ _⟩
  case round =>
    clear h1 hr1
    obtain ⟨k, a1, c1, hk64, rfl, hr2, hof, hat, ht⟩ := hrel
    have hpl : (m.drop (64 * k)).length = m.length - 64 * k := List.length_drop
    by_cases hlt : 64 * k + 64 ≤ m.length
    · have hne : m.drop (64 * k) ≠ [] := fun e => by rw [e] at hpl; simp at hpl; omega
      obtain ⟨g, off, rfl, hbm⟩ : ∃ g off, a1 = some ⟨g, off, none⟩ ∧ BytesAt wr g off (m.drop (64 * k)) := hr2.bytes.resolve_left hne
      have hm0 : m ≠ [] := fun e => by rw [e] at hne; simp at hne
      have hgb : g ≠ b := hof hm0 _ rfl
      have hfit := hr2.fits
      have hroom := hr2.room
      have hp64 : ((m.drop (64 * k)).take 64).length = 64 := by rw [List.length_take, hpl]; omega
      have hbs := Sha.blocks_succ k s0 m
      have hr3 := hr2.drop 64 (by rw [hpl]; omega)
      rw [List.drop_drop, show 64 * k + 64 = 64 * (k + 1) by omega] at hr3
      rw [hpl] at hfit
      have hs1 := fun w => run_slice_to (P := Tryd.prog) byteSlice w (some ⟨g, off, none⟩) (m.length - 64 * k) c1 .i64 64 64 rfl (by omega)
      have hs2 := fun w => run_slice_from (P := Tryd.prog) byteSlice w (some ⟨g, off, none⟩) (m.length - 64 * k) c1 .i64 64 64 rfl (by omega)
      have hbt := hbm.take 64
      generalize hp : (m.drop (64 * k)).take 64 = p at *
      generalize hs : Sha.blocks k s0 m = s at *
      have hkr : KTab wr := (HK.out.touch T1.out (show ¬ (0 = b) by omega)).touch ht (show ¬ (0 = b) by omega)
      have TK := fun w' (hx : BytesAt w' g off p) (hy : KTab w') => take_any s g off c1 p w' hp64 (by omega) (by omega) hx hy
      have hat1 : HAt wr.drew b true s.list (.slice a' 0 cap') ((l.length : Int) + m.length) := hat.drewN 1
      have hbt1 : BytesAt wr.drew g off p := hbt
      have hk1 : KTab wr.drew := hkr
      have HP := Lib.hid hp
      have HS := Lib.hid hs
      have HBS := Lib.hid hbs
      have HT := Lib.hid ht
      have HR3 := Lib.hid hr3
      have HOF := Lib.hid hof
      have hq64 : (64 : Int) ≤ ((m.length - 64 * k : Nat) : Int) := by omega
      clear hp hs hbs ht hr2 hr3 hof hat hbm hbt hkr hne hpl
      generalize hqq : m.length - 64 * k = q at *
      have HQ := Lib.hid hqq
      clear hqq
      go_wp2_with fail
      refine wp_region_plan [([0, 1, 2, 3, 5, 6], some 4), ([], some 7), ([8, 9], some 10), ([], none)] (fun _ => True) (by kernel_rfl) (by kernel_rfl) (fun _ _ d _ _ h => by cases d <;> exact h) trivial ?_
      refine plan_some (show wpQuiet _ _ _ _ (_ :: _ :: _ :: _ :: _ :: _ :: []) _ from ?_)
      repeat (go_big_quiet_step (fail))
      refine wpQuiet_nil (show wpList _ _ _ (_ :: []) _ _ from ?_)
      have hid : Touch (fun q => q = b) wr wr.drew := (Touch.refl _ _).drewN 1
      generalize wr.drew = w6 at *
      have HID := Lib.hid hid
      clear hid
      go_wp2_with (refine wpList_load_state hat1 rfl _ rfl rfl ?_)
      refine late_normal (fun _ h => h) trivial ?_
      refine plan_some (show wpQuiet _ _ _ _ [] _ from ?_)
      refine wpQuiet_nil (show wpList _ _ _ (_ :: []) _ _ from ?_)
      go_wp2_with fail
      refine (TK w6 hbt1 hk1).mono ?_
      rintro e w7 ⟨rfl, hb7⟩
      have hat7 := hat1.below hb7
      have hs8 : (Sha.take s p).list.length = 8 := rfl
      generalize Sha.take s p = s' at *
      have HB7 := Lib.hid hb7
      clear TK hbt1 hk1 hat1 hb7
      go_wp2_with fail
      refine late_normal (fun _ h => h) trivial ?_
      refine plan_some (show wpQuiet _ _ _ _ (_ :: _ :: []) _ from ?_)
      repeat (go_big_quiet_step (fail))
      refine wpQuiet_nil (show wpList _ _ _ (_ :: []) _ _ from ?_)
      go_wp2_with (refine wpList_store_state hat7 s'.list hs8 rfl _ _ rfl rfl rfl ?_; intro w8 hat8 t8)
      refine late_normal (fun _ h => h) trivial ?_
      refine plan_none (show wpQuiet _ _ _ _ [] _ from ?_)
      refine wpQuiet_nil ?_
      refine plan_nil ?_
      have HTT := Lib.hid ((HID.out.trans (.of_below HB7.out)).trans t8)
      have HA := Lib.hid hat8
      clear hat7 hat8 t8
      go_wp2
      go_roundw
      case rel =>
        have hq := HQ.out
        refine ⟨k + 1, _, _, by omega, ?_, (HR3.out.touch' HTT.out fun hne ad e => ?_), fun hne ad e => ?_, ?_, HT.out.trans HTT.out⟩
        · rw [show m.length - 64 * (k + 1) = q - 64 by omega]
        · rw [drop_block e]; exact hgb
        · rw [drop_block e]; exact hgb
        · rw [HBS.out]; exact HA.out
      case measure => simp; omega
    · have hkq : m.length / 64 = k := by omega
      have CL := clone_any a1 c1 (m.drop (64 * k)) wr hr2 (by rw [hpl]; omega)
      rw [hpl] at CL
      have hlt2 : ((m.length - 64 * k : Nat) : Int) < 64 := by omega
      generalize hd : m.drop (64 * k) = d at *
      generalize hs : Sha.blocks k s0 m = s at *
      have HD := Lib.hid hd
      have HS := Lib.hid hs
      have HA := Lib.hid hat
      have HT := Lib.hid ht
      have HKQ := Lib.hid hkq
      clear hd hs hat ht hkq hr2 hof hpl hlt
      generalize hqq : m.length - 64 * k = q at *
      clear hqq
      go_wp2_with fail
      refine CL.mono ?_
      rintro e w5 ⟨vv, rfl, ho5, hb5⟩
      have hat5 := HA.out.below hb5
      have f9 := hat5.thawed 9
      have c9 := hat5.rest
      obtain ⟨a5, c5, rfl, _⟩ := ho5.reads
      have HO := Lib.hid ho5
      have HB5 := Lib.hid hb5
      have HA5 := Lib.hid hat5
      have HA6 := Lib.hid (hat5.setRest (.slice a5 d.length c5))
      clear ho5 hb5 hat5 CL
      go_wp2
      refine bodyPost_end (results_none rfl _ _ _) rfl ?_
      have hown : ∀ q, (Value.slice a5 d.length c5).ownBlock = some q → wr.heap.size ≤ q := fun q hq => (row_lt HO.out hq).1
      have hbl := HA.out.lt
      have hs1 := T1.out.size
      have hs2 := HT.out.size
      have t6 : Touch (fun q => q = b) w5 (w5.setCell ⟨b, 9, none⟩ (.slice a5 d.length c5)) := Touch.set w5 b 9 _ rfl
      have hh := HHL.out
      have hl2 := HLL.out
      rw [hl, List.nil_append, List.length_nil, Nat.zero_add, HKQ.out] at hh hl2
      rw [HS.out] at hh
      rw [HD.out] at hl2
      refine ⟨_, rfl, ⟨?_, ?_, ?_, hlow⟩, ?_, fun q hq => .inr (by have := hown q hq; omega)⟩
      · rw [hh, List.length_append, Int.natCast_add]; exact HA6.out
      · rw [hl2]
        exact (t6.owns HO.out fun q hq e => by have := hown q hq; omega).mono (by omega)
      · intro e; have := hown b e; omega
      · have := ((T1.out.trans HT.out).trans (.of_below HB5.out)).trans t6
        exact this.mono fun q e => .inl e
end Go.Proofs.YtnodcjjmodbjiaaDoor
