/- Few: at most so many entries, none of them too long, in memory of their own. -/
import Derived.Test.YtmcdjkfmfhbbnaaDoorIts
import Derived.Test.YtmcdjkfmfhbbnaaDoorP
namespace Go.Proofs.YtmcdjkfmfhbbnaaDoor
open Go Go.RowKit

theorem built_ent' (t : Int) (a : Option Addr) (n c : Nat) (c0 c1 c2 c3 c4 c5 c6 c7 c8 c9 c10 c11 c12 c13 c14 c15 c16 c17 c18 c19 c20 c21 c22 c23 c24 c25 c26 c27 c28 c29 c30 c31 : BitVec 8) (d : List (BitVec 8)) : Program.built Tryd.prog 26 [(0, .int .i64 t), (1, .agg (([c0, c1, c2, c3, c4, c5, c6, c7, c8, c9, c10, c11, c12, c13, c14, c15, c16, c17, c18, c19, c20, c21, c22, c23, c24, c25, c26, c27, c28, c29, c30, c31] : List (BitVec 8)).map U8).toArray), (2, .slice a n c)] = some (entC ⟨t, [c0, c1, c2, c3, c4, c5, c6, c7, c8, c9, c10, c11, c12, c13, c14, c15, c16, c17, c18, c19, c20, c21, c22, c23, c24, c25, c26, c27, c28, c29, c30, c31], d⟩ (.slice a n c)).toArray := by kernel_rfl
theorem built_ent (t : Int) (k : List (BitVec 8)) (hk : k.length = 32) (a : Option Addr) (n c : Nat) (d : List (BitVec 8)) : Program.built Tryd.prog 26 [(0, .int .i64 t), (1, .agg (k.map U8).toArray), (2, .slice a n c)] = some (entC ⟨t, k, d⟩ (.slice a n c)).toArray := by
  match k, hk with
  | [c0, c1, c2, c3, c4, c5, c6, c7, c8, c9, c10, c11, c12, c13, c14, c15, c16, c17, c18, c19, c20, c21, c22, c23, c24, c25, c26, c27, c28, c29, c30, c31], _ => exact built_ent' t a n c c0 c1 c2 c3 c4 c5 c6 c7 c8 c9 c10 c11 c12 c13 c14 c15 c16 c17 c18 c19 c20 c21 c22 c23 c24 c25 c26 c27 c28 c29 c30 c31 d
theorem entry_info : (Tryd.prog.info? 26).map (fun i => (i.zero, i.size, i.bytes)) = some (some (.agg (entC zeroEnt (.slice none 0 0)).toArray), 34, 64) := by kernel_rfl
theorem ent_zsize : (Value.agg (entC zeroEnt (.slice none 0 0)).toArray).cells.size = 34 := by
  show (entC zeroEnt (.slice none 0 0)).toArray.size = 34
  rw [List.size_toArray]
  exact length_entC rfl
def cutE (long : Nat) (e : Ent) : Ent := ⟨e.tag, e.key, e.data.take long⟩
/-- Worlds in which what was there stands as it stood. -/
def BelowC (w W : World) : Prop := Below w.heap.size w W
/-- Entries in memory of the call's own. -/
def Fresh (w : World) (l : List Item) : Prop := ∀ it ∈ l, it.x = [] ∧ ∀ ad, it.a = some ad → w.heap.size ≤ ad.block
def FewRel (w : World) (its : List Item) (n long : Nat) (v i : Value) (wr : World) : Prop :=
  ∃ (k : Nat) (l : List Item), k ≤ its.length ∧ k ≤ n ∧ i = .int .i64 k ∧ OwnsIts wr w.heap.size 26 34 v l ∧ l.map Item.ent = (its.take k).map (fun it => cutE long it.ent) ∧ Fresh w l ∧ Below w.heap.size w wr
def FewPost (w : World) (its : List Item) (n long : Nat) (e : Ending) (w' : World) : Prop :=
  ∃ v l, e = .returned v ∧ OwnsIts w' w.heap.size 26 34 v l ∧ l.map Item.ent = (its.take n).map (fun it => cutE long it.ent) ∧ Fresh w l ∧ Below w.heap.size w w'
theorem items_snoc (its : List Item) (k : Nat) (h : k < its.length) : its.take (k + 1) = its.take k ++ [itAt its k] := by
  rw [List.take_succ_eq_append_getElem h, itAt_lt h]
set_option maxHeartbeats 2000000 in
theorem few_any (a : Option Addr) (cap : Nat) (its : List Item) (n long : Nat) (w : World) (hn : n ≤ 1000) (hlong : long ≤ 1048576) (hi : Its 34 w a cap its) :
    Calls Tryd.prog 11 #[.slice a its.length cap, .int .i64 n, .int .i64 long] w (FewPost w its n long) := by
  have hfit := hi.fits
  have hroom := hi.room
  go_enter Tryd.func11, Tryd.ntmps11
  go_wp2_with fail
  go_loopw [7, 8] (fun v i wr => FewRel w its n long v i wr) (fun _ i _ => its.length - (intOf i).toNat)
  case atStart => exact ⟨0, [], Nat.zero_le _, Nat.zero_le _, rfl, ownsIts_nil _ _ _ _, rfl, fun it h => by simp at h, Below.refl _ _⟩
  case round =>
    obtain ⟨k, l, hk, hkn, rfl, ho, hm, hf, hbr⟩ := hrel
    by_cases hlt : k < its.length
    · by_cases hltn : k < n
      · obtain ⟨b, off, rfl, hrows⟩ := hi.rows.resolve_left (fun e => by rw [e] at hlt; simp at hlt)
        have hit := hrows k hlt
        have hsn := items_snoc its k hlt
        have hkey := hit.key
        have c0 := hit.ent.c0
        have ck := hit.ent.ck
        have c33 := hit.ent.c33
        have hdat := hit.data
        unfold Item.dv at c33
        have s0 : ∀ x : Of (BelowC w), x.to.cell? ⟨b, off + k * 34, none⟩ = some (.int .i64 (itAt its k).ent.tag) := fun x => Keeps.below x.ok _ _ c0
        have s1 : ∀ x : Of (BelowC w), x.to.cell? ⟨b, off + k * 34 + 33, none⟩ = some (.slice (itAt its k).a (itAt its k).ent.data.length (itAt its k).cap) := fun x => Keeps.below x.ok _ _ c33
        have ck2 : ∀ W, BelowC w W → W.rangeAt b (off + k * 34 + 1) ((itAt its k).ent.key.map U8) := fun W hW j v hv => Keeps.below hW _ _ (ck j v hv)
        have hik : (Tryd.prog.info? 23).map (·.size) = some ((itAt its k).ent.key.map U8).length := by rw [List.length_map, hkey]; kernel_rfl
        have hll : l.length = k := by
          have := congrArg List.length hm
          rw [List.length_map, List.length_map, List.length_take] at this
          omega
        have hcE : cutE long (itAt its k).ent = ⟨(itAt its k).ent.tag, (itAt its k).ent.key, (itAt its k).ent.data.take long⟩ := rfl
        have BE := fun (a : Option Addr) (n c : Nat) => built_ent (itAt its k).ent.tag (itAt its k).ent.key hkey a n c ((itAt its k).ent.data.take long)
        rw [← hcE] at BE
        have HCE := Lib.hid hcE
        have HM := Lib.hid hm
        have HSN := Lib.hid hsn
        have HO := Lib.hid ho
        have HF := Lib.hid hf
        have HLL := Lib.hid hll
        have HKEY := Lib.hid hkey
        clear hm hsn ho hf hll hit hrows c0 ck c33 hcE hkey
        generalize itAt its k = it at *
        generalize hEc : cutE long it.ent = Ec at *
        have HEC := Lib.hid hEc
        clear hEc
        generalize it.ent.key.map U8 = K at *
        generalize it.ent.tag = tg at *
        generalize hdd : it.ent.data = dd at *
        have HDD := Lib.hid hdd
        clear hdd
        go_wp2_with fail
        have ne : Nonempty (Of (BelowC w)) := of_ne (w := wr) hbr
        refine wp_region_plan [([0, 1, 2, 3, 4, 5, 6, 7, 8, 9, 10, 11, 12, 13, 14, 15, 16], some 17), ([], some 18), ([19], some 20), ([], some 21), ([22], none)] (fun w' => ∃ x : Of (BelowC w), w' = x.to) (by kernel_rfl) (by kernel_rfl) (fun _ _ d _ _ h => by cases d <;> exact h) (of_mk hbr.drew) ?_
        refine plan_some (show wpQuiet _ _ _ _ (_ :: _ :: _ :: _ :: _ :: _ :: _ :: _ :: _ :: _ :: _ :: _ :: _ :: _ :: _ :: _ :: _ :: []) _ from ?_)
        repeat (first
          | (go_big_quiet_want; refine quiet_mid_of (fun w' e => (show w'.rangeAt b (off + k * 34 + 1) K from by obtain ⟨x, rfl⟩ := e; exact ck2 _ x.ok)) Tryd.underlying23 rfl hik rfl rfl ?_; simp only [Act.put, List.setIfInBounds_toArray, List.set_cons_succ, List.set_cons_zero]; go_big_quiet_on)
          | go_big_quiet_step (fail)
          | quiet_step (fail))
        refine wpQuiet_nil (show wpList _ _ _ (_ :: []) _ _ from ?_)
        have hbd := hbr.drew
        have rd := hdat.keeps (Keeps.below hbd)
        have HO2 := Lib.hid (HO.out.drewN 1)
        have HBD := Lib.hid hbd
        have hszr : w.heap.size ≤ wr.heap.size := hbr.size
        have hdr : wr.drew.heap.size = wr.heap.size := rfl
        have hwd : World.drewN wr 1 = wr.drew := rfl
        rw [hwd] at HO2
        clear hwd s0 s1 ck2 hik HO hbr ne hdat
        generalize wr.drew = w2 at *
        go_wp2_with fail
        refine (cut_any it.a it.cap dd long long _ rfl rd hlong).mono ?_
        rintro e w' ⟨rfl, rfl⟩
        have rd2 := rd.take long
        have hl2 : (dd.take long).length ≤ 1048576 := by rw [List.length_take]; omega
        have HDL := Lib.hid (show Ec.data = dd.take long by rw [← HEC.out, ← HDD.out]; rfl)
        have HEK := Lib.hid (show Ec.key = it.ent.key by rw [← HEC.out]; rfl)
        clear rd
        generalize dd.take long = d2 at *
        go_wp2_with fail
        refine late_normal (fun _ h => h) (of_mk HBD.out) ?_
        refine plan_some (show wpQuiet _ _ _ _ [] _ from ?_)
        refine wpQuiet_nil (show wpList _ _ _ (_ :: []) _ _ from ?_)
        go_wp2_with fail
        refine (copy_any it.a it.cap d2 _ rd2 (by omega)).mono ?_
        rintro e w3 ⟨v3, rfl, ho3, hb3⟩
        have hb3w := HBD.out.trans (hb3.mono HBD.out.size)
        have HO3 := Lib.hid (HO2.out.below hb3)
        obtain ⟨a3, c3, rfl, r3⟩ := ho3.reads
        have hbuilt := BE a3 d2.length c3
        have hk3 : Ec.key.length = 32 := by rw [HEK.out]; exact HKEY.out
        have hl3 := Lib.hid (length_entC (e := Ec) (dv := .slice a3 d2.length c3) hk3)
        have hone : ∀ v ∈ entC Ec (.slice a3 d2.length c3), v.oneCell' = true := one_entC Ec a3 d2.length c3
        have ha3 : ∀ ad, a3 = some ad → w2.heap.size ≤ ad.block ∧ ad.block < w3.heap.size := fun ad e => row_lt ho3 (by rw [e]; rfl)
        have HA3 := Lib.hid ha3
        have HB3 := Lib.hid hb3w
        have HONE := Lib.hid hone
        have HCC := Lib.hid (show (Item.mk Ec a3 c3 []).cells = entC Ec (.slice a3 d2.length c3) by unfold Item.cells Item.dv; rw [HDL.out]; exact List.append_nil _)
        have HW2 := Lib.hid hb3.size
        have HVB := Lib.hid (fun (q : Nat) (e : Value.ownBlock u7 = some q) => (row_lt HO2.out.row e).2)
        clear BE ho3 hb3 hb3w hone ha3 HO2 rd2 hk3
        generalize entC Ec (.slice a3 d2.length c3) = C3 at *
        go_wp2_with fail
        refine late_normal (fun _ h => h) (of_mk HB3.out) ?_
        have ne : Nonempty (Of (BelowC w)) := of_ne HB3.out
        refine plan_some (show wpQuiet _ _ _ _ (_ :: []) _ from ?_)
        repeat (first
          | (go_big_quiet_want; refine quiet_built 26 _ rfl C3.toArray (by go_simp) ?_; simp only [Act.put, List.setIfInBounds_toArray, List.set_cons_succ, List.set_cons_zero]; go_big_quiet_on)
          | go_big_quiet_step (fail)
          | quiet_step (fail))
        refine wpQuiet_nil (show wpList _ _ _ (_ :: []) _ _ from ?_)
        refine wpList_item_lit Tryd.underlying27 entry_info ent_zsize rfl _ rfl C3 rfl hl3.out (by decide) (by decide) ?_
        go_wp2_with fail
        have hb4 := HB3.out.alloc (HB3.out.size) (.cells C3.toArray 26)
        have hnew := heap_alloc_new w3 (.cells C3.toArray 26)
        have hba : Below w3.heap.size w3 (w3.alloc (.cells C3.toArray 26)) := (Below.refl _ _).alloc (Nat.le_refl _) _
        have HO4 := HO3.out.below hba
        have r4 := r3.keeps (Keeps.below hba)
        have hrow := rangeAt_row hnew
        rw [List.toList_toArray] at hrow
        have hsz4 : (w3.alloc (.cells C3.toArray 26)).heap.size = w3.heap.size + 1 := by simp
        refine late_normal (fun _ h => h) (of_mk hb4) ?_
        refine plan_some (show wpQuiet _ _ _ _ [] _ from ?_)
        refine wpQuiet_nil (show wpList _ _ _ (_ :: []) _ _ from ?_)
        have HB4 := Lib.hid hb4
        clear hb4 hnew hba HO3 r3 hbuilt ne
        obtain ⟨g4, hg4⟩ : ∃ g, w3.heap.size = g := ⟨_, rfl⟩
        rw [hg4] at hrow hsz4 ⊢
        have hA3 := HA3.out
        rw [hg4] at hA3
        have HW2 := HW2.out
        rw [hg4] at HW2
        clear hg4 HA3
        generalize w3.alloc (.cells C3.toArray 26) = w4 at *
        go_wp2_with (at_builtin; go_must (refine wpList_append_item Tryd.underlying27 entry_info ent_zsize (by decide) rfl _ _ rfl w.heap.size _ l rfl HO4 ⟨Ec, a3, c3, []⟩ ⟨g4, 0, none⟩ 1 rfl ?c1 ?c2 ?c3 ?c4 ?c5 ?c6 (by rw [HLL.out]; omega) (by rw [HLL.out]; omega) HB4.out.size ?_))
        case c1 => intro j u hu; rw [HCC.out] at hu; rw [Addr.add_lit]; exact hrow j u hu
        case c2 => rw [HCC.out]; exact HONE.out
        case c3 => rw [HCC.out]; exact hl3.out
        case c4 => show Ec.key.length = 32; rw [HEK.out]; exact HKEY.out
        case c5 => show Reads w4 a3 c3 Ec.data; rw [HDL.out]; exact r4
        case c6 =>
          intro p e
          have q := hA3 p e
          refine ⟨fun f => ?_, by omega⟩
          have := HVB.out _ f
          omega
        intro v5 w5 ho5 hg5 _
        have hb5 := its_below HB4.out (Nat.le_refl _) HO4 hg5
        clear hg5 HO4 r4 hrow
        go_wp2_with fail
        refine late_normal (fun _ h => h) (of_mk hb5) ?_
        have ne : Nonempty (Of (BelowC w)) := of_ne hb5
        refine plan_none (show wpQuiet _ _ _ _ (_ :: []) _ from ?_)
        repeat (go_big_quiet_step (fail))
        refine wpQuiet_nil ?_
        refine plan_nil ?_
        have HO5 := Lib.hid ho5
        have HB5 := Lib.hid hb5
        clear ho5 hb5 ne
        go_wp2_with fail
        go_roundw
        case rel =>
          refine ⟨k + 1, l ++ [⟨Ec, a3, c3, []⟩], by omega, by omega, by go_num, HO5.out, ?_, ?_, HB5.out⟩
          · rw [HSN.out, List.map_append, List.map_append, HM.out, List.map_singleton, List.map_singleton, HEC.out]
          · intro x hx
            rcases List.mem_append.1 hx with hx | hx
            · exact HF.out x hx
            · rw [List.mem_singleton] at hx
              subst hx
              exact ⟨rfl, fun ad e => by have := hA3 ad e; omega⟩
        case measure => simp [intOf]; omega
      · obtain rfl : k = n := by omega
        have hltn' : ¬ (k : Int) < k := by omega
        go_wp2_with fail
        go_ret
        exact ⟨_, l, rfl, ho, hm, hf, hbr⟩
    · obtain rfl : k = its.length := by omega
      have hm2 : its.take its.length = its.take n := by rw [List.take_of_length_le (Nat.le_refl _), List.take_of_length_le hkn]
      rw [hm2] at hm
      have HM := Lib.hid hm
      clear hm hm2
      go_wp2_with fail
      go_ret
      exact ⟨_, l, rfl, ho, HM.out, hf, hbr⟩
end Go.Proofs.YtmcdjkfmfhbbnaaDoor
