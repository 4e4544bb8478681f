/- The law's walk: CrewSums. The law's walk: CrewSums, from the call on. -/
import Derived.Test.YtbicafgmfgdckaaDoorMgLwA
import Derived.Test.YtbicafgmfgdckaaDoorMgLiB
namespace Go.Proofs.YtbicafgmfgdckaaDoor
open Go Go.RowKit Go.Conc Go.Conc.Lib Go.ConcR.Gen
theorem ktab_stays {γ γ' : Gho} {w w' : World} (hs : γ.hs = w.heap.size) (hk : KTab w) (hkS : γ.bk 0 = .priv 0) (st : Stays γ w γ' w') : KTab w' ∧ γ'.bk 0 = .priv 0 := by
  have hlt := World.block_lt_of_cell? w _ (hk 0 (by decide))
  dsimp only at hlt
  refine ⟨fun i hi => ?_, (st.bk _ (by omega)).trans hkS⟩
  have h := hk i hi
  rw [← h]
  unfold World.cell?
  rw [st.heap _ (by show 0 < γ.hs; omega) hkS]
section
variable {top : Nat} {γ γ' γ2 : Gho} {w w' w2 w1 : World} {Post : Value → World → Prop} {n : Nat} {rows I : Txts} {la ia : Option Addr} {lc ic : Nat}
noncomputable def tail3 : Code := match Tryd.f3.body.getD .skip with
  | .seq _ (.seq _ (.seq _ c)) => c
  | _ => .skip
set_option maxRecDepth 100000 in
set_option maxHeartbeats 16000000 in
theorem lives_law2 {m : Int} {v11 v12 v13 v14 v15 v16 v17 : Value} (s0 : Solo γ w) (hgl : Tryd.prog.globals.size ≤ γ.hs) (hcnt : γ.cnt + 48 ≤ top) (hn : rows.length ≤ 1000) (hl : ∀ r ∈ rows, r.length ≤ 1000000) (hk : KTab w) (hkS : γ.bk 0 = .priv 0)
    (ht : TextsH γ w la lc rows) (hi : RowsH keyC 32 γ w ia ic I) (hkey : ∀ k ∈ I, k.length = 32)
    (hP : ∀ γ' w', Solo γ' w' → Stays γ w γ' w' → w'.tape = w.tape → Post (.bool true) w') :
    LV Tryd.prog wgLink.tWg top Post 0 γ w (G ((base 3).at ⟨#[.slice la rows.length lc, .slice ia I.length ic, .int .i64 m, undef, undef, undef, .bool false, undef, undef, undef, undef, v11, v12, v13, v14, v15, v16, v17] ++ Array.replicate 69 undef, []⟩ [.code tail3]) []) := by
  have hg : γ.tag 0 ≠ .gone := s0.ng
  simp only [tail3, Tryd.f3, Option.getD_some]
  walk_nrm
  refine lives_ctl rfl hg (fun _ => stepG_seq) ?_
  refine lives_ctl rfl hg (fun _ => stepG_region) ?_
  simp only [List.size_toArray, List.length_cons, List.length_nil, Nat.reduceAdd, Nat.zero_add, List.range, List.range.loop]
  refine lives_pure rfl hg (fun wV => ?_)
  refine goes_oper_k rfl rfl (by k_ne) (fun W hW => ?_)
  go_simp
  refine hW _ _ ⟨⟨rfl, no_listed (by simp [go_sem])⟩, ?_⟩
  clear hW
  clear W wV
  try walk_nrm
  refine lives_pure rfl hg (fun wV => ?_)
  refine goes_oper_k rfl rfl (by k_ne) (fun W hW => ?_)
  go_simp
  refine hW _ _ ⟨⟨rfl, no_listed (by simp [go_sem])⟩, ?_⟩
  clear hW
  clear W wV
  try walk_nrm
  refine lives_ctl rfl hg (fun _ => stepG_callv (first := #[]) (caps := #[]) (vs := #[.slice la rows.length lc, .int .i64 m]) rfl rfl (by k_ne) rfl rfl (by simp [Act.eval]) Tryd.func6 (by kernel_rfl) rfl) ?_
  refine lives_sums (n := rows.length) (rows := rows) s0 hn (ht.mem s0.hs rfl (fun r hr => by have := hl r hr; omega) hk hkS) hgl (by omega) (fun W0 hW0 q1 q16 γ1 w1 out s1 e1 e2 e3 e4 e5 e6 e7 e8 => ?_) (fun hm γ1 w1 s1 l1 e1 e2 => ?_)
  · have st : Stays γ w γ1 w1 := ⟨by omega, e5, e6⟩
    rw [Frame.finish_at]
    clear hg
    have hg : γ1.tag 0 ≠ .gone := s1.ng
    walk_nrm
    refine lives_pure rfl hg (fun wV => ?_)
    refine goes_oper_k rfl rfl (by k_ne) (fun W hW => ?_)
    go_simp
    refine hW _ _ ⟨⟨rfl, no_listed (by simp [go_sem])⟩, ?_⟩
    clear hW
    clear W wV
    try walk_nrm
    refine lives_pure rfl hg (fun wV => ?_)
    refine goes_oper_k rfl rfl (by k_ne) (fun W hW => ?_)
    go_simp
    refine hW _ _ ⟨⟨rfl, no_listed (by simp [go_sem])⟩, ?_⟩
    clear hW
    clear W wV
    try walk_nrm
    refine lives_pure rfl hg (fun wV => ?_)
    refine goes_oper_k rfl rfl (by k_ne) (fun W hW => ?_)
    go_simp
    refine hW _ _ ⟨⟨rfl, no_listed (by simp [go_sem])⟩, ?_⟩
    clear hW
    clear W wV
    try walk_nrm
    refine lives_pure rfl hg (fun wV => ?_)
    refine goes_oper_k rfl rfl (by k_ne) (fun W hW => ?_)
    go_simp
    refine hW _ _ ⟨⟨rfl, no_listed (by simp [go_sem])⟩, ?_⟩
    clear hW
    clear W wV
    try walk_nrm
    refine lives_pure rfl hg (fun wV => ?_)
    refine goes_oper_k rfl rfl (by k_ne) (fun W hW => ?_)
    go_simp
    refine hW _ _ ⟨⟨rfl, no_listed (by simp [go_sem])⟩, ?_⟩
    clear hW
    clear W wV
    try walk_nrm
    refine lives_ctl rfl hg (fun _ => stepG_region_end) ?_
    have hS1 : γ1.S 0 out := ⟨e2, e3⟩
    have hout := rows_of_sums (γ := γ1) rfl hn e8 hS1
    have sx := st
    obtain ⟨hk1, hkS1⟩ := ktab_stays s0.hs hk hkS st
    have ht1 := ht.stays st
    have hi1 := hi.stays st
    have hgl1 : Tryd.prog.globals.size ≤ γ1.hs := Nat.le_trans hgl st.hs
    have tp1 := e7
    have hmW : 1 ≤ (W0 : Int) ∧ (W0 : Int) ≤ 16 := ⟨by omega, by omega⟩
    have hm1 : (decide (1 ≤ (W0 : Int)) && decide ((W0 : Int) ≤ 16)) = true := by simp [hmW.1, hmW.2]
    refine lives_ctl rfl hg (fun _ => stepG_seq) ?_
    refine lives_ctl rfl hg (fun _ => stepG_region) ?_
    simp only [List.size_toArray, List.length_cons, List.length_nil, Nat.reduceAdd, Nat.zero_add, List.range, List.range.loop]
    refine lives_pure rfl hg (fun wV => ?_)
    refine goes_oper_k rfl rfl (by k_ne) (fun W hW => ?_)
    go_simp
    refine hW _ _ ⟨⟨rfl, no_listed (by simp [go_sem])⟩, ?_⟩
    clear hW
    clear W wV
    try walk_nrm
    refine lives_pure rfl hg (fun wV => ?_)
    refine goes_oper_k rfl rfl (by k_ne) (fun W hW => ?_)
    go_simp
    refine hW _ _ ⟨⟨rfl, no_listed (by simp [go_sem])⟩, ?_⟩
    clear hW
    clear W wV
    try walk_nrm
    refine lives_pure rfl hg (fun wV => ?_)
    refine goes_oper_k rfl rfl (by k_ne) (fun W hW => ?_)
    go_simp
    refine hW _ _ ⟨⟨rfl, no_listed (by simp [go_sem])⟩, ?_⟩
    clear hW
    clear W wV
    try walk_nrm
    refine lives_ctl rfl hg (fun _ => stepG_callv (first := #[]) (caps := #[]) (vs := #[.slice la rows.length lc, .slice ia I.length ic, .int .i64 W0]) rfl rfl (by k_ne) rfl rfl (by simp [Act.eval]) Tryd.func7 (by kernel_rfl) rfl) ?_
    refine lives_wrong s1 hgl1 (by omega) hn hl hk1 hkS1 ht1 hi1 hkey (fun _ hq γ2 w2 xa xc A2 hX => ?_) (fun _ hq γ2 w2 A2 => ?_) (fun hm => absurd hmW hm)
    · have hne : ((I.length : Int) != (rows.length : Int)) = false := by rw [hq]; simp
      have HQ := Lib.hid hq
      clear hq
      have s2 := A2.solo
      have st2 := st.trans A2.stays
      have tp2 := A2.tape.trans tp1
      have hgl2 : Tryd.prog.globals.size ≤ γ2.hs := Nat.le_trans hgl st2.hs
      rw [Frame.finish_at]
      clear hg
      have hg : γ2.tag 0 ≠ .gone := s2.ng
      walk_nrm
      refine lives_pure rfl hg (fun wV => ?_)
      refine goes_oper_k rfl rfl (by k_ne) (fun W hW => ?_)
      go_simp
      refine hW _ _ ⟨⟨rfl, no_listed (by simp [go_sem])⟩, ?_⟩
      clear hW
      clear W wV
      try walk_nrm
      refine lives_pure rfl hg (fun wV => ?_)
      refine goes_oper_k rfl rfl (by k_ne) (fun W hW => ?_)
      go_simp
      refine hW _ _ ⟨⟨rfl, no_listed (by simp [go_sem])⟩, ?_⟩
      clear hW
      clear W wV
      try walk_nrm
      refine lives_pure rfl hg (fun wV => ?_)
      refine goes_oper_k rfl rfl (by k_ne) (fun W hW => ?_)
      go_simp
      refine hW _ _ ⟨⟨rfl, no_listed (by simp [go_sem])⟩, ?_⟩
      clear hW
      clear W wV
      try walk_nrm
      refine lives_pure rfl hg (fun wV => ?_)
      refine goes_oper_k rfl rfl (by k_ne) (fun W hW => ?_)
      go_simp
      refine hW _ _ ⟨⟨rfl, no_listed (by simp [go_sem])⟩, ?_⟩
      clear hW
      clear W wV
      try walk_nrm
      refine lives_pure rfl hg (fun wV => ?_)
      refine goes_oper_k rfl rfl (by k_ne) (fun W hW => ?_)
      go_simp
      refine hW _ _ ⟨⟨rfl, no_listed (by simp [go_sem])⟩, ?_⟩
      clear hW
      clear W wV
      try walk_nrm
      refine lives_ctl rfl hg (fun _ => stepG_region_end) ?_
      refine lives_ctl rfl hg (fun _ => stepG_seq) ?_
      refine lives_ctl rfl hg (fun _ => stepG_seq) ?_
      refine lives_ctl rfl hg (fun _ => stepG_region) ?_
      simp only [List.size_toArray, List.length_cons, List.length_nil, Nat.reduceAdd, Nat.zero_add, List.range, List.range.loop]
      refine lives_pure rfl hg (fun wV => ?_)
      refine goes_oper_k rfl rfl (by k_ne) (fun W hW => ?_)
      go_simp
      refine hW _ _ ⟨⟨rfl, no_listed (by simp [go_sem])⟩, ?_⟩
      clear hW
      clear W wV
      try walk_nrm
      refine lives_ctl rfl hg (fun _ => stepG_callE rfl rfl (by k_ne) rfl (vs := #[.int .i64 W0]) (by simp [Act.eval]) Tryd.func8 (by kernel_rfl) (by kernel_rfl)) ?_
      refine lives_refRight s2 hgl2 (fun γ3 w3 A3 => ?_)
      rw [hm1]
      have s3 := A3.solo
      have st3 := st2.trans A3.stays
      have tp3 := A3.tape.trans tp2
      have hgl3 : Tryd.prog.globals.size ≤ γ3.hs := Nat.le_trans hgl st3.hs
      rw [Frame.finish_at]
      clear hg
      have hg : γ3.tag 0 ≠ .gone := s3.ng
      walk_nrm
      refine lives_pure rfl hg (fun wV => ?_)
      refine goes_oper_k rfl rfl (by k_ne) (fun W hW => ?_)
      go_simp
      refine hW _ _ ⟨⟨rfl, no_listed (by simp [go_sem])⟩, ?_⟩
      clear hW
      clear W wV
      try walk_nrm
      refine lives_ctl rfl hg (fun _ => stepG_region_end) ?_
      refine lives_ctl rfl hg (fun _ => stepG_cond (t := false) rfl) ?_
      simp only [if_true, if_false, Bool.false_eq_true, ↓reduceIte]
      refine lives_ctl rfl hg (fun _ => stepG_skip) ?_
      refine lives_ctl rfl hg (fun _ => stepG_seq) ?_
      refine lives_ctl rfl hg (fun _ => stepG_seq) ?_
      refine lives_ctl rfl hg (fun _ => stepG_region) ?_
      simp only [List.size_toArray, List.length_cons, List.length_nil, Nat.reduceAdd, Nat.zero_add, List.range, List.range.loop]
      refine lives_pure rfl hg (fun wV => ?_)
      refine goes_oper_k rfl rfl (by k_ne) (fun W hW => ?_)
      go_simp
      refine hW _ _ ⟨⟨rfl, no_listed (by simp [go_sem])⟩, ?_⟩
      clear hW
      clear W wV
      try walk_nrm
      refine lives_pure rfl hg (fun wV => ?_)
      refine goes_oper_k rfl rfl (by k_ne) (fun W hW => ?_)
      go_simp
      refine hW _ _ ⟨⟨rfl, no_listed (by simp [go_sem])⟩, ?_⟩
      clear hW
      clear W wV
      try walk_nrm
      refine lives_pure rfl hg (fun wV => ?_)
      refine goes_oper_k rfl rfl (by k_ne) (fun W hW => ?_)
      go_simp
      refine hW _ _ ⟨⟨rfl, no_listed (by simp [go_sem])⟩, ?_⟩
      clear hW
      clear W wV
      try walk_nrm
      refine lives_pure rfl hg (fun wV => ?_)
      refine goes_oper_k rfl rfl (by k_ne) (fun W hW => ?_)
      go_simp
      refine hW _ _ ⟨⟨rfl, no_listed (by simp [go_sem])⟩, ?_⟩
      clear hW
      clear W wV
      try walk_nrm
      refine lives_pure rfl hg (fun wV => ?_)
      refine goes_oper_k rfl rfl (by k_ne) (fun W hW => ?_)
      go_simp
      refine hW _ _ ⟨⟨rfl, no_listed (by simp [go_sem])⟩, ?_⟩
      clear hW
      clear W wV
      try walk_nrm
      refine lives_ctl rfl hg (fun _ => stepG_callE rfl rfl (by k_ne) rfl (vs := #[.slice la rows.length lc]) (by simp [Act.eval]) Tryd.func11 (by kernel_rfl) (by kernel_rfl)) ?_
      have hlen : (rows.map Sha.sum).length = rows.length := List.length_map _
      refine lives_refSums s3 hgl3 (ht.stays st3) (by omega) hl (fun γ4 w4 ya yc A4 hY => ?_)
      have s4 := A4.solo
      have st4 := st3.trans A4.stays
      have tp4 := A4.tape.trans tp3
      have hgl4 : Tryd.prog.globals.size ≤ γ4.hs := Nat.le_trans hgl st4.hs
      have ho4 := hout.stays ((A2.stays.trans A3.stays).trans A4.stays)
      rw [hlen]
      rw [Frame.finish_at]
      clear hg
      have hg : γ4.tag 0 ≠ .gone := s4.ng
      walk_nrm
      refine lives_ctl rfl hg (fun _ => stepG_callE rfl rfl (by k_ne) rfl (vs := #[.slice (some ⟨out, 0, none⟩) rows.length rows.length, .slice ya rows.length yc]) (by simp [Act.eval]) Tryd.func10 (by kernel_rfl) (by kernel_rfl)) ?_
      have hSK := lives_sameKeys (top := top) (Post := Post) (c := default) (rest := []) s4 hgl4 (L := rows.map Sha.sum) (fun k hk => by obtain ⟨r, _, rfl⟩ := List.mem_map.1 hk; exact sum_length r) ho4 hY
      clear hSK
      rw [← hlen]
      refine lives_sameKeys s4 hgl4 (L := rows.map Sha.sum) (fun k hk => by obtain ⟨r, _, rfl⟩ := List.mem_map.1 hk; exact sum_length r) (by rw [hlen]; exact ho4) hY (fun γ5 w5 A5 => ?_)
      rw [hlen]
      have s5 := A5.solo
      have st5 := st4.trans A5.stays
      have tp5 := A5.tape.trans tp4
      have hgl5 : Tryd.prog.globals.size ≤ γ5.hs := Nat.le_trans hgl st5.hs
      rw [Frame.finish_at]
      clear hg
      have hg : γ5.tag 0 ≠ .gone := s5.ng
      walk_nrm
      refine lives_pure rfl hg (fun wV => ?_)
      refine goes_oper_k rfl rfl (by k_ne) (fun W hW => ?_)
      go_simp
      refine hW _ _ ⟨⟨rfl, no_listed (by simp [go_sem])⟩, ?_⟩
      clear hW
      clear W wV
      try walk_nrm
      refine lives_pure rfl hg (fun wV => ?_)
      refine goes_oper_k rfl rfl (by k_ne) (fun W hW => ?_)
      go_simp
      refine hW _ _ ⟨⟨rfl, no_listed (by simp [go_sem])⟩, ?_⟩
      clear hW
      clear W wV
      try walk_nrm
      refine lives_ctl rfl hg (fun _ => stepG_region_end) ?_
      refine lives_ctl rfl hg (fun _ => stepG_cond (t := false) rfl) ?_
      simp only [if_true, if_false, Bool.false_eq_true, ↓reduceIte]
      refine lives_ctl rfl hg (fun _ => stepG_skip) ?_
      refine lives_ctl rfl hg (fun _ => stepG_seq) ?_
      refine lives_ctl rfl hg (fun _ => stepG_seq) ?_
      refine lives_ctl rfl hg (fun _ => stepG_region) ?_
      simp only [List.size_toArray, List.length_cons, List.length_nil, Nat.reduceAdd, Nat.zero_add, List.range, List.range.loop]
      refine lives_pure rfl hg (fun wV => ?_)
      refine goes_oper_k rfl rfl (by k_ne) (fun W hW => ?_)
      go_simp
      refine hW _ _ ⟨⟨rfl, no_listed (by simp [go_sem])⟩, ?_⟩
      clear hW
      clear W wV
      try walk_nrm
      refine lives_pure rfl hg (fun wV => ?_)
      refine goes_oper_k rfl rfl (by k_ne) (fun W hW => ?_)
      go_simp
      refine hW _ _ ⟨⟨rfl, no_listed (by simp [go_sem])⟩, ?_⟩
      clear hW
      clear W wV
      try walk_nrm
      refine lives_pure rfl hg (fun wV => ?_)
      refine goes_oper_k rfl rfl (by k_ne) (fun W hW => ?_)
      go_simp
      refine hW _ _ ⟨⟨rfl, no_listed (by simp [go_sem])⟩, ?_⟩
      clear hW
      clear W wV
      try walk_nrm
      refine lives_pure rfl hg (fun wV => ?_)
      refine goes_oper_k rfl rfl (by k_ne) (fun W hW => ?_)
      go_simp
      refine hW _ _ ⟨⟨rfl, no_listed (by simp [go_sem])⟩, ?_⟩
      clear hW
      clear W wV
      try walk_nrm
      refine lives_pure rfl hg (fun wV => ?_)
      refine goes_oper_k rfl rfl (by k_ne) (fun W hW => ?_)
      go_simp
      refine hW _ _ ⟨⟨rfl, no_listed (by simp [go_sem])⟩, ?_⟩
      clear hW
      clear W wV
      try walk_nrm

      refine lives_ctl rfl hg (fun _ => stepG_region_end) ?_
      refine lives_ctl rfl hg (fun _ => stepG_cond (t := false) rfl) ?_
      simp only [if_true, if_false, Bool.false_eq_true, ↓reduceIte]
      refine lives_ctl rfl hg (fun _ => stepG_skip) ?_
      refine lives_ctl rfl hg (fun _ => stepG_seq) ?_
      refine lives_ctl rfl hg (fun _ => stepG_region) ?_
      simp only [List.size_toArray, List.length_cons, List.length_nil, Nat.reduceAdd, Nat.zero_add, List.range, List.range.loop]
      refine lives_pure rfl hg (fun wV => ?_)
      refine goes_oper_k rfl rfl (by k_ne) (fun W hW => ?_)
      go_simp
      refine hW _ _ ⟨⟨rfl, no_listed (by simp [go_sem])⟩, ?_⟩
      clear hW
      clear W wV
      try walk_nrm
      refine lives_pure rfl hg (fun wV => ?_)
      refine goes_oper_k rfl rfl (by k_ne) (fun W hW => ?_)
      go_simp
      refine hW _ _ ⟨⟨rfl, no_listed (by simp [go_sem])⟩, ?_⟩
      clear hW
      clear W wV
      try walk_nrm
      refine lives_pure rfl hg (fun wV => ?_)
      refine goes_oper_k rfl rfl (by k_ne) (fun W hW => ?_)
      go_simp
      refine hW _ _ ⟨⟨rfl, no_listed (by simp [go_sem])⟩, ?_⟩
      clear hW
      clear W wV
      try walk_nrm
      refine lives_pure rfl hg (fun wV => ?_)
      refine goes_oper_k rfl rfl (by k_ne) (fun W hW => ?_)
      go_simp
      refine hW _ _ ⟨⟨rfl, no_listed (by simp [go_sem])⟩, ?_⟩
      clear hW
      clear W wV
      try walk_nrm
      refine lives_pure rfl hg (fun wV => ?_)
      refine goes_oper_k rfl rfl (by k_ne) (fun W hW => ?_)
      go_simp
      refine hW _ _ ⟨⟨rfl, no_listed (by simp [go_sem])⟩, ?_⟩
      clear hW
      clear W wV
      try walk_nrm
      refine lives_pure rfl hg (fun wV => ?_)
      refine goes_oper_k rfl rfl (by k_ne) (fun W hW => ?_)
      go_simp
      refine hW _ _ ⟨⟨rfl, no_listed (by simp [go_sem])⟩, ?_⟩
      clear hW
      clear W wV
      try walk_nrm
      refine lives_ctl rfl hg (fun _ => stepG_callE rfl rfl (by k_ne) rfl (vs := #[.slice la rows.length lc, .slice ia I.length ic]) (by simp [Act.eval]) Tryd.func13 (by kernel_rfl) (by kernel_rfl)) ?_
      refine lives_refWrong s5 hgl5 (ht.stays st5) (hi.stays st5) hkey HQ.out (by omega) hl (fun γ6 w6 za zc A6 hZ => ?_)
      have s6 := A6.solo
      have st6 := st5.trans A6.stays
      have tp6 := A6.tape.trans tp5
      have hgl6 : Tryd.prog.globals.size ≤ γ6.hs := Nat.le_trans hgl st6.hs
      rw [Frame.finish_at]
      clear hg
      have hg : γ6.tag 0 ≠ .gone := s6.ng
      walk_nrm
      refine lives_ctl rfl hg (fun _ => stepG_callE rfl rfl (by k_ne) rfl (vs := #[.slice xa (wrongs (rows.map Sha.sum) I rows.length).length xc, .slice za (wrongs (rows.map Sha.sum) I rows.length).length zc]) (by simp [Act.eval]) Tryd.func12 (by kernel_rfl) (by kernel_rfl)) ?_
      refine lives_sameInts s6 hgl6 (hX.stays (((A3.stays.trans A4.stays).trans A5.stays).trans A6.stays)) hZ (fun γ7 w7 A7 => ?_)
      have s7 := A7.solo
      have st7 := st6.trans A7.stays
      have tp7 := A7.tape.trans tp6
      have hgl7 : Tryd.prog.globals.size ≤ γ7.hs := Nat.le_trans hgl st7.hs
      rw [Frame.finish_at]
      clear hg
      have hg : γ7.tag 0 ≠ .gone := s7.ng
      walk_nrm
      refine lives_pure rfl hg (fun wV => ?_)
      refine goes_oper_k rfl rfl (by k_ne) (fun W hW => ?_)
      go_simp
      refine hW _ _ ⟨⟨rfl, no_listed (by simp [go_sem])⟩, ?_⟩
      clear hW
      clear W wV
      try walk_nrm
      refine lives_pure rfl hg (fun wV => ?_)
      refine goes_oper_k rfl rfl (by k_ne) (fun W hW => ?_)
      go_simp
      refine hW _ _ ⟨⟨rfl, no_listed (by simp [go_sem])⟩, ?_⟩
      clear hW
      clear W wV
      try walk_nrm
      refine lives_ctl rfl hg (fun _ => stepG_callv (first := #[]) (caps := #[]) (vs := #[]) rfl rfl (by k_ne) rfl rfl (by simp [Act.eval]) Tryd.func9 (by kernel_rfl) rfl) ?_
      obtain ⟨hk7, hkS7⟩ := ktab_stays s0.hs hk hkS st7
      refine lives_lives s7 hgl7 (by have := A2.cnt; have := A3.later.cnt; have := A4.later.cnt; have := A5.later.cnt; have := A6.later.cnt; have := A7.later.cnt; omega) hk7 hkS7 (fun γ8 w8 A8 => ?_)
      have s8 := A8.solo
      have st8 := st7.trans A8.stays
      have tp8 := A8.tape.trans tp7
      rw [Frame.finish_at]
      clear hg
      have hg : γ8.tag 0 ≠ .gone := s8.ng
      walk_nrm
      refine lives_pure rfl hg (fun wV => ?_)
      refine goes_oper_k rfl rfl (by k_ne) (fun W hW => ?_)
      go_simp
      refine hW _ _ ⟨⟨rfl, no_listed (by simp [go_sem])⟩, ?_⟩
      clear hW
      clear W wV
      try walk_nrm
      refine lives_pure rfl hg (fun wV => ?_)
      refine goes_oper_k rfl rfl (by k_ne) (fun W hW => ?_)
      go_simp
      refine hW _ _ ⟨⟨rfl, no_listed (by simp [go_sem])⟩, ?_⟩
      clear hW
      clear W wV
      try walk_nrm
      refine lives_ctl rfl hg (fun _ => stepG_region_end) ?_
      refine lives_ctl rfl hg (fun _ => stepG_ret') ?_
      refine lives_stop s8 rfl (fun _ => stepG_finish (v := .bool true) rfl rfl Tryd.func3 (by kernel_rfl) (by kernel_rfl) (by kernel_rfl)) (fun w9 e1' e2' => ?_)
      exact hP _ _ ⟨s8.ph, s8.tag, s8.deaf, by rw [e1']; exact s8.hs, s8.bk⟩ ⟨st8.hs, st8.bk, fun b hb hp => by rw [e1']; exact st8.heap b hb hp⟩ (by rw [e2']; exact tp8)
    · have hne : ((I.length : Int) != (rows.length : Int)) = true := by rw [bne_iff_ne]; omega
      have HQ := Lib.hid hq
      clear hq
      have s2 := A2.solo
      have st2 := st.trans A2.stays
      have tp2 := A2.tape.trans tp1
      have hgl2 : Tryd.prog.globals.size ≤ γ2.hs := Nat.le_trans hgl st2.hs
      rw [Frame.finish_at]
      clear hg
      have hg : γ2.tag 0 ≠ .gone := s2.ng
      walk_nrm
      refine lives_pure rfl hg (fun wV => ?_)
      refine goes_oper_k rfl rfl (by k_ne) (fun W hW => ?_)
      go_simp
      refine hW _ _ ⟨⟨rfl, no_listed (by simp [go_sem])⟩, ?_⟩
      clear hW
      clear W wV
      try walk_nrm
      refine lives_pure rfl hg (fun wV => ?_)
      refine goes_oper_k rfl rfl (by k_ne) (fun W hW => ?_)
      go_simp
      refine hW _ _ ⟨⟨rfl, no_listed (by simp [go_sem])⟩, ?_⟩
      clear hW
      clear W wV
      try walk_nrm
      refine lives_pure rfl hg (fun wV => ?_)
      refine goes_oper_k rfl rfl (by k_ne) (fun W hW => ?_)
      go_simp
      refine hW _ _ ⟨⟨rfl, no_listed (by simp [go_sem])⟩, ?_⟩
      clear hW
      clear W wV
      try walk_nrm
      refine lives_pure rfl hg (fun wV => ?_)
      refine goes_oper_k rfl rfl (by k_ne) (fun W hW => ?_)
      go_simp
      refine hW _ _ ⟨⟨rfl, no_listed (by simp [go_sem])⟩, ?_⟩
      clear hW
      clear W wV
      try walk_nrm
      refine lives_pure rfl hg (fun wV => ?_)
      refine goes_oper_k rfl rfl (by k_ne) (fun W hW => ?_)
      go_simp
      refine hW _ _ ⟨⟨rfl, no_listed (by simp [go_sem])⟩, ?_⟩
      clear hW
      clear W wV
      try walk_nrm
      refine lives_ctl rfl hg (fun _ => stepG_region_end) ?_
      refine lives_ctl rfl hg (fun _ => stepG_seq) ?_
      refine lives_ctl rfl hg (fun _ => stepG_seq) ?_
      refine lives_ctl rfl hg (fun _ => stepG_region) ?_
      simp only [List.size_toArray, List.length_cons, List.length_nil, Nat.reduceAdd, Nat.zero_add, List.range, List.range.loop]
      refine lives_pure rfl hg (fun wV => ?_)
      refine goes_oper_k rfl rfl (by k_ne) (fun W hW => ?_)
      go_simp
      refine hW _ _ ⟨⟨rfl, no_listed (by simp [go_sem])⟩, ?_⟩
      clear hW
      clear W wV
      try walk_nrm
      refine lives_ctl rfl hg (fun _ => stepG_callE rfl rfl (by k_ne) rfl (vs := #[.int .i64 W0]) (by simp [Act.eval]) Tryd.func8 (by kernel_rfl) (by kernel_rfl)) ?_
      refine lives_refRight s2 hgl2 (fun γ3 w3 A3 => ?_)
      rw [hm1]
      have s3 := A3.solo
      have st3 := st2.trans A3.stays
      have tp3 := A3.tape.trans tp2
      have hgl3 : Tryd.prog.globals.size ≤ γ3.hs := Nat.le_trans hgl st3.hs
      rw [Frame.finish_at]
      clear hg
      have hg : γ3.tag 0 ≠ .gone := s3.ng
      walk_nrm
      refine lives_pure rfl hg (fun wV => ?_)
      refine goes_oper_k rfl rfl (by k_ne) (fun W hW => ?_)
      go_simp
      refine hW _ _ ⟨⟨rfl, no_listed (by simp [go_sem])⟩, ?_⟩
      clear hW
      clear W wV
      try walk_nrm
      refine lives_ctl rfl hg (fun _ => stepG_region_end) ?_
      refine lives_ctl rfl hg (fun _ => stepG_cond (t := false) rfl) ?_
      simp only [if_true, if_false, Bool.false_eq_true, ↓reduceIte]
      refine lives_ctl rfl hg (fun _ => stepG_skip) ?_
      refine lives_ctl rfl hg (fun _ => stepG_seq) ?_
      refine lives_ctl rfl hg (fun _ => stepG_seq) ?_
      refine lives_ctl rfl hg (fun _ => stepG_region) ?_
      simp only [List.size_toArray, List.length_cons, List.length_nil, Nat.reduceAdd, Nat.zero_add, List.range, List.range.loop]
      refine lives_pure rfl hg (fun wV => ?_)
      refine goes_oper_k rfl rfl (by k_ne) (fun W hW => ?_)
      go_simp
      refine hW _ _ ⟨⟨rfl, no_listed (by simp [go_sem])⟩, ?_⟩
      clear hW
      clear W wV
      try walk_nrm
      refine lives_pure rfl hg (fun wV => ?_)
      refine goes_oper_k rfl rfl (by k_ne) (fun W hW => ?_)
      go_simp
      refine hW _ _ ⟨⟨rfl, no_listed (by simp [go_sem])⟩, ?_⟩
      clear hW
      clear W wV
      try walk_nrm
      refine lives_pure rfl hg (fun wV => ?_)
      refine goes_oper_k rfl rfl (by k_ne) (fun W hW => ?_)
      go_simp
      refine hW _ _ ⟨⟨rfl, no_listed (by simp [go_sem])⟩, ?_⟩
      clear hW
      clear W wV
      try walk_nrm
      refine lives_pure rfl hg (fun wV => ?_)
      refine goes_oper_k rfl rfl (by k_ne) (fun W hW => ?_)
      go_simp
      refine hW _ _ ⟨⟨rfl, no_listed (by simp [go_sem])⟩, ?_⟩
      clear hW
      clear W wV
      try walk_nrm
      refine lives_pure rfl hg (fun wV => ?_)
      refine goes_oper_k rfl rfl (by k_ne) (fun W hW => ?_)
      go_simp
      refine hW _ _ ⟨⟨rfl, no_listed (by simp [go_sem])⟩, ?_⟩
      clear hW
      clear W wV
      try walk_nrm
      refine lives_ctl rfl hg (fun _ => stepG_callE rfl rfl (by k_ne) rfl (vs := #[.slice la rows.length lc]) (by simp [Act.eval]) Tryd.func11 (by kernel_rfl) (by kernel_rfl)) ?_
      have hlen : (rows.map Sha.sum).length = rows.length := List.length_map _
      refine lives_refSums s3 hgl3 (ht.stays st3) (by omega) hl (fun γ4 w4 ya yc A4 hY => ?_)
      have s4 := A4.solo
      have st4 := st3.trans A4.stays
      have tp4 := A4.tape.trans tp3
      have hgl4 : Tryd.prog.globals.size ≤ γ4.hs := Nat.le_trans hgl st4.hs
      have ho4 := hout.stays ((A2.stays.trans A3.stays).trans A4.stays)
      rw [hlen]
      rw [Frame.finish_at]
      clear hg
      have hg : γ4.tag 0 ≠ .gone := s4.ng
      walk_nrm
      refine lives_ctl rfl hg (fun _ => stepG_callE rfl rfl (by k_ne) rfl (vs := #[.slice (some ⟨out, 0, none⟩) rows.length rows.length, .slice ya rows.length yc]) (by simp [Act.eval]) Tryd.func10 (by kernel_rfl) (by kernel_rfl)) ?_
      rw [← hlen]
      refine lives_sameKeys s4 hgl4 (L := rows.map Sha.sum) (fun k hk => by obtain ⟨r, _, rfl⟩ := List.mem_map.1 hk; exact sum_length r) (by rw [hlen]; exact ho4) hY (fun γ5 w5 A5 => ?_)
      rw [hlen]
      have s5 := A5.solo
      have st5 := st4.trans A5.stays
      have tp5 := A5.tape.trans tp4
      have hgl5 : Tryd.prog.globals.size ≤ γ5.hs := Nat.le_trans hgl st5.hs
      rw [Frame.finish_at]
      clear hg
      have hg : γ5.tag 0 ≠ .gone := s5.ng
      walk_nrm
      refine lives_pure rfl hg (fun wV => ?_)
      refine goes_oper_k rfl rfl (by k_ne) (fun W hW => ?_)
      go_simp
      refine hW _ _ ⟨⟨rfl, no_listed (by simp [go_sem])⟩, ?_⟩
      clear hW
      clear W wV
      try walk_nrm
      refine lives_pure rfl hg (fun wV => ?_)
      refine goes_oper_k rfl rfl (by k_ne) (fun W hW => ?_)
      go_simp
      refine hW _ _ ⟨⟨rfl, no_listed (by simp [go_sem])⟩, ?_⟩
      clear hW
      clear W wV
      try walk_nrm
      refine lives_ctl rfl hg (fun _ => stepG_region_end) ?_
      refine lives_ctl rfl hg (fun _ => stepG_cond (t := false) rfl) ?_
      simp only [if_true, if_false, Bool.false_eq_true, ↓reduceIte]
      refine lives_ctl rfl hg (fun _ => stepG_skip) ?_
      refine lives_ctl rfl hg (fun _ => stepG_seq) ?_
      refine lives_ctl rfl hg (fun _ => stepG_seq) ?_
      refine lives_ctl rfl hg (fun _ => stepG_region) ?_
      simp only [List.size_toArray, List.length_cons, List.length_nil, Nat.reduceAdd, Nat.zero_add, List.range, List.range.loop]
      refine lives_pure rfl hg (fun wV => ?_)
      refine goes_oper_k rfl rfl (by k_ne) (fun W hW => ?_)
      go_simp
      refine hW _ _ ⟨⟨rfl, no_listed (by simp [go_sem])⟩, ?_⟩
      clear hW
      clear W wV
      try walk_nrm
      refine lives_pure rfl hg (fun wV => ?_)
      refine goes_oper_k rfl rfl (by k_ne) (fun W hW => ?_)
      go_simp
      refine hW _ _ ⟨⟨rfl, no_listed (by simp [go_sem])⟩, ?_⟩
      clear hW
      clear W wV
      try walk_nrm
      refine lives_pure rfl hg (fun wV => ?_)
      refine goes_oper_k rfl rfl (by k_ne) (fun W hW => ?_)
      go_simp
      refine hW _ _ ⟨⟨rfl, no_listed (by simp [go_sem])⟩, ?_⟩
      clear hW
      clear W wV
      try walk_nrm
      refine lives_pure rfl hg (fun wV => ?_)
      refine goes_oper_k rfl rfl (by k_ne) (fun W hW => ?_)
      go_simp
      refine hW _ _ ⟨⟨rfl, no_listed (by simp [go_sem])⟩, ?_⟩
      clear hW
      clear W wV
      try walk_nrm
      refine lives_pure rfl hg (fun wV => ?_)
      refine goes_oper_k rfl rfl (by k_ne) (fun W hW => ?_)
      go_simp
      refine hW _ _ ⟨⟨rfl, no_listed (by simp [go_sem])⟩, ?_⟩
      clear hW
      clear W wV
      try walk_nrm

      refine lives_ctl rfl hg (fun _ => stepG_region_end) ?_
      refine lives_ctl rfl hg (fun _ => stepG_cond (t := true) rfl) ?_
      simp only [if_true, if_false, Bool.false_eq_true, ↓reduceIte]
      refine lives_ctl rfl hg (fun _ => stepG_seq) ?_
      refine lives_ctl rfl hg (fun _ => stepG_region) ?_
      simp only [List.size_toArray, List.length_cons, List.length_nil, Nat.reduceAdd, Nat.zero_add, List.range, List.range.loop]
      refine lives_pure rfl hg (fun wV => ?_)
      refine goes_oper_k rfl rfl (by k_ne) (fun W hW => ?_)
      go_simp
      refine hW _ _ ⟨⟨rfl, no_listed (by simp [go_sem])⟩, ?_⟩
      clear hW
      clear W wV
      try walk_nrm
      refine lives_pure rfl hg (fun wV => ?_)
      refine goes_oper_k rfl rfl (by k_ne) (fun W hW => ?_)
      go_simp
      refine hW _ _ ⟨⟨rfl, no_listed (by simp [go_sem])⟩, ?_⟩
      clear hW
      clear W wV
      try walk_nrm
      refine lives_pure rfl hg (fun wV => ?_)
      refine goes_oper_k rfl rfl (by k_ne) (fun W hW => ?_)
      go_simp
      refine hW _ _ ⟨⟨rfl, no_listed (by simp [go_sem])⟩, ?_⟩
      clear hW
      clear W wV
      try walk_nrm
      refine lives_pure rfl hg (fun wV => ?_)
      refine goes_oper_k rfl rfl (by k_ne) (fun W hW => ?_)
      go_simp
      refine hW _ _ ⟨⟨rfl, no_listed (by simp [go_sem])⟩, ?_⟩
      clear hW
      clear W wV
      try walk_nrm
      refine lives_pure rfl hg (fun wV => ?_)
      refine goes_oper_k rfl rfl (by k_ne) (fun W hW => ?_)
      go_simp
      refine hW _ _ ⟨⟨rfl, no_listed (by simp [go_sem])⟩, ?_⟩
      clear hW
      clear W wV
      try walk_nrm
      refine lives_pure rfl hg (fun wV => ?_)
      refine goes_oper_k rfl rfl (by k_ne) (fun W hW => ?_)
      go_simp
      refine hW _ _ ⟨⟨rfl, no_listed (by simp [go_sem])⟩, ?_⟩
      clear hW
      clear W wV
      try walk_nrm
      refine lives_pure rfl hg (fun wV => ?_)
      refine goes_oper_k rfl rfl (by k_ne) (fun W hW => ?_)
      go_simp
      refine hW _ _ ⟨⟨rfl, no_listed (by simp [go_sem])⟩, ?_⟩
      clear hW
      clear W wV
      try walk_nrm
      refine lives_pure rfl hg (fun wV => ?_)
      refine goes_oper_k rfl rfl (by k_ne) (fun W hW => ?_)
      go_simp
      refine hW _ _ ⟨⟨rfl, no_listed (by simp [go_sem])⟩, ?_⟩
      clear hW
      clear W wV
      try walk_nrm
      refine lives_ctl rfl hg (fun _ => stepG_callv (first := #[]) (caps := #[]) (vs := #[]) rfl rfl (by k_ne) rfl rfl (by simp [Act.eval]) Tryd.func9 (by kernel_rfl) rfl) ?_
      obtain ⟨hk7, hkS7⟩ := ktab_stays s0.hs hk hkS st5
      refine lives_lives s5 hgl5 (by have := A2.cnt; have := A3.later.cnt; have := A4.later.cnt; have := A5.later.cnt; omega) hk7 hkS7 (fun γ8 w8 A8 => ?_)
      have s8 := A8.solo
      have st8 := st5.trans A8.stays
      have tp8 := A8.tape.trans tp5
      rw [Frame.finish_at]
      clear hg
      have hg : γ8.tag 0 ≠ .gone := s8.ng
      walk_nrm
      refine lives_pure rfl hg (fun wV => ?_)
      refine goes_oper_k rfl rfl (by k_ne) (fun W hW => ?_)
      go_simp
      refine hW _ _ ⟨⟨rfl, no_listed (by simp [go_sem])⟩, ?_⟩
      clear hW
      clear W wV
      try walk_nrm
      refine lives_pure rfl hg (fun wV => ?_)
      refine goes_oper_k rfl rfl (by k_ne) (fun W hW => ?_)
      go_simp
      refine hW _ _ ⟨⟨rfl, no_listed (by simp [go_sem])⟩, ?_⟩
      clear hW
      clear W wV
      try walk_nrm
      refine lives_ctl rfl hg (fun _ => stepG_region_end) ?_
      refine lives_ctl rfl hg (fun _ => stepG_ret') ?_
      refine lives_stop s8 rfl (fun _ => stepG_finish (v := .bool true) rfl rfl Tryd.func3 (by kernel_rfl) (by kernel_rfl) (by kernel_rfl)) (fun w9 e1' e2' => ?_)
      exact hP _ _ ⟨s8.ph, s8.tag, s8.deaf, by rw [e1']; exact s8.hs, s8.bk⟩ ⟨st8.hs, st8.bk, fun b hb hp => by rw [e1']; exact st8.heap b hb hp⟩ (by rw [e2']; exact tp8)
  · have st : Stays γ w γ1 w1 := .of l1 e1
    obtain ⟨hk1, hkS1⟩ := ktab_stays s0.hs hk hkS st
    have ht1 := ht.stays st
    have hi1 := hi.stays st
    have hgl1 : Tryd.prog.globals.size ≤ γ1.hs := Nat.le_trans hgl st.hs
    have tp1 := e2
    have hm1 : (decide (1 ≤ m) && decide (m ≤ 16)) = false := by
      by_cases h1 : 1 ≤ m
      · have h2 : ¬ m ≤ 16 := fun h2 => hm ⟨h1, h2⟩
        simp [h2]
      · simp [h1]
    rw [Frame.finish_at]
    clear hg
    have hg : γ1.tag 0 ≠ .gone := s1.ng
    walk_nrm
    refine lives_pure rfl hg (fun wV => ?_)
    refine goes_oper_k rfl rfl (by k_ne) (fun W hW => ?_)
    go_simp
    refine hW _ _ ⟨⟨rfl, no_listed (by simp [go_sem])⟩, ?_⟩
    clear hW
    clear W wV
    try walk_nrm
    refine lives_pure rfl hg (fun wV => ?_)
    refine goes_oper_k rfl rfl (by k_ne) (fun W hW => ?_)
    go_simp
    refine hW _ _ ⟨⟨rfl, no_listed (by simp [go_sem])⟩, ?_⟩
    clear hW
    clear W wV
    try walk_nrm
    refine lives_pure rfl hg (fun wV => ?_)
    refine goes_oper_k rfl rfl (by k_ne) (fun W hW => ?_)
    go_simp
    refine hW _ _ ⟨⟨rfl, no_listed (by simp [go_sem])⟩, ?_⟩
    clear hW
    clear W wV
    try walk_nrm
    refine lives_pure rfl hg (fun wV => ?_)
    refine goes_oper_k rfl rfl (by k_ne) (fun W hW => ?_)
    go_simp
    refine hW _ _ ⟨⟨rfl, no_listed (by simp [go_sem])⟩, ?_⟩
    clear hW
    clear W wV
    try walk_nrm
    refine lives_pure rfl hg (fun wV => ?_)
    refine goes_oper_k rfl rfl (by k_ne) (fun W hW => ?_)
    go_simp
    refine hW _ _ ⟨⟨rfl, no_listed (by simp [go_sem])⟩, ?_⟩
    clear hW
    clear W wV
    try walk_nrm
    refine lives_ctl rfl hg (fun _ => stepG_region_end) ?_
    refine lives_ctl rfl hg (fun _ => stepG_seq) ?_
    refine lives_ctl rfl hg (fun _ => stepG_region) ?_
    simp only [List.size_toArray, List.length_cons, List.length_nil, Nat.reduceAdd, Nat.zero_add, List.range, List.range.loop]
    refine lives_pure rfl hg (fun wV => ?_)
    refine goes_oper_k rfl rfl (by k_ne) (fun W hW => ?_)
    go_simp
    refine hW _ _ ⟨⟨rfl, no_listed (by simp [go_sem])⟩, ?_⟩
    clear hW
    clear W wV
    try walk_nrm
    refine lives_pure rfl hg (fun wV => ?_)
    refine goes_oper_k rfl rfl (by k_ne) (fun W hW => ?_)
    go_simp
    refine hW _ _ ⟨⟨rfl, no_listed (by simp [go_sem])⟩, ?_⟩
    clear hW
    clear W wV
    try walk_nrm
    refine lives_pure rfl hg (fun wV => ?_)
    refine goes_oper_k rfl rfl (by k_ne) (fun W hW => ?_)
    go_simp
    refine hW _ _ ⟨⟨rfl, no_listed (by simp [go_sem])⟩, ?_⟩
    clear hW
    clear W wV
    try walk_nrm
    refine lives_ctl rfl hg (fun _ => stepG_callv (first := #[]) (caps := #[]) (vs := #[.slice la rows.length lc, .slice ia I.length ic, .int .i64 m]) rfl rfl (by k_ne) rfl rfl (by simp [Act.eval]) Tryd.func7 (by kernel_rfl) rfl) ?_
    refine lives_wrong s1 hgl1 (by have := l1.cnt; omega) hn hl hk1 hkS1 ht1 hi1 hkey (fun q => absurd q hm) (fun q => absurd q hm) (fun _ γ2 w2 A2 => ?_)
    have s2 := A2.solo
    have st2 := st.trans A2.stays
    have tp2 := A2.tape.trans tp1
    have hgl2 : Tryd.prog.globals.size ≤ γ2.hs := Nat.le_trans hgl st2.hs
    rw [Frame.finish_at]
    clear hg
    have hg : γ2.tag 0 ≠ .gone := s2.ng
    walk_nrm
    refine lives_pure rfl hg (fun wV => ?_)
    refine goes_oper_k rfl rfl (by k_ne) (fun W hW => ?_)
    go_simp
    refine hW _ _ ⟨⟨rfl, no_listed (by simp [go_sem])⟩, ?_⟩
    clear hW
    clear W wV
    try walk_nrm
    refine lives_pure rfl hg (fun wV => ?_)
    refine goes_oper_k rfl rfl (by k_ne) (fun W hW => ?_)
    go_simp
    refine hW _ _ ⟨⟨rfl, no_listed (by simp [go_sem])⟩, ?_⟩
    clear hW
    clear W wV
    try walk_nrm
    refine lives_pure rfl hg (fun wV => ?_)
    refine goes_oper_k rfl rfl (by k_ne) (fun W hW => ?_)
    go_simp
    refine hW _ _ ⟨⟨rfl, no_listed (by simp [go_sem])⟩, ?_⟩
    clear hW
    clear W wV
    try walk_nrm
    refine lives_pure rfl hg (fun wV => ?_)
    refine goes_oper_k rfl rfl (by k_ne) (fun W hW => ?_)
    go_simp
    refine hW _ _ ⟨⟨rfl, no_listed (by simp [go_sem])⟩, ?_⟩
    clear hW
    clear W wV
    try walk_nrm
    refine lives_pure rfl hg (fun wV => ?_)
    refine goes_oper_k rfl rfl (by k_ne) (fun W hW => ?_)
    go_simp
    refine hW _ _ ⟨⟨rfl, no_listed (by simp [go_sem])⟩, ?_⟩
    clear hW
    clear W wV
    try walk_nrm
    refine lives_ctl rfl hg (fun _ => stepG_region_end) ?_
    refine lives_ctl rfl hg (fun _ => stepG_seq) ?_
    refine lives_ctl rfl hg (fun _ => stepG_seq) ?_
    refine lives_ctl rfl hg (fun _ => stepG_region) ?_
    simp only [List.size_toArray, List.length_cons, List.length_nil, Nat.reduceAdd, Nat.zero_add, List.range, List.range.loop]
    refine lives_pure rfl hg (fun wV => ?_)
    refine goes_oper_k rfl rfl (by k_ne) (fun W hW => ?_)
    go_simp
    refine hW _ _ ⟨⟨rfl, no_listed (by simp [go_sem])⟩, ?_⟩
    clear hW
    clear W wV
    try walk_nrm
    refine lives_ctl rfl hg (fun _ => stepG_callE rfl rfl (by k_ne) rfl (vs := #[.int .i64 m]) (by simp [Act.eval]) Tryd.func8 (by kernel_rfl) (by kernel_rfl)) ?_
    refine lives_refRight s2 hgl2 (fun γ3 w3 A3 => ?_)
    rw [hm1]
    have s3 := A3.solo
    have st3 := st2.trans A3.stays
    have tp3 := A3.tape.trans tp2
    have hgl3 : Tryd.prog.globals.size ≤ γ3.hs := Nat.le_trans hgl st3.hs
    rw [Frame.finish_at]
    clear hg
    have hg : γ3.tag 0 ≠ .gone := s3.ng
    walk_nrm
    refine lives_pure rfl hg (fun wV => ?_)
    refine goes_oper_k rfl rfl (by k_ne) (fun W hW => ?_)
    go_simp
    refine hW _ _ ⟨⟨rfl, no_listed (by simp [go_sem])⟩, ?_⟩
    clear hW
    clear W wV
    try walk_nrm
    refine lives_ctl rfl hg (fun _ => stepG_region_end) ?_
    refine lives_ctl rfl hg (fun _ => stepG_cond (t := true) rfl) ?_
    simp only [if_true, if_false, Bool.false_eq_true, ↓reduceIte]
    refine lives_ctl rfl hg (fun _ => stepG_seq) ?_
    refine lives_ctl rfl hg (fun _ => stepG_region) ?_
    simp only [List.size_toArray, List.length_cons, List.length_nil, Nat.reduceAdd, Nat.zero_add, List.range, List.range.loop]
    refine lives_pure rfl hg (fun wV => ?_)
    refine goes_oper_k rfl rfl (by k_ne) (fun W hW => ?_)
    go_simp
    refine hW _ _ ⟨⟨rfl, no_listed (by simp [go_sem])⟩, ?_⟩
    clear hW
    clear W wV
    try walk_nrm
    refine lives_pure rfl hg (fun wV => ?_)
    refine goes_oper_k rfl rfl (by k_ne) (fun W hW => ?_)
    go_simp
    refine hW _ _ ⟨⟨rfl, no_listed (by simp [go_sem])⟩, ?_⟩
    clear hW
    clear W wV
    try walk_nrm
    refine lives_pure rfl hg (fun wV => ?_)
    refine goes_oper_k rfl rfl (by k_ne) (fun W hW => ?_)
    go_simp
    refine hW _ _ ⟨⟨rfl, no_listed (by simp [go_sem])⟩, ?_⟩
    clear hW
    clear W wV
    try walk_nrm
    refine lives_pure rfl hg (fun wV => ?_)
    refine goes_oper_k rfl rfl (by k_ne) (fun W hW => ?_)
    go_simp
    refine hW _ _ ⟨⟨rfl, no_listed (by simp [go_sem])⟩, ?_⟩
    clear hW
    clear W wV
    try walk_nrm
    refine lives_pure rfl hg (fun wV => ?_)
    refine goes_oper_k rfl rfl (by k_ne) (fun W hW => ?_)
    go_simp
    refine hW _ _ ⟨⟨rfl, no_listed (by simp [go_sem])⟩, ?_⟩
    clear hW
    clear W wV
    try walk_nrm
    refine lives_pure rfl hg (fun wV => ?_)
    refine goes_oper_k rfl rfl (by k_ne) (fun W hW => ?_)
    go_simp
    refine hW _ _ ⟨⟨rfl, no_listed (by simp [go_sem])⟩, ?_⟩
    clear hW
    clear W wV
    try walk_nrm
    refine lives_pure rfl hg (fun wV => ?_)
    refine goes_oper_k rfl rfl (by k_ne) (fun W hW => ?_)
    go_simp
    refine hW _ _ ⟨⟨rfl, no_listed (by simp [go_sem])⟩, ?_⟩
    clear hW
    clear W wV
    try walk_nrm
    refine lives_pure rfl hg (fun wV => ?_)
    refine goes_oper_k rfl rfl (by k_ne) (fun W hW => ?_)
    go_simp
    refine hW _ _ ⟨⟨rfl, no_listed (by simp [go_sem])⟩, ?_⟩
    clear hW
    clear W wV
    try walk_nrm
    refine lives_pure rfl hg (fun wV => ?_)
    refine goes_oper_k rfl rfl (by k_ne) (fun W hW => ?_)
    go_simp
    refine hW _ _ ⟨⟨rfl, no_listed (by simp [go_sem])⟩, ?_⟩
    clear hW
    clear W wV
    try walk_nrm
    refine lives_pure rfl hg (fun wV => ?_)
    refine goes_oper_k rfl rfl (by k_ne) (fun W hW => ?_)
    go_simp
    refine hW _ _ ⟨⟨rfl, no_listed (by simp [go_sem])⟩, ?_⟩
    clear hW
    clear W wV
    try walk_nrm
    refine lives_pure rfl hg (fun wV => ?_)
    refine goes_oper_k rfl rfl (by k_ne) (fun W hW => ?_)
    go_simp
    refine hW _ _ ⟨⟨rfl, no_listed (by simp [go_sem])⟩, ?_⟩
    clear hW
    clear W wV
    try walk_nrm
    refine lives_pure rfl hg (fun wV => ?_)
    refine goes_oper_k rfl rfl (by k_ne) (fun W hW => ?_)
    go_simp
    refine hW _ _ ⟨⟨rfl, no_listed (by simp [go_sem])⟩, ?_⟩
    clear hW
    clear W wV
    try walk_nrm
    refine lives_pure rfl hg (fun wV => ?_)
    refine goes_oper_k rfl rfl (by k_ne) (fun W hW => ?_)
    go_simp
    refine hW _ _ ⟨⟨rfl, no_listed (by simp [go_sem])⟩, ?_⟩
    clear hW
    clear W wV
    try walk_nrm
    refine lives_pure rfl hg (fun wV => ?_)
    refine goes_oper_k rfl rfl (by k_ne) (fun W hW => ?_)
    go_simp
    refine hW _ _ ⟨⟨rfl, no_listed (by simp [go_sem])⟩, ?_⟩
    clear hW
    clear W wV
    try walk_nrm
    refine lives_pure rfl hg (fun wV => ?_)
    refine goes_oper_k rfl rfl (by k_ne) (fun W hW => ?_)
    go_simp
    refine hW _ _ ⟨⟨rfl, no_listed (by simp [go_sem])⟩, ?_⟩
    clear hW
    clear W wV
    try walk_nrm
    refine lives_ctl rfl hg (fun _ => stepG_callv (first := #[]) (caps := #[]) (vs := #[]) rfl rfl (by k_ne) rfl rfl (by simp [Act.eval]) Tryd.func9 (by kernel_rfl) rfl) ?_
    obtain ⟨hk7, hkS7⟩ := ktab_stays s0.hs hk hkS st3
    refine lives_lives s3 hgl3 (by have := A2.cnt; have := A3.later.cnt; have := l1.cnt; omega) hk7 hkS7 (fun γ8 w8 A8 => ?_)
    have s8 := A8.solo
    have st8 := st3.trans A8.stays
    have tp8 := A8.tape.trans tp3
    rw [Frame.finish_at]
    clear hg
    have hg : γ8.tag 0 ≠ .gone := s8.ng
    walk_nrm
    refine lives_pure rfl hg (fun wV => ?_)
    refine goes_oper_k rfl rfl (by k_ne) (fun W hW => ?_)
    go_simp
    refine hW _ _ ⟨⟨rfl, no_listed (by simp [go_sem])⟩, ?_⟩
    clear hW
    clear W wV
    try walk_nrm
    refine lives_pure rfl hg (fun wV => ?_)
    refine goes_oper_k rfl rfl (by k_ne) (fun W hW => ?_)
    go_simp
    refine hW _ _ ⟨⟨rfl, no_listed (by simp [go_sem])⟩, ?_⟩
    clear hW
    clear W wV
    try walk_nrm
    refine lives_ctl rfl hg (fun _ => stepG_region_end) ?_
    refine lives_ctl rfl hg (fun _ => stepG_ret') ?_
    refine lives_stop s8 rfl (fun _ => stepG_finish (v := .bool true) rfl rfl Tryd.func3 (by kernel_rfl) (by kernel_rfl) (by kernel_rfl)) (fun w9 e1' e2' => ?_)
    exact hP _ _ ⟨s8.ph, s8.tag, s8.deaf, by rw [e1']; exact s8.hs, s8.bk⟩ ⟨st8.hs, st8.bk, fun b hb hp => by rw [e1']; exact st8.heap b hb hp⟩ (by rw [e2']; exact tp8)
end
end Go.Proofs.YtbicafgmfgdckaaDoor
namespace Go.Proofs.YtbicafgmfgdckaaDoor
open Go Go.RowKit Go.Conc Go.Conc.Lib Go.ConcR.Gen
section
variable {top : Nat} {γ γ' γ2 : Gho} {w w' w2 w1 : World} {Post : Value → World → Prop} {n : Nat} {I : Txts} {la ia : Option Addr} {lc ic : Nat}
theorem slice12 (k : Nat) (w : World) (h : 12 ≤ ic) : Sem.run Tryd.prog (Instr.slice 23 (.slice ia k ic) none (some (.int .i64 12)) none) w = .ok (.slice ia 12 ic) w := by
  have hu : Tryd.prog.underlying 23 = some (.slice 39) := by kernel_rfl
  have hs : ∃ i, Tryd.prog.info? 39 = some i := by
    cases h : Tryd.prog.info? 39 with
    | none => have q : (Tryd.prog.info? 39).isSome = true := by kernel_rfl
              rw [h] at q; cases q
    | some i => exact ⟨i, rfl⟩
  obtain ⟨i, hi⟩ := hs
  have h' : (12 : Int) ≤ (ic : Int) := by omega
  simp [Instr.slice, run_underlying hu, Instr.sliceBounds, Instr.sliceBound, asIntOf, h', h, sizeOf, typeInfo, hi, map_add_zero]
theorem slice12_ev (k : Nat) (w : World) (h : 12 ≤ ic) : (Instr.slice 23 (.slice ia k ic) none (some (.int .i64 12)) none).events Tryd.prog w #[] = #[] := by
  have hu : Tryd.prog.underlying 23 = some (.slice 39) := by kernel_rfl
  have hs : ∃ i, Tryd.prog.info? 39 = some i := by
    cases h : Tryd.prog.info? 39 with
    | none => have q : (Tryd.prog.info? 39).isSome = true := by kernel_rfl
              rw [h] at q; cases q
    | some i => exact ⟨i, rfl⟩
  obtain ⟨i, hi⟩ := hs
  have h' : (12 : Int) ≤ (ic : Int) := by omega
  simp [Instr.slice, run_underlying hu, Instr.sliceBounds, Instr.sliceBound, asIntOf, h', h, sizeOf, typeInfo, hi, map_add_zero]
theorem RowsH.take {α : Type} {enc : α → List Value} {K : Nat} {a : Option Addr} {cap : Nat} {l : List α} (h : RowsH enc K γ w a cap l) (k : Nat) : RowsH enc K γ w a cap (l.take k) := by
  refine ⟨⟨Nat.le_trans (by rw [List.length_take]; omega) h.rows.fits, h.rows.room, ?_⟩, h.held⟩
  rcases h.rows.rows with rfl | ⟨b, off, e, hb⟩
  · exact .inl (by simp)
  · refine .inr ⟨b, off, e, fun i hi => ?_⟩
    rw [List.getElem_take]
    exact hb i (by rw [List.length_take] at hi; omega)
set_option maxRecDepth 100000 in
set_option maxHeartbeats 8000000 in
theorem lives_law {m : Int} {ls : Txts} (s0 : Solo γ w) (hgl : Tryd.prog.globals.size ≤ γ.hs) (hcnt : γ.cnt + 48 ≤ top) (hk : KTab w) (hkS : γ.bk 0 = .priv 0)
    (hu : UserTexts γ w la lc ls) (hi : RowsH keyC 32 γ w ia ic I) (hkey : ∀ k ∈ I, k.length = 32)
    (hP : ∀ γ' w', Solo γ' w' → Stays γ w γ' w' → w'.tape = w.tape → Post (.bool true) w') :
    LV Tryd.prog wgLink.tWg top Post 0 γ w (G ((base 3).at ⟨#[.slice la ls.length lc, .slice ia I.length ic, .int .i64 m] ++ Array.replicate 84 undef, []⟩ [.code (Tryd.f3.body.getD .skip)]) []) := by
  have hg : γ.tag 0 ≠ .gone := s0.ng
  simp only [Tryd.f3, Option.getD_some]
  walk_nrm
  refine lives_ctl rfl hg (fun _ => stepG_seq) ?_
  refine lives_ctl rfl hg (fun _ => stepG_region) ?_
  simp only [List.size_toArray, List.length_cons, List.length_nil, Nat.reduceAdd, Nat.zero_add, List.range, List.range.loop]
  refine lives_pure rfl hg (fun wV => ?_)
  refine goes_oper_k rfl rfl (by k_ne) (fun W hW => ?_)
  go_simp
  refine hW _ _ ⟨⟨rfl, no_listed (by simp [go_sem])⟩, ?_⟩
  clear hW
  clear W wV
  try walk_nrm
  refine lives_ctl rfl hg (fun _ => stepG_region_end) ?_
  refine lives_ctl rfl hg (fun _ => stepG_seq) ?_
  refine lives_ctl rfl hg (fun _ => stepG_region) ?_
  simp only [List.size_toArray, List.length_cons, List.length_nil, Nat.reduceAdd, Nat.zero_add, List.range, List.range.loop]
  refine lives_pure rfl hg (fun wV => ?_)
  refine goes_oper_k rfl rfl (by k_ne) (fun W hW => ?_)
  go_simp
  refine hW _ _ ⟨⟨rfl, no_listed (by simp [go_sem])⟩, ?_⟩
  clear hW
  clear W wV
  try walk_nrm
  refine lives_ctl rfl hg (fun _ => stepG_callE rfl rfl (by k_ne) rfl (vs := #[.slice la ls.length lc]) (by simp [Act.eval]) Tryd.func5 (by kernel_rfl) (by kernel_rfl)) ?_
  refine lives_few s0 hgl hu (fun γ1 w1 x cx A1 hT => ?_)
  have s1 := A1.solo
  have hl : ∀ r ∈ fewOf ls, r.length ≤ 1000000 := fun r hr => by have := fewOf_short ls r hr; omega
  have hn : (fewOf ls).length ≤ 1000 := by have := fewOf_length ls; omega
  obtain ⟨hk1, hkS1⟩ := ktab_stays s0.hs hk hkS A1.stays
  have hi1 := hi.stays A1.stays
  have hgl1 : Tryd.prog.globals.size ≤ γ1.hs := Nat.le_trans hgl A1.stays.hs
  have hP1 : ∀ γ' w', Solo γ' w' → Stays γ1 w1 γ' w' → w'.tape = w1.tape → Post (.bool true) w' := fun γ' w' s st tp => hP γ' w' s (A1.stays.trans st) (tp.trans A1.tape)
  have hcn1 : γ1.cnt + 48 ≤ top := by have := A1.later.cnt; omega
  generalize fewOf ls = rows at *
  rw [Frame.finish_at]
  clear hg
  have hg : γ1.tag 0 ≠ .gone := s1.ng
  walk_nrm
  refine lives_pure rfl hg (fun wV => ?_)
  refine goes_oper_k rfl rfl (by k_ne) (fun W hW => ?_)
  go_simp
  refine hW _ _ ⟨⟨rfl, no_listed (by simp [go_sem])⟩, ?_⟩
  clear hW
  clear W wV
  try walk_nrm
  refine lives_ctl rfl hg (fun _ => stepG_region_end) ?_
  refine lives_ctl rfl hg (fun _ => stepG_seq) ?_
  refine lives_ctl rfl hg (fun _ => stepG_seq) ?_
  refine lives_ctl rfl hg (fun _ => stepG_region) ?_
  simp only [List.size_toArray, List.length_cons, List.length_nil, Nat.reduceAdd, Nat.zero_add, List.range, List.range.loop]
  refine lives_pure rfl hg (fun wV => ?_)
  refine goes_oper_k rfl rfl (by k_ne) (fun W hW => ?_)
  go_simp
  refine hW _ _ ⟨⟨rfl, no_listed (by simp [go_sem])⟩, ?_⟩
  clear hW
  clear W wV
  try walk_nrm
  refine lives_pure rfl hg (fun wV => ?_)
  refine goes_oper_k rfl rfl (by k_ne) (fun W hW => ?_)
  go_simp
  refine hW _ _ ⟨⟨rfl, no_listed (by simp [go_sem])⟩, ?_⟩
  clear hW
  clear W wV
  try walk_nrm
  refine lives_pure rfl hg (fun wV => ?_)
  refine goes_oper_k rfl rfl (by k_ne) (fun W hW => ?_)
  go_simp
  refine hW _ _ ⟨⟨rfl, no_listed (by simp [go_sem])⟩, ?_⟩
  clear hW
  clear W wV
  try walk_nrm
  refine lives_ctl rfl hg (fun _ => stepG_region_end) ?_
  by_cases h12 : 12 < I.length
  · have hd : decide ((12 : Int) < (I.length : Int)) = true := decide_eq_true (by omega)
    simp only [hd]
    have hic : 12 ≤ ic := by have := hi.rows.fits; omega
    refine lives_ctl rfl hg (fun _ => stepG_cond (t := true) rfl) ?_
    simp only [if_true, if_false, Bool.false_eq_true, ↓reduceIte]
    refine lives_ctl rfl hg (fun _ => stepG_region) ?_
    simp only [List.size_toArray, List.length_cons, List.length_nil, Nat.reduceAdd, Nat.zero_add, List.range, List.range.loop]
    refine lives_pure rfl hg (fun wV => ?_)
    refine goes_oper_k rfl rfl (by k_ne) (fun W hW => ?_)
    go_simp
    refine hW _ _ ⟨⟨rfl, no_listed (by simp [go_sem])⟩, ?_⟩
    clear hW
    clear W wV
    try walk_nrm
    refine lives_pure rfl hg (fun wV => ?_)
    refine goes_oper_k rfl rfl (by k_ne) (fun W hW => ?_)
    have hsl := slice12 (ia := ia) (ic := ic) I.length wV hic
    have hse := slice12_ev (ia := ia) (ic := ic) I.length wV hic
    go_simp
    refine hW _ _ ⟨⟨rfl, no_listed (by simp [go_sem]; exact hse)⟩, ?_⟩
    clear hW hsl hse
    clear W wV
    try walk_nrm
    refine lives_pure rfl hg (fun wV => ?_)
    refine goes_oper_k rfl rfl (by k_ne) (fun W hW => ?_)
    go_simp
    refine hW _ _ ⟨⟨rfl, no_listed (by simp [go_sem])⟩, ?_⟩
    clear hW
    clear W wV
    try walk_nrm
    refine lives_ctl rfl hg (fun _ => stepG_region_end) ?_
    have hI := hi1.take 12
    have h12l : (I.take 12).length = 12 := by rw [List.length_take]; omega
    have hT := lives_law2 (top := top) (m := m) (v11 := .slice la ls.length lc) (v12 := .slice x rows.length cx) (v13 := .slice ia I.length ic) (v14 := .int .i64 I.length) (v15 := .bool true) (v16 := .slice ia I.length ic) (v17 := .slice ia 12 ic) s1 hgl1 hcn1 hn hl hk1 hkS1 hT hI (fun k hk => hkey k (List.mem_of_mem_take hk)) hP1
    rw [h12l] at hT
    simp only [tail3, Tryd.f3, Option.getD_some, Array.replicate_succ, Array.replicate_zero, List.push_toArray, List.append_toArray, List.nil_append, List.cons_append] at hT
    exact hT
  · have hd : decide ((12 : Int) < (I.length : Int)) = false := decide_eq_false (by omega)
    simp only [hd]
    refine lives_ctl rfl hg (fun _ => stepG_cond (t := false) rfl) ?_
    simp only [if_true, if_false, Bool.false_eq_true, ↓reduceIte]
    refine lives_ctl rfl hg (fun _ => stepG_skip) ?_
    have hT := lives_law2 (top := top) (m := m) (v11 := .slice la ls.length lc) (v12 := .slice x rows.length cx) (v13 := .slice ia I.length ic) (v14 := .int .i64 I.length) (v15 := .bool false) (v16 := undef) (v17 := undef) s1 hgl1 hcn1 hn hl hk1 hkS1 hT hi1 hkey hP1
    simp only [tail3, Tryd.f3, Option.getD_some, Array.replicate_succ, Array.replicate_zero, List.push_toArray, List.append_toArray, List.nil_append, List.cons_append] at hT
    exact hT
end
end Go.Proofs.YtbicafgmfgdckaaDoor
