/- Main's walks through the library's WaitGroup, whatever the others do beside its block. For any program. Add of +1 where some are counted. For any program. -/
import Derived.Conc.WgGenN2
namespace Go.Proofs.YtbicafgmfgdckaaDoor
open Go Go.Conc Go.RowKit Go.Conc.Lib Go.ConcR.Gen
open Go.ConcR (KK wgBlock WgAt stA smA rd wr mk DC0)
open Go.ConcN (WgLive)
set_option linter.unusedSimpArgs false

/-- The group's block stays one. -/
def Rl (ty : TypeId) (Wg : Nat) (w w₁ : World) : Prop := WgLive ty Wg w → WgLive ty Wg w₁
theorem rl_live {ty : TypeId} {Wg : Nat} {w w₁ : World} (h : WgLive ty Wg w) (r : Rl ty Wg w w₁) : WgLive ty Wg w₁ := r h
/-- A step that is the library's word. -/
def AtWord (P : Program) (main : Bool) (m : Mark) (Next : Goroutine → World → Prop) (g : Goroutine) (w : World) : Prop := g.status = .running ∧ ∃ g', stepG P main g w = .go g' w #[mk m] ∧ Next g' w
abbrev GM (P : Program) (main : Bool) (ty : TypeId) (Wg : Nat) (Stop : Goroutine → World → Prop) (g : Goroutine) (w : World) : Prop := ∃ n, Goes P main (Rl ty Wg) DC0 Stop n g w
/-- The atomic Add of +1. -/
def AtAdd (P : Program) (main : Bool) (ty : TypeId) (Wg : Nat) (v : Nat) (Next : Goroutine → World → Prop) (g : Goroutine) (w : World) : Prop :=
  g.status = .running ∧ (WgAt ty Wg w (v * KK) 0 → ∃ g', stepG P main g w = .go g' (w.setCell (stA Wg) (.int .u64 ((v + 1) * KK))) #[rd (stA Wg), wr (stA Wg)] ∧ Next g' (w.setCell (stA Wg) (.int .u64 ((v + 1) * KK))))
section
variable {main : Bool} {L : WgLink} {Wg v : Nat} {Next : Goroutine → World → Prop}
set_option maxRecDepth 100000 in
set_option maxHeartbeats 8000000 in
theorem add_first {P : Program} (H : WgLib P L) {b₀ : Frame} {a₀ : Act} {ops₀ : Array Oper} {i₀ : Nat} {rest₀ : List Nat} {k₀ : List Item} {cs : List Frame}
    (hT : ∀ w, WgLive L.tWg Wg w → Next (G (b₀.at (a₀.put ((ops₀[i₀]?).bind (·.dst)) (.tuple #[])) (.inRegion ops₀ rest₀ :: k₀)) cs) w)
    (w : World) (hF : WgLive L.tWg Wg w) :
    GM P main L.tWg Wg (AtWord P main .disable (GM P main L.tWg Wg (AtAdd P main L.tWg Wg 0 (GM P main L.tWg Wg (AtWord P main (.read (smA Wg)) (GM P main L.tWg Wg (AtWord P main .enable (GM P main L.tWg Wg Next))))))))
      (G ((base L.add).at ⟨#[.pointer (some ⟨Wg, 0, none⟩), .int .i64 1, undef, undef, undef, undef, undef, undef, undef, undef, undef, undef, undef, undef, undef, undef, undef, undef, undef, undef, undef, undef, undef, undef, undef, undef, undef, undef, undef, undef, undef, undef, undef, undef, undef, undef, undef, undef, undef, undef, undef, undef, undef, undef, undef, undef, undef, undef, undef, undef, undef, undef, undef, undef, undef, undef, undef, undef, undef, undef, undef, undef, undef, undef, undef, undef, undef, undef, undef, undef, undef, undef, undef, undef, undef, undef, undef, undef, undef, undef, undef, undef, undef, undef, undef, undef, undef, undef, undef, undef, undef, undef, undef, undef, undef, undef, undef, undef, undef, undef, undef, undef, undef, undef, undef, undef, undef, undef, undef, undef, undef, undef, undef, undef, undef, undef, undef], []⟩ [.code (body_add L)]) (b₀.at a₀ (.inRegion ops₀ (i₀ :: rest₀) :: k₀) :: cs)) w := by
  lib_facts
  simp only [body_add, addFn, Option.getD_some]
  refine ⟨60, ?_⟩
  u_c stepG_seq rl_live hF
  u_cond true rl_live hF
  u_c stepG_seq rl_live hF
  u_c stepG_seq rl_live hF
  u_reg rl_live hF
  u_op rl_live hF
  u_op rl_live hF
  u_c stepG_region_end rl_live hF
  u_cond false rl_live hF
  u_c stepG_skip rl_live hF
  u_c stepG_seq rl_live hF
  u_reg rl_live hF
  refine Goes.stop (fun w₁ h₁ => ?_)
  replace hF := rl_live hF h₁
  clear h₁
  refine ⟨rfl, _, stepG_mark0 .disable (by simp) rfl rfl (by k_ne) rfl H.f_disable (x_disable_n L) (x_disable_b L) (x_disable_x L) (x_disable_f L), 60, ?_⟩
  walk_nrm
  u_c stepG_region_end rl_live hF
  u_reg rl_live hF
  u_defer rl_live hF
  u_c stepG_region_end rl_live hF
  u_c stepG_seq rl_live hF
  u_reg rl_live hF
  u_op rl_live hF
  u_c stepG_region_end rl_live hF
  u_c stepG_seq rl_live hF
  u_c stepG_seq rl_live hF
  u_reg rl_live hF
  u_bub rl_live hF
  u_c stepG_region_end rl_live hF
  u_cond false rl_live hF
  u_c stepG_skip rl_live hF
  u_c stepG_seq rl_live hF
  u_reg rl_live hF
  u_op rl_live hF
  u_op rl_live hF
  u_op rl_live hF
  u_op rl_live hF
  u_op rl_live hF
  u_op rl_live hF
  u_call H.f_uAdd (nm_uAdd L) uAddFn rl_live hF
  u_c stepG_seq rl_live hF
  u_reg rl_live hF
  u_op rl_live hF
  u_c stepG_region_end rl_live hF
  u_c stepG_seq rl_live hF
  u_reg rl_live hF
  u_op rl_live hF
  u_op rl_live hF
  u_op rl_live hF
  u_op rl_live hF
  refine Goes.stop (fun w₂ h₂ => ?_)
  replace hF := rl_live hF h₂
  clear h₂
  refine ⟨rfl, fun hw => ?_⟩
  replace hw : WgAt L.tWg Wg w₂ 0 0 := by simpa using hw
  have z : (((0 : Nat) : Int) + 1) * KK = KK := by simp
  rw [z]
  have e0 : IntKind.u64.wrap (0 + 4294967296) = KK := by decide
  refine ⟨_, (stepG_add_atomic rfl rfl (by k_ne) rfl H.f_addU64 (x_addU64_n L) (x_addU64_b L) (x_addU64_x L) .u64 (x_addU64_f L) rfl rfl hw.cellSt (hw.thaw 0)).trans (by rw [e0]; rfl), 110, ?_⟩
  replace hF : WgLive L.tWg Wg (w₂.setCell (stA Wg) (.int .u64 KK)) := ⟨_, _, hw.setSt _⟩
  clear hw
  simp only [KK] at hF ⊢
  walk_nrm
  u_op rl_live hF
  u_c stepG_region_end rl_live hF
  u_c stepG_ret' rl_live hF
  u_leave1 H.f_uAdd rl_live hF
  u_op rl_live hF
  u_c stepG_region_end rl_live hF
  u_c stepG_seq rl_live hF
  u_c stepG_seq rl_live hF
  u_reg rl_live hF
  u_op rl_live hF
  u_op rl_live hF
  u_op rl_live hF
  u_op rl_live hF
  u_skip rl_live hF
  u_skip rl_live hF
  u_op rl_live hF
  u_c stepG_region_end rl_live hF
  u_cond false rl_live hF
  u_c stepG_skip rl_live hF
  u_c stepG_seq rl_live hF
  u_reg rl_live hF
  u_op rl_live hF
  u_op rl_live hF
  u_op rl_live hF
  u_op rl_live hF
  u_c stepG_region_end rl_live hF
  u_c stepG_seq rl_live hF
  u_reg rl_live hF
  u_op rl_live hF
  u_op rl_live hF
  u_op rl_live hF
  u_op rl_live hF
  u_c stepG_region_end rl_live hF
  u_c stepG_seq rl_live hF
  u_c stepG_seq rl_live hF
  u_reg rl_live hF
  u_op rl_live hF
  u_op rl_live hF
  u_op rl_live hF
  u_op rl_live hF
  u_op rl_live hF
  u_op rl_live hF
  u_op rl_live hF
  u_op rl_live hF
  u_op rl_live hF
  u_op rl_live hF
  u_c stepG_region_end rl_live hF
  u_cond true rl_live hF
  u_reg rl_live hF
  u_op rl_live hF
  u_op rl_live hF
  u_op rl_live hF
  u_conv H.underlying_tPU32 H.room_tU32 (Go.ConcN.Gen.WgLive.cell1 hF).choose_spec rl_live hF
  refine Goes.stop (fun w₁ h₁ => ?_)
  replace hF := rl_live hF h₁
  clear h₁
  refine ⟨rfl, _, stepG_markAt .read (by simp) rfl rfl (by k_ne) rfl H.f_raceRead (x_raceRead_n L) (x_raceRead_b L) (x_raceRead_x L) (x_raceRead_f L) (by simp [Act.eval, smA]), 60, ?_⟩
  walk_nrm
  u_c stepG_region_end rl_live hF
  u_c stepG_seq rl_live hF
  u_c stepG_seq rl_live hF
  u_reg rl_live hF
  u_op rl_live hF
  u_op rl_live hF
  u_c stepG_region_end rl_live hF
  u_cond false rl_live hF
  u_c stepG_skip rl_live hF
  u_c stepG_seq rl_live hF
  u_c stepG_seq rl_live hF
  u_reg rl_live hF
  u_op rl_live hF
  u_op rl_live hF
  u_op rl_live hF
  u_skip rl_live hF
  u_skip rl_live hF
  u_op rl_live hF
  u_op rl_live hF
  u_skip rl_live hF
  u_skip rl_live hF
  u_skip rl_live hF
  u_skip rl_live hF
  u_op rl_live hF
  u_c stepG_region_end rl_live hF
  u_cond false rl_live hF
  u_c stepG_skip rl_live hF
  u_c stepG_seq rl_live hF
  u_c stepG_seq rl_live hF
  u_reg rl_live hF
  u_op rl_live hF
  u_op rl_live hF
  u_op rl_live hF
  u_skip rl_live hF
  u_skip rl_live hF
  u_op rl_live hF
  u_c stepG_region_end rl_live hF
  u_cond true rl_live hF
  u_c stepG_ret' rl_live hF
  refine Goes.stop (fun w₃ h₃ => ?_)
  replace hF := rl_live hF h₃
  clear h₃
  refine ⟨rfl, _, stepG_unwind_entry (v := .tuple #[]) (evs := #[mk .enable]) rfl H.f_enable (x_enable_n L) (x_enable_b L) (x_enable_x L) (x_enable_f L) (by simp [Extern.Race.none_]) (by simp [mk]) (by simp [mk]), 1, ?_⟩
  u_leave0 H.f_add rl_live hF
  exact Goes.stop fun w₄ h₄ => hT w₄ (rl_live hF h₄)
end
end Go.Proofs.YtbicafgmfgdckaaDoor
namespace Go.Proofs.YtbicafgmfgdckaaDoor
open Go Go.Conc Go.RowKit Go.Conc.Lib Go.ConcR.Gen
open Go.ConcR (KK wgBlock WgAt stA smA rd wr mk DC0)
open Go.ConcN (WgLive)
set_option linter.unusedSimpArgs false
section
variable {main : Bool} {L : WgLink} {Wg v : Nat} {Next : Goroutine → World → Prop}
set_option maxRecDepth 100000 in
set_option maxHeartbeats 8000000 in
theorem add_more {P : Program} (H : WgLib P L) {b₀ : Frame} {a₀ : Act} {ops₀ : Array Oper} {i₀ : Nat} {rest₀ : List Nat} {k₀ : List Item} {cs : List Frame} (hv1 : 1 ≤ v) (hv2 : v < 2147483647)
    (hT : ∀ w, WgLive L.tWg Wg w → Next (G (b₀.at (a₀.put ((ops₀[i₀]?).bind (·.dst)) (.tuple #[])) (.inRegion ops₀ rest₀ :: k₀)) cs) w)
    (w : World) (hF : WgLive L.tWg Wg w) :
    GM P main L.tWg Wg (AtWord P main .disable (GM P main L.tWg Wg (AtAdd P main L.tWg Wg v (GM P main L.tWg Wg (AtWord P main .enable (GM P main L.tWg Wg Next))))))
      (G ((base L.add).at ⟨#[.pointer (some ⟨Wg, 0, none⟩), .int .i64 1, undef, undef, undef, undef, undef, undef, undef, undef, undef, undef, undef, undef, undef, undef, undef, undef, undef, undef, undef, undef, undef, undef, undef, undef, undef, undef, undef, undef, undef, undef, undef, undef, undef, undef, undef, undef, undef, undef, undef, undef, undef, undef, undef, undef, undef, undef, undef, undef, undef, undef, undef, undef, undef, undef, undef, undef, undef, undef, undef, undef, undef, undef, undef, undef, undef, undef, undef, undef, undef, undef, undef, undef, undef, undef, undef, undef, undef, undef, undef, undef, undef, undef, undef, undef, undef, undef, undef, undef, undef, undef, undef, undef, undef, undef, undef, undef, undef, undef, undef, undef, undef, undef, undef, undef, undef, undef, undef, undef, undef, undef, undef, undef, undef, undef, undef], []⟩ [.code (body_add L)]) (b₀.at a₀ (.inRegion ops₀ (i₀ :: rest₀) :: k₀) :: cs)) w := by
  lib_facts
  simp only [body_add, addFn, Option.getD_some]
  refine ⟨60, ?_⟩
  u_c stepG_seq rl_live hF
  u_cond true rl_live hF
  u_c stepG_seq rl_live hF
  u_c stepG_seq rl_live hF
  u_reg rl_live hF
  u_op rl_live hF
  u_op rl_live hF
  u_c stepG_region_end rl_live hF
  u_cond false rl_live hF
  u_c stepG_skip rl_live hF
  u_c stepG_seq rl_live hF
  u_reg rl_live hF
  refine Goes.stop (fun w₁ h₁ => ?_)
  replace hF := rl_live hF h₁
  clear h₁
  refine ⟨rfl, _, stepG_mark0 .disable (by simp) rfl rfl (by k_ne) rfl H.f_disable (x_disable_n L) (x_disable_b L) (x_disable_x L) (x_disable_f L), 60, ?_⟩
  walk_nrm
  u_c stepG_region_end rl_live hF
  u_reg rl_live hF
  u_defer rl_live hF
  u_c stepG_region_end rl_live hF
  u_c stepG_seq rl_live hF
  u_reg rl_live hF
  u_op rl_live hF
  u_c stepG_region_end rl_live hF
  u_c stepG_seq rl_live hF
  u_c stepG_seq rl_live hF
  u_reg rl_live hF
  u_bub rl_live hF
  u_c stepG_region_end rl_live hF
  u_cond false rl_live hF
  u_c stepG_skip rl_live hF
  u_c stepG_seq rl_live hF
  u_reg rl_live hF
  u_op rl_live hF
  u_op rl_live hF
  u_op rl_live hF
  u_op rl_live hF
  u_op rl_live hF
  u_op rl_live hF
  u_call H.f_uAdd (nm_uAdd L) uAddFn rl_live hF
  u_c stepG_seq rl_live hF
  u_reg rl_live hF
  u_op rl_live hF
  u_c stepG_region_end rl_live hF
  u_c stepG_seq rl_live hF
  u_reg rl_live hF
  u_op rl_live hF
  u_op rl_live hF
  u_op rl_live hF
  u_op rl_live hF
  refine Goes.stop (fun w₂ h₂ => ?_)
  replace hF := rl_live hF h₂
  clear h₂
  refine ⟨rfl, fun hw => ?_⟩
  obtain ⟨V, hV⟩ : ∃ V : Int, V = (v : Int) + 1 := ⟨_, rfl⟩
  obtain ⟨S, hS⟩ : ∃ S : Int, S = V * KK := ⟨_, rfl⟩
  have eS : IntKind.u64.wrap ((v : Int) * KK + 4294967296) = S := by rw [IntKind.wrap_u64, hS, hV]; simp only [KK]; omega
  rw [← hV, ← hS]
  have a1 : S / 4294967296 = V := by rw [hS]; simp only [KK]; omega
  have b1 : bits .and .u64 S 2147483648 = 0 := by rw [hS, hV]; have := Go.ConcN.st_flag (v + 1) 0 (by omega) (by omega); simpa [KK] using this
  have b2 : bits .and .u64 S 2147483647 = 0 := by rw [hS, hV]; have := Go.ConcN.st_waiters (v + 1) 0 (by omega) (by omega); simpa [KK] using this
  have c1 : IntKind.i32.wrap V = V := by rw [IntKind.wrap_i32]; omega
  have hV1 : 1 < V := by omega
  have hV2 : V < 2147483648 := by omega
  have q1 : (V == 1) = false := by simp; omega
  have q2 : decide (V = 1) = false := decide_eq_false (by omega)
  have q3 : decide (V < 0) = false := decide_eq_false (by omega)
  have q4 : decide (0 < V) = true := decide_eq_true (by omega)
  have q5 : (V == 0) = false := by simp; omega
  have q6 : decide (V = 0) = false := decide_eq_false (by omega)
  refine ⟨_, (stepG_add_atomic rfl rfl (by k_ne) rfl H.f_addU64 (x_addU64_n L) (x_addU64_b L) (x_addU64_x L) .u64 (x_addU64_f L) rfl rfl hw.cellSt (hw.thaw 0)).trans (by rw [eS]; rfl), 110, ?_⟩
  replace hF : WgLive L.tWg Wg (w₂.setCell (stA Wg) (.int .u64 S)) := ⟨_, _, hw.setSt _⟩
  clear hw hS hV eS
  walk_nrm
  u_op rl_live hF
  u_c stepG_region_end rl_live hF
  u_c stepG_ret' rl_live hF
  u_leave1 H.f_uAdd rl_live hF
  u_op rl_live hF
  u_c stepG_region_end rl_live hF
  u_c stepG_seq rl_live hF
  u_c stepG_seq rl_live hF
  u_reg rl_live hF
  u_op rl_live hF
  u_op rl_live hF
  u_op rl_live hF
  u_op rl_live hF
  u_skip rl_live hF
  u_skip rl_live hF
  u_op rl_live hF
  u_c stepG_region_end rl_live hF
  u_cnd false rl_live hF
  u_c stepG_skip rl_live hF
  u_c stepG_seq rl_live hF
  u_reg rl_live hF
  u_op rl_live hF
  u_op rl_live hF
  u_op rl_live hF
  u_op rl_live hF
  u_c stepG_region_end rl_live hF
  u_c stepG_seq rl_live hF
  u_reg rl_live hF
  u_op rl_live hF
  u_op rl_live hF
  u_op rl_live hF
  u_op rl_live hF
  u_c stepG_region_end rl_live hF
  u_c stepG_seq rl_live hF
  u_c stepG_seq rl_live hF
  u_reg rl_live hF
  u_op rl_live hF
  u_op rl_live hF
  u_op rl_live hF
  u_op rl_live hF
  u_op rl_live hF
  u_op rl_live hF
  u_op rl_live hF
  u_op rl_live hF
  u_op rl_live hF
  u_op rl_live hF
  u_c stepG_region_end rl_live hF
  u_cnd false rl_live hF
  u_c stepG_skip rl_live hF
  u_c stepG_seq rl_live hF
  u_c stepG_seq rl_live hF
  u_reg rl_live hF
  u_op rl_live hF
  u_op rl_live hF
  u_c stepG_region_end rl_live hF
  u_cnd false rl_live hF
  u_c stepG_skip rl_live hF
  u_c stepG_seq rl_live hF
  u_c stepG_seq rl_live hF
  u_reg rl_live hF
  u_op rl_live hF
  u_op rl_live hF
  u_op rl_live hF
  u_skip rl_live hF
  u_skip rl_live hF
  u_op rl_live hF
  u_op rl_live hF
  u_skip rl_live hF
  u_skip rl_live hF
  u_skip rl_live hF
  u_skip rl_live hF
  u_op rl_live hF
  u_c stepG_region_end rl_live hF
  u_cnd false rl_live hF
  u_c stepG_skip rl_live hF
  u_c stepG_seq rl_live hF
  u_c stepG_seq rl_live hF
  u_reg rl_live hF
  u_op rl_live hF
  u_op rl_live hF
  u_op rl_live hF
  u_skip rl_live hF
  u_skip rl_live hF
  u_op rl_live hF
  u_c stepG_region_end rl_live hF
  u_cnd true rl_live hF
  u_c stepG_ret' rl_live hF
  refine Goes.stop (fun w₃ h₃ => ?_)
  replace hF := rl_live hF h₃
  clear h₃
  refine ⟨rfl, _, stepG_unwind_entry (v := .tuple #[]) (evs := #[mk .enable]) rfl H.f_enable (x_enable_n L) (x_enable_b L) (x_enable_x L) (x_enable_f L) (by simp [Extern.Race.none_]) (by simp [mk]) (by simp [mk]), 1, ?_⟩
  u_leave0 H.f_add rl_live hF
  exact Goes.stop fun w₄ h₄ => hT w₄ (rl_live hF h₄)
end
end Go.Proofs.YtbicafgmfgdckaaDoor
