/- A piece. -/
import Derived.Conc.WgGenN3
set_option maxRecDepth 100000
set_option maxHeartbeats 16000000
set_option linter.all false
namespace Go.Proofs.YtbicafgmfgdckaaGreatDoor
section
open Go Go.Conc Go.RowKit Go.Conc.Lib Go.ConcR.Gen
open Go.ConcR (KK wgBlock WgAt stA smA rd wr mk DC0)
open Go.ConcN (WgLive)
set_option linter.unusedSimpArgs false
def Rl (ty:TypeId) (Wg:Nat) (w w₁:World):Prop:=WgLive ty Wg w->WgLive ty Wg w₁
theorem Aa {ty:TypeId} {Wg:Nat} {w w₁:World} (h:WgLive ty Wg w) (r:Rl ty Wg w w₁):WgLive ty Wg w₁:=r h
def Gx (P:Program) (main:Bool) (m:Mark) (Next:Goroutine->World->Prop) (g:Goroutine) (w:World):Prop:=g.status=.running/\∃g',stepG P main g w=.go g' w #[mk m]/\Next g' w
abbrev GM (P:Program) (main:Bool) (ty:TypeId) (Wg:Nat) (Stop:Goroutine->World->Prop) (g:Goroutine) (w:World):Prop:=∃n,Goes P main (Rl ty Wg) DC0 Stop n g w
def Ap6 (P:Program) (main:Bool) (ty:TypeId) (Wg:Nat) (v:Nat) (Next:Goroutine->World->Prop) (g:Goroutine) (w:World):Prop :=
 g.status=.running/\(WgAt ty Wg w (v * KK) 0->∃g',stepG P main g w=.go g' (w.setCell (stA Wg) (.int .u64 ((v+1) * KK))) #[rd (stA Wg),wr (stA Wg)]/\Next g' (w.setCell (stA Wg) (.int .u64 ((v+1) * KK))))
section
variable {main:Bool} {L:WgLink} {Wg v:Nat} {Next:Goroutine->World->Prop}
theorem Ald {P:Program} (H:WgLib P L) {b₀:Frame} {a₀:Act} {ops₀:Array Oper} {i₀:Nat} {rest₀:List Nat} {k₀:List Item} {cs:List Frame}
  (hT:∀w,WgLive L.tWg Wg w->Next (G (b₀.at (a₀.put ((ops₀[i₀]?).bind (·.dst)) (.tuple #[])) (.inRegion ops₀ rest₀::k₀)) cs) w)
  (w:World) (hF:WgLive L.tWg Wg w) :
  GM P main L.tWg Wg (Gx P main .disable (GM P main L.tWg Wg (Ap6 P main L.tWg Wg 0 (GM P main L.tWg Wg (Gx P main (.read (smA Wg)) (GM P main L.tWg Wg (Gx P main .enable (GM P main L.tWg Wg Next))))))))
   (G ((base L.add).at ⟨#[.pointer (some ⟨Wg,0,none⟩),.int .i64 1,undef,undef,undef,undef,undef,undef,undef,undef,undef,undef,undef,undef,undef,undef,undef,undef,undef,undef,undef,undef,undef,undef,undef,undef,undef,undef,undef,undef,undef,undef,undef,undef,undef,undef,undef,undef,undef,undef,undef,undef,undef,undef,undef,undef,undef,undef,undef,undef,undef,undef,undef,undef,undef,undef,undef,undef,undef,undef,undef,undef,undef,undef,undef,undef,undef,undef,undef,undef,undef,undef,undef,undef,undef,undef,undef,undef,undef,undef,undef,undef,undef,undef,undef,undef,undef,undef,undef,undef,undef,undef,undef,undef,undef,undef,undef,undef,undef,undef,undef,undef,undef,undef,undef,undef,undef,undef,undef,undef,undef,undef,undef,undef,undef,undef,undef],[]⟩ [.code (body_add L)]) (b₀.at a₀ (.inRegion ops₀ (i₀::rest₀)::k₀)::cs)) w:=by
 lib_facts
 simp only[body_add,addFn,Option.getD_some];refine⟨60,?_⟩
 u_c stepG_seq Aa hF
 u_cond true Aa hF
 u_c stepG_seq Aa hF
 u_c stepG_seq Aa hF
 u_reg Aa hF
 u_op Aa hF
 u_op Aa hF
 u_c stepG_region_end Aa hF
 u_cond false Aa hF
 u_c stepG_skip Aa hF
 u_c stepG_seq Aa hF
 u_reg Aa hF
 refine Goes.stop (fun w₁ h₁=>?_);replace hF:=Aa hF h₁;clear h₁;refine⟨rfl,_,stepG_mark0 .disable (by simp) rfl rfl (by k_ne) rfl H.f_disable (x_disable_n L) (x_disable_b L) (x_disable_x L) (x_disable_f L),60,?_⟩;walk_nrm
 u_c stepG_region_end Aa hF
 u_reg Aa hF
 u_defer Aa hF
 u_c stepG_region_end Aa hF
 u_c stepG_seq Aa hF
 u_reg Aa hF
 u_op Aa hF
 u_c stepG_region_end Aa hF
 u_c stepG_seq Aa hF
 u_c stepG_seq Aa hF
 u_reg Aa hF
 u_bub Aa hF
 u_c stepG_region_end Aa hF
 u_cond false Aa hF
 u_c stepG_skip Aa hF
 u_c stepG_seq Aa hF
 u_reg Aa hF
 u_op Aa hF
 u_op Aa hF
 u_op Aa hF
 u_op Aa hF
 u_op Aa hF
 u_op Aa hF
 u_call H.f_uAdd (nm_uAdd L) uAddFn Aa hF
 u_c stepG_seq Aa hF
 u_reg Aa hF
 u_op Aa hF
 u_c stepG_region_end Aa hF
 u_c stepG_seq Aa hF
 u_reg Aa hF
 u_op Aa hF
 u_op Aa hF
 u_op Aa hF
 u_op Aa hF
 refine Goes.stop (fun w₂ h₂=>?_);replace hF:=Aa hF h₂;clear h₂;refine⟨rfl,fun hw=>?_⟩;replace hw:WgAt L.tWg Wg w₂ 0 0:=by simpa using hw
 have z:(((0:Nat):Int)+1) * KK=KK:=by simp
 rw[z];have e0:IntKind.u64.wrap (0+4294967296)=KK:=by decide
 refine⟨_,(stepG_add_atomic rfl rfl (by k_ne) rfl H.f_addU64 (x_addU64_n L) (x_addU64_b L) (x_addU64_x L) .u64 (x_addU64_f L) rfl rfl hw.cellSt (hw.thaw 0)).trans (by rw[e0];rfl),110,?_⟩;replace hF:WgLive L.tWg Wg (w₂.setCell (stA Wg) (.int .u64 KK)):=⟨_,_,hw.setSt _⟩;clear hw;simp only[KK] at hF ⊢;walk_nrm
 u_op Aa hF
 u_c stepG_region_end Aa hF
 u_c stepG_ret' Aa hF
 u_leave1 H.f_uAdd Aa hF
 u_op Aa hF
 u_c stepG_region_end Aa hF
 u_c stepG_seq Aa hF
 u_c stepG_seq Aa hF
 u_reg Aa hF
 u_op Aa hF
 u_op Aa hF
 u_op Aa hF
 u_op Aa hF
 u_skip Aa hF
 u_skip Aa hF
 u_op Aa hF
 u_c stepG_region_end Aa hF
 u_cond false Aa hF
 u_c stepG_skip Aa hF
 u_c stepG_seq Aa hF
 u_reg Aa hF
 u_op Aa hF
 u_op Aa hF
 u_op Aa hF
 u_op Aa hF
 u_c stepG_region_end Aa hF
 u_c stepG_seq Aa hF
 u_reg Aa hF
 u_op Aa hF
 u_op Aa hF
 u_op Aa hF
 u_op Aa hF
 u_c stepG_region_end Aa hF
 u_c stepG_seq Aa hF
 u_c stepG_seq Aa hF
 u_reg Aa hF
 u_op Aa hF
 u_op Aa hF
 u_op Aa hF
 u_op Aa hF
 u_op Aa hF
 u_op Aa hF
 u_op Aa hF
 u_op Aa hF
 u_op Aa hF
 u_op Aa hF
 u_c stepG_region_end Aa hF
 u_cond true Aa hF
 u_reg Aa hF
 u_op Aa hF
 u_op Aa hF
 u_op Aa hF
 u_conv H.underlying_tPU32 H.room_tU32 (Go.ConcN.Gen.WgLive.cell1 hF).choose_spec Aa hF
 refine Goes.stop (fun w₁ h₁=>?_);replace hF:=Aa hF h₁;clear h₁;refine⟨rfl,_,stepG_markAt .read (by simp) rfl rfl (by k_ne) rfl H.f_raceRead (x_raceRead_n L) (x_raceRead_b L) (x_raceRead_x L) (x_raceRead_f L) (by simp[Act.eval,smA]),60,?_⟩;walk_nrm
 u_c stepG_region_end Aa hF
 u_c stepG_seq Aa hF
 u_c stepG_seq Aa hF
 u_reg Aa hF
 u_op Aa hF
 u_op Aa hF
 u_c stepG_region_end Aa hF
 u_cond false Aa hF
 u_c stepG_skip Aa hF
 u_c stepG_seq Aa hF
 u_c stepG_seq Aa hF
 u_reg Aa hF
 u_op Aa hF
 u_op Aa hF
 u_op Aa hF
 u_skip Aa hF
 u_skip Aa hF
 u_op Aa hF
 u_op Aa hF
 u_skip Aa hF
 u_skip Aa hF
 u_skip Aa hF
 u_skip Aa hF
 u_op Aa hF
 u_c stepG_region_end Aa hF
 u_cond false Aa hF
 u_c stepG_skip Aa hF
 u_c stepG_seq Aa hF
 u_c stepG_seq Aa hF
 u_reg Aa hF
 u_op Aa hF
 u_op Aa hF
 u_op Aa hF
 u_skip Aa hF
 u_skip Aa hF
 u_op Aa hF
 u_c stepG_region_end Aa hF
 u_cond true Aa hF
 u_c stepG_ret' Aa hF
 refine Goes.stop (fun w₃ h₃=>?_);replace hF:=Aa hF h₃;clear h₃;refine⟨rfl,_,stepG_unwind_entry (v:=.tuple #[]) (evs:=#[mk .enable]) rfl H.f_enable (x_enable_n L) (x_enable_b L) (x_enable_x L) (x_enable_f L) (by simp[Extern.Race.none_]) (by simp[mk]) (by simp[mk]),1,?_⟩
 u_leave0 H.f_add Aa hF
 exact Goes.stop fun w₄ h₄=>hT w₄ (Aa hF h₄)
end
end
section
open Go Go.Conc Go.RowKit Go.Conc.Lib Go.ConcR.Gen
open Go.ConcR (KK wgBlock WgAt stA smA rd wr mk DC0)
open Go.ConcN (WgLive)
set_option linter.unusedSimpArgs false
section
variable (P:Program) (main:Bool) (ty:TypeId) (Wg:Nat) (Aha Next:Goroutine->World->Prop)
abbrev Ag6:Goroutine->World->Prop:=GM P main ty Wg (Gx P main .enable (GM P main ty Wg (Gx P main (.acquire (stA Wg)) (GM P main ty Wg Next))))
def AtW4 (g:Goroutine) (w:World):Prop:=g.status=.running/\(WgAt ty Wg w 0 0->∃g',stepG P main g w=.go g' w #[rd (stA Wg)]/\Ag6 P main ty Wg Next g' w)
def AtW3 (g:Goroutine) (w:World):Prop:=g.status=.running/\g.offers=none/\((∃st,WgAt ty Wg w st 0)->stepG P main g w=.go { g with status:=.blocked } w #[]) /\
 (WgAt ty Wg w 0 1->∃g',stepG P main g w=.go g' (w.setCell (smA Wg) (.int .u32 0)) (semEvents (smA Wg))/\GM P main ty Wg (AtW4 P main ty Wg Next) g' (w.setCell (smA Wg) (.int .u32 0)))
def AtW2 (vs:Nat) (g:Goroutine) (w:World):Prop:=g.status=.running/\∀v:Nat,v < 2147483648->WgAt ty Wg w (v * KK) 0 ->
 (v=vs->∃g',stepG P main g w=.go g' (w.setCell (stA Wg) (.int .u64 (v * KK+1))) #[rd (stA Wg),wr (stA Wg)]/\GM P main ty Wg (Gx P main (.write (smA Wg)) (GM P main ty Wg (AtW3 P main ty Wg Next))) g' (w.setCell (stA Wg) (.int .u64 (v * KK+1)))) /\
 (v≠vs->∃g',stepG P main g w=.go g' w #[rd (stA Wg)]/\GM P main ty Wg Aha g' w)
def AtW1 (g:Goroutine) (w:World):Prop:=g.status=.running/\∀v:Nat,v < 2147483648->WgAt ty Wg w (v * KK) 0->∃g',stepG P main g w=.go g' w #[rd (stA Wg)] /\
 (v=0->Ag6 P main ty Wg Next g' w)/\(v≠0->GM P main ty Wg (AtW2 P main ty Wg Aha Next v) g' w)
end
def Aha (L:WgLink) (Wg:Nat) (c:Frame) (cs:List Frame) (g:Goroutine) (w:World):Prop :=
 ∃T:Array Value,g=G ((base L.wait).at ⟨T,[]⟩ [.code (L7 L),.inLoop (L7 L),.inBlock 0]) (c::cs)/\T.size=84/\T[0]?=some (.pointer (some ⟨Wg,0,none⟩))/\WgLive L.tWg Wg w
section
variable {main:Bool} {L:WgLink} {Wg:Nat} {Next:Goroutine->World->Prop} {b₀:Frame} {a₀:Act} {ops₀:Array Oper} {i₀:Nat} {rest₀:List Nat} {k₀:List Item} {cs:List Frame}
theorem Ae2 {P:Program} (H:WgLib P L) (hT:∀w,WgLive L.tWg Wg w->Next (G (b₀.at (a₀.put ((ops₀[i₀]?).bind (·.dst)) (.tuple #[])) (.inRegion ops₀ rest₀::k₀)) cs) w)
  (g:Goroutine) (w:World) (h:Aha L Wg (b₀.at a₀ (.inRegion ops₀ (i₀::rest₀)::k₀)) cs g w) :
  GM P main L.tWg Wg (AtW1 P main L.tWg Wg (Aha L Wg (b₀.at a₀ (.inRegion ops₀ (i₀::rest₀)::k₀)) cs) Next) g w:=by
 lib_facts
 obtain⟨T,rfl,hT84,t0,hF⟩:=h;obtain⟨v0,v1,v2,v3,v4,v5,v6,v7,v8,v9,v10,v11,v12,v13,v14,v15,v16,v17,v18,v19,v20,v21,v22,v23,v24,v25,v26,v27,v28,v29,v30,v31,v32,v33,v34,v35,v36,v37,v38,v39,v40,v41,v42,v43,v44,v45,v46,v47,v48,v49,v50,v51,v52,v53,v54,v55,v56,v57,v58,v59,v60,v61,v62,v63,v64,v65,v66,v67,v68,v69,v70,v71,v72,v73,v74,v75,v76,v77,v78,v79,v80,v81,v82,v83,rfl⟩:=array84 T hT84;simp only[List.getElem?_toArray,List.getElem?_cons_zero,Option.some.injEq] at t0;subst t0;refine⟨30,?_⟩;simp only[L7,body_wait,waitFn,Option.getD_some]
 u_c stepG_block Aa hF
 u_c stepG_seq Aa hF
 u_reg Aa hF
 u_op Aa hF
 u_op Aa hF
 u_op Aa hF
 u_call H.f_uLoad (nm_uLoad L) uLoadFn Aa hF
 u_c stepG_seq Aa hF
 u_reg Aa hF
 u_op Aa hF
 u_c stepG_region_end Aa hF
 u_c stepG_seq Aa hF
 u_reg Aa hF
 u_op Aa hF
 u_op Aa hF
 u_op Aa hF
 refine Goes.stop (fun w₁ hw₁=>?_);replace hF:=Aa hF hw₁;clear hw₁;refine⟨rfl,fun v hv hw=>?_⟩;rcases Nat.eq_zero_or_pos v with rfl|hvp
 ·replace hw:WgAt L.tWg Wg w₁ 0 0:=by simpa using hw
  refine⟨_,stepG_load_atomic (v:=0) rfl rfl (by k_ne) rfl H.f_loadU64 (x_loadU64_n L) (x_loadU64_b L) (x_loadU64_x L) .u64 (x_loadU64_f L) rfl hw.cellSt,fun _=>⟨90,?_⟩,fun h=>absurd rfl h⟩;clear hw;walk_nrm
  u_op Aa hF
  u_c stepG_region_end Aa hF
  u_c stepG_ret' Aa hF
  u_leave1 H.f_uLoad Aa hF
  u_op Aa hF
  u_c stepG_region_end Aa hF
  u_c stepG_seq Aa hF
  u_reg Aa hF
  u_op Aa hF
  u_op Aa hF
  u_op Aa hF
  u_op Aa hF
  u_c stepG_region_end Aa hF
  u_c stepG_seq Aa hF
  u_reg Aa hF
  u_op Aa hF
  u_op Aa hF
  u_op Aa hF
  u_op Aa hF
  u_c stepG_region_end Aa hF
  u_c stepG_seq Aa hF
  u_c stepG_seq Aa hF
  u_reg Aa hF
  u_op Aa hF
  u_op Aa hF
  u_c stepG_region_end Aa hF
  u_cond true Aa hF
  u_c stepG_seq Aa hF
  u_cond true Aa hF
  u_c stepG_seq Aa hF
  u_reg Aa hF
  refine Goes.stop (fun wE hwE=>?_);replace hF:=Aa hF hwE;clear hwE;refine⟨rfl,_,stepG_mark0 .enable (by simp) rfl rfl (by k_ne) rfl H.f_enable (x_enable_n L) (x_enable_b L) (x_enable_x L) (x_enable_f L),60,?_⟩;walk_nrm
  u_c stepG_region_end Aa hF
  u_reg Aa hF
  u_op Aa hF
  u_conv H.underlying_tWgP H.room_tWg (Go.ConcN.Gen.WgLive.cell0 hF).choose_spec Aa hF
  refine Goes.stop (fun wA hwA=>?_);replace hF:=Aa hF hwA;clear hwA;refine⟨rfl,_,stepG_markAt .acquire (by simp) rfl rfl (by k_ne) rfl H.f_acquire (x_acquire_n L) (x_acquire_b L) (x_acquire_x L) (x_acquire_f L) (by simp[Act.eval,stA]),60,?_⟩;walk_nrm
  u_c stepG_region_end Aa hF
  u_c stepG_seq Aa hF
  u_c stepG_seq Aa hF
  u_reg Aa hF
  u_op Aa hF
  u_op Aa hF
  u_op Aa hF
  u_op Aa hF
  u_op Aa hF
  u_op Aa hF
  u_op Aa hF
  u_op Aa hF
  u_skip Aa hF
  u_skip Aa hF
  u_op Aa hF
  u_c stepG_region_end Aa hF
  u_cond false Aa hF
  u_c stepG_skip Aa hF
  u_c stepG_ret' Aa hF
  u_leave0 H.f_wait Aa hF
  exact Goes.stop fun wT hT4=>hT wT (Aa hF hT4)
 ·obtain⟨S,hS⟩:∃S:Int,(v:Int) * KK=S:=⟨_,rfl⟩;have a1:S / 4294967296=(v:Int):=by rw[<- hS];simp only[KK];omega
  have b1:bits .and .u64 S 2147483648=0:=by rw[<- hS];have:=Go.ConcN.st_flag v 0 (by omega) (by omega);simpa [KK] using this
  have b2:bits .and .u64 S 2147483647=0:=by rw[<- hS];have:=Go.ConcN.st_waiters v 0 (by omega) (by omega);simpa [KK] using this
  have c1:IntKind.i32.wrap (v:Int)=(v:Int):=by rw[IntKind.wrap_i32];omega
  have w1:IntKind.u64.wrap (S+1)=S+1:=by rw[IntKind.wrap_u64,<- hS];simp only[KK];omega
  have q3:decide ((v:Int) < 0)=false:=decide_eq_false (by omega);have q4:decide (0 < (v:Int))=true:=decide_eq_true (by omega);have q5:((v:Int)==0)=false:=by simp;omega
  have q6:decide ((v:Int)=0)=false:=decide_eq_false (by omega);rw[hS] at hw;refine⟨_,stepG_load_atomic (v:=S) rfl rfl (by k_ne) rfl H.f_loadU64 (x_loadU64_n L) (x_loadU64_b L) (x_loadU64_x L) .u64 (x_loadU64_f L) rfl hw.cellSt,fun h0=>absurd h0 (by omega),fun _=>⟨90,?_⟩⟩;clear hw;walk_nrm
  u_op Aa hF
  u_c stepG_region_end Aa hF
  u_c stepG_ret' Aa hF
  u_leave1 H.f_uLoad Aa hF
  u_op Aa hF
  u_c stepG_region_end Aa hF
  u_c stepG_seq Aa hF
  u_reg Aa hF
  u_op Aa hF
  u_op Aa hF
  u_op Aa hF
  u_op Aa hF
  u_c stepG_region_end Aa hF
  u_c stepG_seq Aa hF
  u_reg Aa hF
  u_op Aa hF
  u_op Aa hF
  u_op Aa hF
  u_op Aa hF
  u_c stepG_region_end Aa hF
  u_c stepG_seq Aa hF
  u_c stepG_seq Aa hF
  u_reg Aa hF
  u_op Aa hF
  u_op Aa hF
  u_c stepG_region_end Aa hF
  u_cnd false Aa hF
  u_c stepG_skip Aa hF
  u_c stepG_seq Aa hF
  u_reg Aa hF
  u_op Aa hF
  u_op Aa hF
  u_op Aa hF
  u_op Aa hF
  u_op Aa hF
  u_op Aa hF
  u_call H.f_uCas (nm_uCas L) uCasFn Aa hF
  u_c stepG_seq Aa hF
  u_reg Aa hF
  u_op Aa hF
  u_c stepG_region_end Aa hF
  u_c stepG_seq Aa hF
  u_reg Aa hF
  u_op Aa hF
  u_op Aa hF
  u_op Aa hF
  u_op Aa hF
  u_op Aa hF
  refine Goes.stop (fun w₂ hw₂=>?_);replace hF:=Aa hF hw₂;clear hw₂;refine⟨rfl,fun v' hv' hw=>⟨fun e=>?_,fun e=>?_⟩⟩
  ·subst e;rw[hS] at hw ⊢;refine⟨_,(stepG_cas_hit (v:=S) (n:=S+1) rfl rfl (by k_ne) rfl H.f_casU64 (x_casU64_n L) (x_casU64_b L) (x_casU64_x L) .u64 (x_casU64_f L) rfl rfl rfl hw.cellSt (hw.thaw 0)).trans (by rfl),90,?_⟩;replace hF:WgLive L.tWg Wg (w₂.setCell (stA Wg) (.int .u64 (S+1))):=⟨_,_,hw.setSt _⟩;clear hw;walk_nrm
   u_op Aa hF
   u_c stepG_region_end Aa hF
   u_c stepG_ret' Aa hF
   u_leave1 H.f_uCas Aa hF
   u_c stepG_region_end Aa hF
   u_cond true Aa hF
   u_c stepG_seq Aa hF
   u_c stepG_seq Aa hF
   u_reg Aa hF
   u_op Aa hF
   u_op Aa hF
   u_op Aa hF
   u_op Aa hF
   u_c stepG_region_end Aa hF
   u_cond true Aa hF
   u_reg Aa hF
   u_op Aa hF
   u_op Aa hF
   u_op Aa hF
   u_conv H.underlying_tPU32 H.room_tU32 (Go.ConcN.Gen.WgLive.cell1 hF).choose_spec Aa hF
   refine Goes.stop (fun w₃ hw₃=>?_);replace hF:=Aa hF hw₃;clear hw₃;refine⟨rfl,_,stepG_markAt .write (by simp) rfl rfl (by k_ne) rfl H.f_raceWrite (x_raceWrite_n L) (x_raceWrite_b L) (x_raceWrite_x L) (x_raceWrite_f L) (by simp[Act.eval,smA]),90,?_⟩;walk_nrm
   u_c stepG_region_end Aa hF
   u_c stepG_seq Aa hF
   u_reg Aa hF
   u_op Aa hF
   u_c stepG_region_end Aa hF
   u_c stepG_seq Aa hF
   u_c stepG_seq Aa hF
   u_reg Aa hF
   u_op Aa hF
   u_op Aa hF
   u_op Aa hF
   u_op Aa hF
   u_skip Aa hF
   u_op Aa hF
   u_c stepG_region_end Aa hF
   u_cond false Aa hF
   u_c stepG_skip Aa hF
   u_c stepG_seq Aa hF
   u_reg Aa hF
   u_op Aa hF
   u_op Aa hF
   u_op Aa hF
   u_op Aa hF
   refine Goes.stop (fun w₄ hw₄=>?_);replace hF:=Aa hF hw₄;clear hw₄;refine⟨rfl,rfl,fun⟨st,hw⟩=>stepG_semacquire_wait rfl rfl rfl H.f_semacquire (x_semacquire_n L) (x_semacquire_b L) (x_semacquire_x L) (x_semacquire_f L) (by simp[Act.eval,smA]) hw.cellSm,fun hf=>?_⟩;refine⟨_,(stepG_semacquire (n:=1) rfl rfl (by k_ne) rfl H.f_semacquire (x_semacquire_n L) (x_semacquire_b L) (x_semacquire_x L) (x_semacquire_f L) (by simp[Act.eval,smA]) hf.cellSm (by k_ne) (hf.thaw 1)).trans (by rfl),60,?_⟩;replace hF:WgLive L.tWg Wg (w₄.setCell (smA Wg) (.int .u32 0)):=⟨_,_,hf.setSm _⟩;clear hf;walk_nrm
   u_c stepG_region_end Aa hF
   u_c stepG_seq Aa hF
   u_reg Aa hF
   u_op Aa hF
   u_op Aa hF
   u_op Aa hF
   u_call H.f_uLoad (nm_uLoad L) uLoadFn Aa hF
   u_c stepG_seq Aa hF
   u_reg Aa hF
   u_op Aa hF
   u_c stepG_region_end Aa hF
   u_c stepG_seq Aa hF
   u_reg Aa hF
   u_op Aa hF
   u_op Aa hF
   u_op Aa hF
   refine Goes.stop (fun w₅ hw₅=>?_);replace hF:=Aa hF hw₅;clear hw₅;refine⟨rfl,fun hw=>⟨_,stepG_load_atomic (v:=0) rfl rfl (by k_ne) rfl H.f_loadU64 (x_loadU64_n L) (x_loadU64_b L) (x_loadU64_x L) .u64 (x_loadU64_f L) rfl hw.cellSt,60,?_⟩⟩;clear hw;walk_nrm
   u_op Aa hF
   u_c stepG_region_end Aa hF
   u_c stepG_ret' Aa hF
   u_leave1 H.f_uLoad Aa hF
   u_op Aa hF
   u_op Aa hF
   u_c stepG_region_end Aa hF
   u_c stepG_seq Aa hF
   u_cond true Aa hF
   u_c stepG_seq Aa hF
   u_reg Aa hF
   refine Goes.stop (fun wE hwE=>?_);replace hF:=Aa hF hwE;clear hwE;refine⟨rfl,_,stepG_mark0 .enable (by simp) rfl rfl (by k_ne) rfl H.f_enable (x_enable_n L) (x_enable_b L) (x_enable_x L) (x_enable_f L),60,?_⟩;walk_nrm
   u_c stepG_region_end Aa hF
   u_reg Aa hF
   u_op Aa hF
   u_conv H.underlying_tWgP H.room_tWg (Go.ConcN.Gen.WgLive.cell0 hF).choose_spec Aa hF
   refine Goes.stop (fun wA hwA=>?_);replace hF:=Aa hF hwA;clear hwA;refine⟨rfl,_,stepG_markAt .acquire (by simp) rfl rfl (by k_ne) rfl H.f_acquire (x_acquire_n L) (x_acquire_b L) (x_acquire_x L) (x_acquire_f L) (by simp[Act.eval,stA]),60,?_⟩;walk_nrm
   u_c stepG_region_end Aa hF
   u_c stepG_seq Aa hF
   u_c stepG_seq Aa hF
   u_reg Aa hF
   u_op Aa hF
   u_c stepG_region_end Aa hF
   u_cond false Aa hF
   u_c stepG_skip Aa hF
   u_c stepG_ret' Aa hF
   u_leave0 H.f_wait Aa hF
   exact Goes.stop fun wT hT4=>hT wT (Aa hF hT4)
  ·refine⟨_,stepG_cas_miss (v:=(v':Int) * KK) (old:=S) (n:=S+1) rfl rfl (by k_ne) rfl H.f_casU64 (x_casU64_n L) (x_casU64_b L) (x_casU64_x L) .u64 (x_casU64_f L) rfl rfl rfl hw.cellSt (hw.thaw 0) (by rw[<- hS];simp only[KK];omega),60,?_⟩;clear hw;walk_nrm
   u_op Aa hF
   u_c stepG_region_end Aa hF
   u_c stepG_ret' Aa hF
   u_leave1 H.f_uCas Aa hF
   u_c stepG_region_end Aa hF
   u_cond false Aa hF
   u_c stepG_skip Aa hF
   u_c stepG_inBlock Aa hF
   u_c stepG_inLoop Aa hF
   refine Goes.stop (fun wZ hZ=>⟨_,rfl,by simp,rfl,Aa hF hZ⟩)
theorem Ae1 {P:Program} (H:WgLib P L) (w:World) (hF:WgLive L.tWg Wg w) :
  GM P main L.tWg Wg (Gx P main .disable (GM P main L.tWg Wg (Aha L Wg (b₀.at a₀ (.inRegion ops₀ (i₀::rest₀)::k₀)) cs)))
   (G ((base L.wait).at ⟨#[.pointer (some ⟨Wg,0,none⟩)]++Array.replicate 83 undef,[]⟩ [.code (body_wait L)]) (b₀.at a₀ (.inRegion ops₀ (i₀::rest₀)::k₀)::cs)) w:=by
 lib_facts
 refine⟨30,?_⟩;simp only[body_wait,waitFn,Option.getD_some];walk_nrm
 u_c stepG_seq Aa hF
 u_cond true Aa hF
 u_reg Aa hF
 refine Goes.stop (fun w₁ hw₁=>?_);replace hF:=Aa hF hw₁;clear hw₁;refine⟨rfl,_,stepG_mark0 .disable (by simp) rfl rfl (by k_ne) rfl H.f_disable (x_disable_n L) (x_disable_b L) (x_disable_x L) (x_disable_f L),30,?_⟩;walk_nrm
 u_c stepG_region_end Aa hF
 u_c stepG_block Aa hF
 u_c stepG_loop Aa hF
 refine Goes.stop (fun wZ hZ=>⟨_,rfl,by simp,rfl,Aa hF hZ⟩)
end
end
section
open Go Go.Conc Go.RowKit Go.Conc.Lib Go.ConcR.Gen
open Go.ConcR (KK wgBlock WgAt stA smA rd wr mk DC0)
open Go.ConcN (WgLive)
set_option linter.unusedSimpArgs false
section
variable {main:Bool} {L:WgLink} {Wg v:Nat} {Next:Goroutine->World->Prop}
theorem Apo {P:Program} (H:WgLib P L) {b₀:Frame} {a₀:Act} {ops₀:Array Oper} {i₀:Nat} {rest₀:List Nat} {k₀:List Item} {cs:List Frame} (hv1:1<=v) (hv2:v < 2147483647)
  (hT:∀w,WgLive L.tWg Wg w->Next (G (b₀.at (a₀.put ((ops₀[i₀]?).bind (·.dst)) (.tuple #[])) (.inRegion ops₀ rest₀::k₀)) cs) w)
  (w:World) (hF:WgLive L.tWg Wg w) :
  GM P main L.tWg Wg (Gx P main .disable (GM P main L.tWg Wg (Ap6 P main L.tWg Wg v (GM P main L.tWg Wg (Gx P main .enable (GM P main L.tWg Wg Next))))))
   (G ((base L.add).at ⟨#[.pointer (some ⟨Wg,0,none⟩),.int .i64 1,undef,undef,undef,undef,undef,undef,undef,undef,undef,undef,undef,undef,undef,undef,undef,undef,undef,undef,undef,undef,undef,undef,undef,undef,undef,undef,undef,undef,undef,undef,undef,undef,undef,undef,undef,undef,undef,undef,undef,undef,undef,undef,undef,undef,undef,undef,undef,undef,undef,undef,undef,undef,undef,undef,undef,undef,undef,undef,undef,undef,undef,undef,undef,undef,undef,undef,undef,undef,undef,undef,undef,undef,undef,undef,undef,undef,undef,undef,undef,undef,undef,undef,undef,undef,undef,undef,undef,undef,undef,undef,undef,undef,undef,undef,undef,undef,undef,undef,undef,undef,undef,undef,undef,undef,undef,undef,undef,undef,undef,undef,undef,undef,undef,undef,undef],[]⟩ [.code (body_add L)]) (b₀.at a₀ (.inRegion ops₀ (i₀::rest₀)::k₀)::cs)) w:=by
 lib_facts
 simp only[body_add,addFn,Option.getD_some];refine⟨60,?_⟩
 u_c stepG_seq Aa hF
 u_cond true Aa hF
 u_c stepG_seq Aa hF
 u_c stepG_seq Aa hF
 u_reg Aa hF
 u_op Aa hF
 u_op Aa hF
 u_c stepG_region_end Aa hF
 u_cond false Aa hF
 u_c stepG_skip Aa hF
 u_c stepG_seq Aa hF
 u_reg Aa hF
 refine Goes.stop (fun w₁ h₁=>?_);replace hF:=Aa hF h₁;clear h₁;refine⟨rfl,_,stepG_mark0 .disable (by simp) rfl rfl (by k_ne) rfl H.f_disable (x_disable_n L) (x_disable_b L) (x_disable_x L) (x_disable_f L),60,?_⟩;walk_nrm
 u_c stepG_region_end Aa hF
 u_reg Aa hF
 u_defer Aa hF
 u_c stepG_region_end Aa hF
 u_c stepG_seq Aa hF
 u_reg Aa hF
 u_op Aa hF
 u_c stepG_region_end Aa hF
 u_c stepG_seq Aa hF
 u_c stepG_seq Aa hF
 u_reg Aa hF
 u_bub Aa hF
 u_c stepG_region_end Aa hF
 u_cond false Aa hF
 u_c stepG_skip Aa hF
 u_c stepG_seq Aa hF
 u_reg Aa hF
 u_op Aa hF
 u_op Aa hF
 u_op Aa hF
 u_op Aa hF
 u_op Aa hF
 u_op Aa hF
 u_call H.f_uAdd (nm_uAdd L) uAddFn Aa hF
 u_c stepG_seq Aa hF
 u_reg Aa hF
 u_op Aa hF
 u_c stepG_region_end Aa hF
 u_c stepG_seq Aa hF
 u_reg Aa hF
 u_op Aa hF
 u_op Aa hF
 u_op Aa hF
 u_op Aa hF
 refine Goes.stop (fun w₂ h₂=>?_);replace hF:=Aa hF h₂;clear h₂;refine⟨rfl,fun hw=>?_⟩;obtain⟨V,hV⟩:∃V:Int,V=(v:Int)+1:=⟨_,rfl⟩;obtain⟨S,hS⟩:∃S:Int,S=V * KK:=⟨_,rfl⟩;have eS:IntKind.u64.wrap ((v:Int) * KK+4294967296)=S:=by rw[IntKind.wrap_u64,hS,hV];simp only[KK];omega
 rw[<- hV,<- hS];have a1:S / 4294967296=V:=by rw[hS];simp only[KK];omega
 have b1:bits .and .u64 S 2147483648=0:=by rw[hS,hV];have:=Go.ConcN.st_flag (v+1) 0 (by omega) (by omega);simpa [KK] using this
 have b2:bits .and .u64 S 2147483647=0:=by rw[hS,hV];have:=Go.ConcN.st_waiters (v+1) 0 (by omega) (by omega);simpa [KK] using this
 have c1:IntKind.i32.wrap V=V:=by rw[IntKind.wrap_i32];omega
 have hV1:1 < V:=by omega
 have hV2:V < 2147483648:=by omega
 have q1:(V==1)=false:=by simp;omega
 have q2:decide (V=1)=false:=decide_eq_false (by omega);have q3:decide (V < 0)=false:=decide_eq_false (by omega);have q4:decide (0 < V)=true:=decide_eq_true (by omega);have q5:(V==0)=false:=by simp;omega
 have q6:decide (V=0)=false:=decide_eq_false (by omega);refine⟨_,(stepG_add_atomic rfl rfl (by k_ne) rfl H.f_addU64 (x_addU64_n L) (x_addU64_b L) (x_addU64_x L) .u64 (x_addU64_f L) rfl rfl hw.cellSt (hw.thaw 0)).trans (by rw[eS];rfl),110,?_⟩;replace hF:WgLive L.tWg Wg (w₂.setCell (stA Wg) (.int .u64 S)):=⟨_,_,hw.setSt _⟩;clear hw hS hV eS;walk_nrm
 u_op Aa hF
 u_c stepG_region_end Aa hF
 u_c stepG_ret' Aa hF
 u_leave1 H.f_uAdd Aa hF
 u_op Aa hF
 u_c stepG_region_end Aa hF
 u_c stepG_seq Aa hF
 u_c stepG_seq Aa hF
 u_reg Aa hF
 u_op Aa hF
 u_op Aa hF
 u_op Aa hF
 u_op Aa hF
 u_skip Aa hF
 u_skip Aa hF
 u_op Aa hF
 u_c stepG_region_end Aa hF
 u_cnd false Aa hF
 u_c stepG_skip Aa hF
 u_c stepG_seq Aa hF
 u_reg Aa hF
 u_op Aa hF
 u_op Aa hF
 u_op Aa hF
 u_op Aa hF
 u_c stepG_region_end Aa hF
 u_c stepG_seq Aa hF
 u_reg Aa hF
 u_op Aa hF
 u_op Aa hF
 u_op Aa hF
 u_op Aa hF
 u_c stepG_region_end Aa hF
 u_c stepG_seq Aa hF
 u_c stepG_seq Aa hF
 u_reg Aa hF
 u_op Aa hF
 u_op Aa hF
 u_op Aa hF
 u_op Aa hF
 u_op Aa hF
 u_op Aa hF
 u_op Aa hF
 u_op Aa hF
 u_op Aa hF
 u_op Aa hF
 u_c stepG_region_end Aa hF
 u_cnd false Aa hF
 u_c stepG_skip Aa hF
 u_c stepG_seq Aa hF
 u_c stepG_seq Aa hF
 u_reg Aa hF
 u_op Aa hF
 u_op Aa hF
 u_c stepG_region_end Aa hF
 u_cnd false Aa hF
 u_c stepG_skip Aa hF
 u_c stepG_seq Aa hF
 u_c stepG_seq Aa hF
 u_reg Aa hF
 u_op Aa hF
 u_op Aa hF
 u_op Aa hF
 u_skip Aa hF
 u_skip Aa hF
 u_op Aa hF
 u_op Aa hF
 u_skip Aa hF
 u_skip Aa hF
 u_skip Aa hF
 u_skip Aa hF
 u_op Aa hF
 u_c stepG_region_end Aa hF
 u_cnd false Aa hF
 u_c stepG_skip Aa hF
 u_c stepG_seq Aa hF
 u_c stepG_seq Aa hF
 u_reg Aa hF
 u_op Aa hF
 u_op Aa hF
 u_op Aa hF
 u_skip Aa hF
 u_skip Aa hF
 u_op Aa hF
 u_c stepG_region_end Aa hF
 u_cnd true Aa hF
 u_c stepG_ret' Aa hF
 refine Goes.stop (fun w₃ h₃=>?_);replace hF:=Aa hF h₃;clear h₃;refine⟨rfl,_,stepG_unwind_entry (v:=.tuple #[]) (evs:=#[mk .enable]) rfl H.f_enable (x_enable_n L) (x_enable_b L) (x_enable_x L) (x_enable_f L) (by simp[Extern.Race.none_]) (by simp[mk]) (by simp[mk]),1,?_⟩
 u_leave0 H.f_add Aa hF
 exact Goes.stop fun w₄ h₄=>hT w₄ (Aa hF h₄)
end
end
end Go.Proofs.YtbicafgmfgdckaaGreatDoor
