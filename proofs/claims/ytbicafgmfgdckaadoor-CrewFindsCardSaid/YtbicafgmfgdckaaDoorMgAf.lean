/- Steps of one goroutine at alike records are alike. For any program. A tree that is alike to another one halts dully alone. For any program. One goroutine's steps in alike worlds, with alike records and callers: alike again, or a panic. For any program. What a run draws: another tape with the same draws gives the same run. For any program. One step of a lone run, and of its alike goroutine. For any program. -/
import Derived.Test.YtbicafgmfgdckaaDoorMgAe
import Derived.Test.YtbicafgmfgdckaaDoorMgAc
import Derived.Conc.Own
namespace Go.Proofs.YtbicafgmfgdckaaDoor
open Go Go.Conc

def okOps (P:Program) (G:Nat->Bool) (fs:List Nat) (ops:Array Oper):Bool:=ops.all fun o=>okOp P G o.op&&okTo fs o.op
def okCode (P:Program) (G:Nat->Bool) (fs:List Nat):Code->Bool
 | .skip | .ret | .label _ | .exit _=>true
 | .seq a b=>okCode P G fs a&&okCode P G fs b
 | .cond c a b=>okX G c&&okCode P G fs a&&okCode P G fs b
 | .block _ c | .loop c | .scope c=>okCode P G fs c
 | .region _ ops _=>okOps P G fs ops
 | _=>false
def okItem (P:Program) (G:Nat->Bool) (fs:List Nat):Item->Bool
 | .code c | .inLoop c | .inScope c=>okCode P G fs c
 | .inBlock _=>true
 | .inRegion ops _=>okOps P G fs ops
 | _=>false
def okBody (P:Program) (G:Nat->Bool) (fs:List Nat) (f:FuncId):Bool:=match P.funcs[f]? with
 | some fn=>(match fn.body with|some c=>okCode P G fs c|none=>false)&&(P.inits.idxOf? f).isNone
 | none=>false
def okHead (P:Program) (f:FuncId):Bool:=match P.funcs[f]? with
 | some _=>(P.inits.idxOf? f).isNone
 | none=>false
theorem head_of {P:Program} {G:Nat->Bool} {fs:List Nat} {f:FuncId} (h:okBody P G fs f=true):okHead P f=true:=by
 unfold okBody at h
 unfold okHead
 cases hf:P.funcs[f]? with
 | none=>rw[hf] at h;cases h
 | some fn=>rw[hf] at h;simp only[Bool.and_eq_true] at h;exact h.2
structure Rec where
 fn:FuncId
 tmps:Array Value
 todo:List Item
 ret:Bool
def Rec.fr (r:Rec):Frame:={ fn:=r.fn,tmps:=r.tmps,todo:=r.todo,defers:=[],mode:=if r.ret then .returning else .run,kind:=.normal }
def Rec.eval (r:Rec):Operand->Value
 | .tmp t=>r.tmps.getD t undef
 | .const v=>v
 | .global g=>.pointer (some ⟨g,0,none⟩)
 | .func f=>.func (.func f) #[] #[]
theorem Rec.eval_fr (r:Rec):r.fr.eval=r.eval:=by funext x;cases x<;>rfl
def Rec.finish (r:Rec) (v:Value):Rec:=match r.todo with
 | .inRegion ops (i::rest)::k=>{ r with tmps:=(match (ops[i]?).bind (·.dst) with|some d=>r.tmps.setIfInBounds d v|none=>r.tmps),todo:=.inRegion ops rest::k }
 | _=>r
structure RR (P:Program) (G:Nat->Bool) (fs:List Nat) (K:List Item) (ρ:Ren) (r r':Rec):Prop where
 fn:r.fn=r'.fn
 todo:r'.todo=r.todo++K
 ret:r.ret=r'.ret
 tmps:VsR ρ r.tmps r'.tmps
 items:∀it∈r.todo,okItem P G fs it=true
 body:okHead P r.fn=true
section
variable {P:Program} {G:Nat->Bool} {fs:List Nat} {K:List Item} {ρ σ:Ren} {r r' r1:Rec}
theorem RR.mono (h:RR P G fs K ρ r r') (k:ρ.le σ):RR P G fs K σ r r':=⟨h.fn,h.todo,h.ret,h.tmps.mono k,h.items,h.body⟩
theorem vr_undef:VR ρ undef undef:=.tuple rfl fun i h=>by simp at h
theorem VsR.getD {cs cs':Array Value} (h:VsR ρ cs cs') (i:Nat):VR ρ (cs.getD i undef) (cs'.getD i undef):=by
 rw[Array.getD_eq_getD_getElem?,Array.getD_eq_getD_getElem?]
 rcases h.get i with⟨e1,e2⟩|⟨v,v',e1,e2,hv⟩
 ·rw[e1,e2];exact vr_undef
 ·rw[e1,e2];exact hv
theorem RR.eval (h:RR P G fs K ρ r r') (hG:∀g,G g=true->ρ g g):EvalR G ρ r.eval r'.eval:=by
 refine⟨fun x hx=>?_,fun v=>⟨rfl,rfl⟩,fun f=>⟨rfl,rfl⟩⟩
 cases x with
 | tmp t=>exact h.tmps.getD t
 | const v=>exact vr_pureC hx
 | global g=>exact .ptr ⟨hG g hx,rfl,rfl⟩
 | func f=>exact .func f rfl fun i h=>by simp at h
theorem VR.bool_eq {v v':Value} (h:VR ρ v v'):(∃b,v=.bool b/\v'=.bool b)\/((∀b,v≠.bool b)/\∀b,v'≠.bool b):=by
 cases h<;>first|exact .inl ⟨_,rfl,rfl⟩ | (right;constructor<;>intro b e<;>cases e;done) | (rename_i q;right;exact⟨(fun b e=>by cases e),(fun b e=>by subst e;exact absurd q (by simp[oneV]))⟩)
theorem RR.yielded (h:RR P G fs K ρ r r') (ops:Array Oper):yielded ops r.tmps=yielded ops r'.tmps:=by
 funext j
 unfold Go.yielded
 cases hd:(ops[j]?).bind (·.dst) with
 | none=>rfl
 | some d =>
  show (match r.tmps[d]? with|some (.bool b)=>some b|_=>none)=(match r'.tmps[d]? with|some (.bool b)=>some b|_=>none)
  rcases h.tmps.get d with⟨e1,e2⟩|⟨v,v',e1,e2,hv⟩
  ·rw[e1,e2]
  ·rw[e1,e2]
   cases hv with
   | nilIface _ q=>cases v'<;>first|rfl | (cases q;done)
   | _=>rfl
theorem RR.finish (h:RR P G fs K ρ r r') {v v':Value} (hv:VR ρ v v') (hne:r.todo≠[]):RR P G fs K ρ (r.finish v) (r'.finish v'):=by
 have ht:=h.todo
 unfold Rec.finish
 cases hk:r.todo with
 | nil=>exact absurd hk hne
 | cons it k =>
  rw[hk,List.cons_append] at ht
  rw[ht]
  cases it with
  | inRegion ops tl =>
   cases tl with
   | nil=>exact h
   | cons i rest =>
    refine⟨h.fn,rfl,h.ret,?_,fun it hit=>?_,h.body⟩
    ·dsimp only
     cases (ops[i]?).bind (·.dst) with
     | none=>exact h.tmps
     | some d=>exact h.tmps.set d hv
    ·rcases List.mem_cons.1 hit with e|hit
     ·subst e
      exact h.items (.inRegion ops (i::rest)) (by rw[hk];simp)
     ·exact h.items it (by rw[hk];simp[hit])
  | _=>exact h
def headOk (P:Program) (G:Nat->Bool) (fs:List Nat) (r:Rec):Prop:=∀it,r.todo.head?=some it->okItem P G fs it=true
theorem RR.head (h:RR P G fs K ρ r r'):headOk P G fs r:=fun it e=>h.items it (List.mem_of_mem_head? (by rw[e];simp))
theorem RR.head' (h:RR P G fs K ρ r r') (hne:r.todo≠[]):headOk P G fs r':=fun it e=>by
 rw[h.todo] at e
 cases hk:r.todo with
 | nil=>exact absurd hk hne
 | cons x k =>
  rw[hk] at e
  simp only[List.cons_append,List.head?_cons,Option.some.injEq] at e
  subst e
  exact h.items x (by rw[hk];simp)
theorem finish_fr (r:Rec) (v:Value) (hi:headOk P G fs r):r.fr.finish v=(r.finish v).fr:=by
 unfold Rec.finish Frame.finish
 have ht:r.fr.todo=r.todo:=rfl
 rw[ht]
 cases hk:r.todo with
 | nil=>rfl
 | cons it k =>
  have:=hi it (by rw[hk];rfl)
  cases it<;>first | (cases this;done) | rfl|skip
  rename_i ops todo
  cases todo with
  | nil=>rfl
  | cons i rest =>
   dsimp only
   cases (ops[i]?).bind (·.dst)<;>rfl
def ctl (r:Rec):Option Rec :=
 match r.todo with
 | []=>some { r with ret:=true }
 | .code .ret::_=>some { r with ret:=true }
 | .code .skip::k=>some { r with todo:=k }
 | .code (.label _)::k=>some { r with todo:=k }
 | .inBlock _::k=>some { r with todo:=k }
 | .inScope _::k=>some { r with todo:=k }
 | .code (.seq a b)::k=>some { r with todo:=.code a::.code b::k }
 | .code (.cond c a b)::k=>(match r.eval c with | .bool t=>some { r with todo:=.code (if t then a else b)::k } | _=>none)
 | .code (.block id body)::k=>some { r with todo:=.code body::.inBlock id::k }
 | .code (.loop body)::k=>some { r with todo:=.code body::.inLoop body::k }
 | .inLoop body::k=>some { r with todo:=.code body::.inLoop body::k }
 | .code (.scope body)::k=>some { r with todo:=.code body::.inScope body::k }
 | .code (.exit id)::k=>(exitTo id k).map fun k'=>{ r with todo:=k' }
 | .code (.region _ ops false)::k=>some { r with todo:=.inRegion ops (List.range ops.size)::k }
 | .inRegion _ []::k=>some { r with todo:=k }
 | .inRegion ops (i::_)::_=>if ((ops[i]?).map (Region.wanted · (yielded ops r.tmps))).getD false then none else some (r.finish undef)
 | _=>none
theorem ctl_step (hr:r.ret=false) (hi:headOk P G fs r) (h:ctl r=some r1) (main:Bool) (base:List Frame) (w:World):stepG P main (Conc.G r.fr base) w=.go (Conc.G r1.fr base) w #[]:=by
 have hfin:=finish_fr (P:=P) (G:=G) (fs:=fs) r undef hi
 obtain⟨fn,tmps,todo,ret⟩:=r
 dsimp only at hr
 subst hr
 unfold ctl at h
 dsimp only at h
 split at h<;>first
  |(injection h with h;subst h;simp[Conc.G,stepG,stepG.exec,Rec.fr];done)
  | skip
 ·rename_i c a b k
  have he:=congrFun (Rec.eval_fr ⟨fn,tmps,.code (.cond c a b)::k,false⟩) c
  split at h
  ·rename_i t ht
   injection h with h
   subst h
   rw[ht] at he
   simp only[Rec.fr,Bool.false_eq_true,if_false] at he
   simp[Conc.G,stepG,stepG.exec,Rec.fr,he]
  ·cases h
 ·rename_i id k
  cases hk:exitTo id k with
  | none=>rw[hk] at h;cases h
  | some k' =>
   rw[hk] at h
   injection h with h
   subst h
   simp[Conc.G,stepG,stepG.exec,Rec.fr,hk]
 ·rename_i ops i tl k
  split at h
  ·cases h
  ·rename_i hw
   injection h with h
   subst h
   have e:stepG P main (Conc.G (Rec.fr ⟨fn,tmps,.inRegion ops (i::tl)::k,false⟩) base) w=.go (Conc.G ((Rec.fr ⟨fn,tmps,.inRegion ops (i::tl)::k,false⟩).finish undef) base) w #[]:=by
    simp only[Conc.G,stepG,stepG.exec,Rec.fr,Bool.false_eq_true,if_false]
    rw[if_neg hw]
   rw[e,hfin]
 ·cases h
theorem exitTo_mem {id:Nat}:∀ {k k':List Item},exitTo id k=some k'->∀it∈k',it∈k
 | [],_,h,_,_=>by simp[exitTo] at h
 | x::k,k',h,it,hit=>by
  unfold exitTo at h
  split at h
  ·rename_i e
   injection e with e1 e2
   subst e2
   split at h
   ·injection h with h
    subst h
    exact List.mem_cons_of_mem _ hit
   ·exact List.mem_cons_of_mem _ (exitTo_mem h it hit)
  ·rename_i e
   injection e with e1 e2
   subst e2
   exact List.mem_cons_of_mem _ (exitTo_mem h it hit)
  ·rename_i e;cases e
theorem exitTo_append {id:Nat} (K:List Item):∀ {k k':List Item},exitTo id k=some k'->exitTo id (k++K)=some (k'++K)
 | [],_,h=>by simp[exitTo] at h
 | x::k,k',h=>by
  unfold exitTo at h ⊢
  rw[List.cons_append]
  split at h
  ·rename_i e
   injection e with e1 e2
   subst e1 e2
   dsimp only
   split at h
   ·rename_i hq
    rw[if_pos hq]
    injection h with h
    subst h
    rfl
   ·rename_i hq
    rw[if_neg hq]
    exact exitTo_append K h
  ·rename_i hx e
   injection e with e1 e2
   subst e1 e2
   cases x with
   | inBlock id'=>exact(hx id' rfl).elim
   | _=>exact exitTo_append K h
  ·rename_i e;cases e
theorem ctl_rel (h:RR P G fs K ρ r r') (hG:∀g,G g=true->ρ g g) (hne:r.todo≠[]\/K=[]) (hc:ctl r=some r1):∃r1',ctl r'=some r1'/\RR P G fs K ρ r1 r1':=by
 have hy:=h.yielded
 have hf:=fun q=>h.finish (vr_undef (ρ:=ρ)) q
 have hev:=h.eval hG
 obtain⟨h1,h2,h3,h4,h5,h6⟩:=h
 obtain⟨fn,tmps,todo,ret⟩:=r
 obtain⟨fn',tmps',todo',ret'⟩:=r'
 dsimp only at h1 h2 h3 h4 h5 h6 hne
 subst h1 h2 h3
 unfold ctl at hc ⊢
 dsimp only at hc ⊢
 split at hc
 ·obtain rfl:K=[]:=hne.resolve_left (fun q=>q rfl)
  injection hc with hc
  subst hc
  exact⟨_,rfl,rfl,rfl,rfl,h4,h5,h6⟩
 all_goals first
  |(injection hc with hc
    subst hc
    refine⟨_,rfl,rfl,rfl,rfl,h4,?_,h6⟩
    simp only[List.forall_mem_cons,okItem,okCode,Bool.and_eq_true] at h5 ⊢
    simp_all
    done)
  | skip
 ·rename_i c a b k
  simp only[List.forall_mem_cons,okItem,okCode,Bool.and_eq_true] at h5
  have hcx:=hev.at_ c h5.1.1.1
  split at hc
  ·rename_i t ht
   injection hc with hc
   subst hc
   rw[ht] at hcx
   rcases hcx.bool_eq with⟨u,e1,e2⟩|⟨e1,_⟩
   ·injection e1 with e1
    subst e1
    simp only[List.cons_append] at e2 ⊢
    rw[e2]
    refine⟨_,rfl,rfl,rfl,rfl,h4,?_,h6⟩
    simp only[List.forall_mem_cons,okItem]
    refine⟨?_,h5.2⟩
    cases t with
    | true=>exact h5.1.1.2
    | false=>exact h5.1.2
   ·exact absurd rfl (e1 t)
  ·cases hc
 ·rename_i id k
  cases hk:exitTo id k with
  | none=>rw[hk] at hc;cases hc
  | some k' =>
   rw[hk] at hc
   injection hc with hc
   subst hc
   simp only[List.cons_append]
   rw[exitTo_append K hk]
   exact⟨_,rfl,rfl,rfl,rfl,h4,fun it hit=>h5 it (List.mem_cons_of_mem _ (exitTo_mem hk it hit)),h6⟩
 ·rename_i ops i tl k
  simp only[List.cons_append]
  rw[<- hy ops]
  split at hc
  ·cases hc
  ·rename_i hw
   injection hc with hc
   subst hc
   rw[if_neg hw]
   exact⟨_,rfl,hf (by simp)⟩
 ·cases hc
end
end Go.Proofs.YtbicafgmfgdckaaDoor
namespace Go.Proofs.YtbicafgmfgdckaaDoor
open Go

theorem WR.kind {gs:Nat} {F:Nat->Prop} {ρ:Ren} {w w':World} (h:WR gs F ρ w w') {a b:Nat} (k:ρ a b):(∃cs t fr,w.heap[a]?=some (.cells cs t fr))\/∃ad l,w.heap[a]?=some (.number ad l):=by
 obtain⟨o,o',h1,h2,h3⟩:=h.block _ _ k
 cases o<;>cases o'<;>first|exact h3.elim|exact .inl ⟨_,_,_,h1⟩|exact .inr ⟨_,_,h1⟩
theorem WR.noCell {gs:Nat} {F:Nat->Prop} {ρ:Ren} {w w':World} (h:WR gs F ρ w w') {a a':Addr} (k:AR ρ a a') (what:String):w.noCell a what=.stuck what:=by
 unfold World.noCell
 rcases h.kind k.block with⟨cs,t,fr,e⟩|⟨ad,l,e⟩<;>rw[e]
theorem WR.farLoad {gs:Nat} {F:Nat->Prop} {ρ:Ren} {w w':World} (h:WR gs F ρ w w') {a a':Addr} (k:AR ρ a a') (p:Program) (b:Bool):w.farLoad p a b=.error (.stuck "load: no such cell"):=by
 unfold World.farLoad
 have:=h.noCell k "load: no such cell"
 rcases h.kind k.block with⟨cs,t,fr,e⟩|⟨ad,l,e⟩<;>(rw[e];dsimp only;rw[this])
theorem WR.farStore {gs:Nat} {F:Nat->Prop} {ρ:Ren} {w w':World} (h:WR gs F ρ w w') {a a':Addr} (k:AR ρ a a') (p:Program) (v:Value) (b:Bool):w.farStore p a v b=.error (.stuck "store: no such cell"):=by
 unfold World.farStore
 have:=h.noCell k "store: no such cell"
 rcases h.kind k.block with⟨cs,t,fr,e⟩|⟨ad,l,e⟩<;>(rw[e];dsimp only;rw[this])
theorem run_SR_halt {α β:Type} {X:Ren->α->β->Prop} {F:Nat->Prop} (p:Program) {ρ:Ren} {s:Sem α} {s':Sem β} (h:SR p X ρ s s'):∀(w w':World) (es:Array Event),WR p.globals.size F ρ w w' ->
  ∀hh w1 es1,s.runT p w es=(.halt hh w1,es1)->dull hh=true:=by
 induction h with
 | pure h=>intro w w' es hw hh w1 es1 e;simp[Sem.runT] at e
 | @load ρ a a' k k' hA _ ih =>
  intro w w' es hw hh w1 es1 e
  rcases hw.cell hA with⟨h1,h2⟩|⟨v,v',h1,h2,hv⟩
  ·simp only[Sem.runT,h1,hw.farLoad hA] at e
   simp only[Prod.mk.injEq,Result.halt.injEq] at e
   rw[<- e.1.1];rfl
  ·simp only[Sem.runT,h1] at e
   exact ih v v' hv w w' _ hw hh w1 es1 e
 | @store ρ a a' v v' k k' hA hv _ ih =>
  intro w w' es hw hh w1 es1 e
  by_cases hva:(∃c,v=.agg c)\/(∃c,v=.tuple c)
  ·rcases hva with⟨c,rfl⟩|⟨c,rfl⟩<;>(simp only[Sem.runT,Prod.mk.injEq,Result.halt.injEq] at e;rw[<- e.1.1];rfl)
  ·have st:(Sem.store .plain a v k).runT p w es=match w.cell? a with
     | some _=>if w.frozen? a then (.halt (.unsupported (.unsafePointer "a write to bytes that a string shares")) w,es) else k.runT p (w.setCell a v) (es.push ⟨.cell a,true,Mode.plain==.atomic⟩)
     | none=>match w.farStore p a v (Mode.plain==.atomic) with
      | .ok (w,touched)=>k.runT p w (es++touched.toArray.map (⟨.cell ·,true,Mode.plain==.atomic⟩))
      | .error h=>(.halt h w,es):=by
    cases v<;>first|rfl|exact(hva (.inl ⟨_,rfl⟩)).elim|exact(hva (.inr ⟨_,rfl⟩)).elim
   rw[st] at e
   rcases hw.cell hA with⟨h1,h2⟩|⟨u,u',h1,h2,hu⟩
   ·rw[h1] at e
    dsimp only at e
    rw[hw.farStore hA] at e
    simp only[Prod.mk.injEq,Result.halt.injEq] at e
    rw[<- e.1.1];rfl
   ·rw[h1] at e
    dsimp only at e
    split at e
    ·simp only[Prod.mk.injEq,Result.halt.injEq] at e
     rw[<- e.1.1];rfl
    ·exact ih (w.setCell a v) (w'.setCell a' v') _ (hw.set hA hv) hh w1 es1 e
 | @new ρ cs cs' t k k' hc _ ih =>
  intro w w' es hw hh w1 es1 e
  simp only[Sem.runT] at e
  exact ih w.heap.size w'.heap.size hw.gsize _ _ _ (hw.push (o:=.cells cs t) (o':=.cells cs' t) hw.lt (.inl ⟨_,_,_,rfl⟩) fun b hf=>⟨rfl,hc,fun q=>(hf q).elim,fun _=>⟨rfl,rfl⟩⟩) hh w1 es1 e
 | @number ρ a a' l k k' hc _ ih =>
  intro w w' es hw hh w1 es1 e
  simp only[Sem.runT] at e
  exact ih w.heap.size w'.heap.size hw.gsize _ _ _ (hw.push (o:=.number a l) (o':=.number a' l) hw.lt (.inr ⟨_,_,rfl⟩) fun b _=>⟨rfl,hc⟩) hh w1 es1 e
 | @getObj ρ r r' k k' hr _ ih =>
  intro w w' es hw hh w1 es1 e
  obtain⟨o,o',q1,q2,q3⟩:=hw.block _ _ hr
  simp only[Sem.runT,q1] at e
  cases o<;>cases o'<;>first|exact q3.elim|skip
  ·simp only[Prod.mk.injEq,Result.halt.injEq] at e
   rw[<- e.1.1];rfl
  ·rename_i a l a' l'
   obtain⟨rfl,ha⟩:=q3
   exact ih a a' l ha w w' _ hw hh w1 es1 e
 | @shape ρ r r' k k' hr _ ih =>
  intro w w' es hw hh w1 es1 e
  simp only[Sem.runT] at e
  exact ih _ w w' es hw hh w1 es1 e
 | @choose ρ q k k' _ ih =>
  intro w w' es hw hh w1 es1 e
  simp only[Sem.runT] at e
  split at e
  ·exact ih _ w w' es hw hh w1 es1 e
  ·exact ih _ _ _ es hw.draw hh w1 es1 e
 | @program ρ k k' _ ih =>
  intro w w' es hw hh w1 es1 e
  simp only[Sem.runT] at e
  exact ih w w' es hw hh w1 es1 e
 | @mark ρ m k k' hm _ ih =>
  intro w w' es hw hh w1 es1 e
  simp only[Sem.runT] at e
  exact ih w w' _ hw hh w1 es1 e
 | halt hd =>
  intro w w' es hw hh w1 es1 e
  simp only[Sem.runT,Prod.mk.injEq,Result.halt.injEq] at e
  rw[<- e.1.1];exact hd
 | loadVoid h =>
  intro w w' es hw hh w1 es1 e
  obtain⟨_,e2⟩:=void_load p hw h _ es
  rw[e2] at e
  simp only[Prod.mk.injEq,Result.halt.injEq] at e
  rw[<- e.1.1];rfl
 | storeVoid h =>
  intro w w' es hw hh w1 es1 e
  obtain⟨_,_,e2⟩:=void_store p hw h _ _ es
  rw[e2] at e
  simp only[Prod.mk.injEq,Result.halt.injEq] at e
  rw[<- e.1.1];rfl
 | dead h =>
  intro w w' es hw hh w1 es1 e
  obtain⟨h',w2,es2,e2,hd⟩:=h w es
  rw[e2] at e
  simp only[Prod.mk.injEq,Result.halt.injEq] at e
  rw[<- e.1.1];exact hd
end Go.Proofs.YtbicafgmfgdckaaDoor
namespace Go.Proofs.YtbicafgmfgdckaaDoor
open Go Go.Conc

section
variable {P:Program} {fr:Frame} {cs:List Frame} {s:Sem Next} {w w1:World} {es:Array Event}
theorem run_of {h:Result Next} (e:s.runT P w #[]=(h,es)):s.run P w=h/\s.events P w #[]=es:=by
 refine⟨?_,?_⟩
 ·rw[<- Sem.runT_fst P s w #[],e]
 ·unfold Sem.events;rw[e]
theorem apply_value {v:Value} (hk:fr.kind=.normal) (h:s.runT P w #[]=(.ok (.value v) w1,es)):stepG.apply P true fr cs none s w=.go (Conc.G (fr.finish v) cs) w1 (seen P fr.fn es):=by
 obtain⟨e1,e2⟩:=run_of h
 simp[stepG.apply,e1,e2,hk,GStep.after,Conc.G]
theorem apply_skip (hk:fr.kind=.normal) (h:s.runT P w #[]=(.ok .skip w1,es)):stepG.apply P true fr cs none s w=.go (Conc.G (fr.finish undef) cs) w1 (seen P fr.fn es):=by
 obtain⟨e1,e2⟩:=run_of h
 simp[stepG.apply,e1,e2,hk,GStep.after,Conc.G]
theorem apply_enter {f:FuncId} {as:Array Value} {ops:Array Oper} {t:List Nat} {k:List Item} (hk:fr.kind=.normal) (ht:fr.todo=.inRegion ops t::k) (h:s.runT P w #[]=(.ok (.enter f as) w1,es)):stepG.apply P true fr cs none s w=.go (Conc.G (Frame.enter P f as .normal) (fr::cs)) w1 (seen P fr.fn es):=by
 obtain⟨e1,e2⟩:=run_of h
 simp[stepG.apply,e1,e2,hk,GStep.after,Conc.G,ht]
theorem apply_dull {h':Halt} (h:s.runT P w #[]=(.halt h' w1,es)) (hd:dull h'=true):(∃v w2 es',stepG.apply P true fr cs none s w=.go (Conc.G (fr.raise [{ v,recovered:=false }]) cs) w2 es')\/∃o w2 es2,stepG.apply P true fr cs none s w=.ended o w2 es2:=by
 obtain⟨e1,e2⟩:=run_of h
 cases h' with
 | panic v=>left;refine⟨v,w1,?_⟩;simp only[stepG.apply,Sem.runT_eq,e1,if_true,GStep.after,Conc.G];exact⟨_,rfl⟩
 | stuck why=>right;simp only[stepG.apply,Sem.runT_eq,e1,if_true,GStep.after];exact⟨_,_,_,rfl⟩
 | unsupported u=>cases u<;>first | (cases hd;done) | (right;simp only[stepG.apply,Sem.runT_eq,e1,if_true,GStep.after];exact⟨_,_,_,rfl⟩)
 | _=>cases hd
theorem seen_mem {f:FuncId} {es:Array Event} {e:Event} (h:e∈seen P f es):e∈es:=by
 unfold seen at h
 dsimp only at h
 rw[<- Array.foldl_toList] at h
 have key:∀(l:List Event) (q:Bool × Array Event),e∈(l.foldl (fun(q:Bool × Array Event) e=>match e.loc with
   | .mark (.extern f)=>((P.funcs[f]?).any (·.norace),q.2)
   | _=>(q.1,if q.1&&!e.sync then q.2 else q.2.push e)) q).2->e∈q.2\/e∈l:=by
  intro l
  induction l with
  | nil=>intro q h;exact .inl h
  | cons a l ih =>
   intro q h
   rw[List.foldl_cons] at h
   rcases ih _ h with h|h
   ·split at h
    ·exact .inl h
    ·dsimp only at h
     split at h
     ·exact .inl h
     ·rcases Array.mem_push.1 h with h|h
      ·exact .inl h
      ·subst h;exact .inr (by simp)
   ·exact .inr (by simp[h])
 rcases key es.toList _ h with h|h
 ·simp at h
 ·simpa using h
end
def botK (K:List Item):List Rec->List Item
 | []=>K
 | _=>[]
theorem botK_nil (l:List Rec):botK [] l=[]:=by cases l<;>rfl
inductive LR (P:Program) (G:Nat->Bool) (fs:List Nat) (K:List Item) (ρ:Ren):List Rec->List Rec->Prop
 | nil:LR P G fs K ρ [] []
 | cons {r r':Rec} {l l':List Rec} (h:RR P G fs (botK K l) ρ r r') (hr:r.ret=false) (ht:r.todo≠[]) (k:LR P G fs K ρ l l'):LR P G fs K ρ (r::l) (r'::l')
section
variable {P:Program} {G:Nat->Bool} {fs:List Nat} {K:List Item} {ρ σ:Ren}
theorem LR.mono {l l':List Rec} (h:LR P G fs K ρ l l') (k:ρ.le σ):LR P G fs K σ l l':=by
 induction h with
 | nil=>exact .nil
 | cons q hr ht _ ih=>exact .cons (q.mono k) hr ht ih
theorem sr_resultList {ts ts':Array Value} (h:VsR ρ ts ts'):∀(l:List ResultVar) (σ:Ren),ρ.le σ->SR P LsR σ
   (l.mapM fun(r:ResultVar)=>(match r with | .tmp t=>pure (ts.getD t undef) | .cell a t=>do loadVar t (<- asAddr (ts.getD a undef)):Sem Value))
   (l.mapM fun(r:ResultVar)=>(match r with | .tmp t=>pure (ts'.getD t undef) | .cell a t=>do loadVar t (<- asAddr (ts'.getD a undef)):Sem Value))
 | [],σ,_=>by rw[List.mapM_nil,List.mapM_nil];exact SR.pure .nil
 | r::l,σ,hl=>by
  rw[List.mapM_cons,List.mapM_cons]
  have one:SR P VR σ (match r with | .tmp t=>pure (ts.getD t undef) | .cell a t=>do loadVar t (<- asAddr (ts.getD a undef)):Sem Value) (match r with | .tmp t=>pure (ts'.getD t undef) | .cell a t=>do loadVar t (<- asAddr (ts'.getD a undef)):Sem Value):=by
   cases r with
   | tmp t=>exact SR.pure ((h.mono hl).getD t)
   | cell a t=>exact(sr_asAddr ((h.mono hl).getD a)).bind' fun _ _ _ _ ha=>sr_loadVar t ha
  refine one.bind' fun σ2 v v' hl2 hv=>?_
  refine(sr_resultList h l σ2 (Ren.le_trans hl hl2)).bind' fun τ a b hl3 q=>?_
  exact SR.pure (.cons (hv.mono hl3) q)
theorem sr_results {fn:Func} {ts ts':Array Value} (h:VsR ρ ts ts'):SR P VR ρ (results fn ts) (results fn ts'):=by
 unfold results
 rw[Array.mapM_eq_mapM_toList,Array.mapM_eq_mapM_toList]
 have key:=sr_resultList (P:=P) h fn.results.toList ρ (Ren.le_refl _)
 refine SR.bind' (X:=fun σ a b=>VsR σ a b) (SR.bind' key fun σ a b hl q=>SR.pure q.array) fun σ vs vs' hl q=>?_
 refine SR.pure ?_
 by_cases e:vs.size=1
 ·rw[dif_pos e,dif_pos (q.size ▸ e)]
  exact q.at_ 0 (by omega) (by rw[<- q.size];omega)
 ·rw[dif_neg e,dif_neg (fun e2=>e (q.size.trans e2))]
  exact .tuple q.size q.at_
end
end Go.Proofs.YtbicafgmfgdckaaDoor
namespace Go.Proofs.YtbicafgmfgdckaaDoor
open Go

def re (w:World) (T:Nat->Question->Nat) (d:Nat):World:={ w with tape:=T,drawn:=d }
@[simp] theorem re_re (w:World) (T T':Nat->Question->Nat) (d d':Nat):re (re w T d) T' d'=re w T' d':=rfl
theorem re_self (w:World):re w w.tape w.drawn=w:=rfl
@[simp] theorem re_drawn (w:World) (T:Nat->Question->Nat) (d:Nat):(re w T d).drawn=d:=rfl
@[simp] theorem re_tape (w:World) (T:Nat->Question->Nat) (d:Nat):(re w T d).tape=T:=rfl
@[simp] theorem re_heap (w:World) (T:Nat->Question->Nat) (d:Nat):(re w T d).heap=w.heap:=rfl
theorem WR.re {gs:Nat} {F:Nat->Prop} {ρ:Ren} {w w':World} (h:WR gs F ρ w w') (T:Nat->Question->Nat) (d:Nat):WR gs F ρ (re w T d) (re w' T d):=⟨rfl,rfl,h.fn,h.inj,h.low,h.glob,h.gsize,h.plain,h.block⟩
def Same2 (w w1:World) (T:Nat->Question->Nat) (d:Nat):Prop:=∀i,w.drawn+i < w1.drawn->T (d+i)=w.tape (w.drawn+i)
theorem run_SR_tape {α β:Type} {X:Ren->α->β->Prop} {F:Nat->Prop} (p:Program) {ρ:Ren} {s:Sem α} {s':Sem β} (h:SR p X ρ s s'):∀(w w':World) (es:Array Event),WR p.globals.size F ρ w w' ->
  ∀x w1 es1,s.runT p w es=(.ok x w1,es1)->w.drawn<=w1.drawn/\w1.tape=w.tape/\∀T d,Same2 w w1 T d->s.runT p (re w T d) es=(.ok x (re w1 T (d+(w1.drawn - w.drawn))),es1):=by
 induction h with
 | pure h =>
  intro w w' es hw x w1 es1 e
  simp only[Sem.runT,Prod.mk.injEq,Result.ok.injEq] at e
  obtain⟨⟨rfl,rfl⟩,rfl⟩:=e
  exact⟨Nat.le_refl _,rfl,fun T d _=>by simp[Sem.runT]⟩
 | @load ρ a a' k k' hA _ ih =>
  intro w w' es hw x w1 es1 e
  have hc:∀T d,(re w T d).cell? a=w.cell? a:=fun _ _=>rfl
  rcases hw.cell hA with⟨h1,h2⟩|⟨v,v',h1,h2,hv⟩
  ·simp only[Sem.runT,h1,hw.farLoad hA] at e
   simp at e
  ·simp only[Sem.runT,h1] at e
   obtain⟨r1,r2,r3⟩:=ih v v' hv w w' _ hw x w1 es1 e
   exact⟨r1,r2,fun T d hT=>by simp only[Sem.runT,hc,h1];exact r3 T d hT⟩
 | @store ρ a a' v v' k k' hA hv _ ih =>
  intro w w' es hw x w1 es1 e
  by_cases hva:(∃c,v=.agg c)\/(∃c,v=.tuple c)
  ·rcases hva with⟨c,rfl⟩|⟨c,rfl⟩<;>simp[Sem.runT] at e
  ·have st:∀W:World,(Sem.store .plain a v k).runT p W es=match W.cell? a with
     | some _=>if W.frozen? a then (.halt (.unsupported (.unsafePointer "a write to bytes that a string shares")) W,es) else k.runT p (W.setCell a v) (es.push ⟨.cell a,true,Mode.plain==.atomic⟩)
     | none=>match W.farStore p a v (Mode.plain==.atomic) with
      | .ok (w,touched)=>k.runT p w (es++touched.toArray.map (⟨.cell ·,true,Mode.plain==.atomic⟩))
      | .error h=>(.halt h W,es):=fun W=>by
    cases v<;>first|rfl|exact(hva (.inl ⟨_,rfl⟩)).elim|exact(hva (.inr ⟨_,rfl⟩)).elim
   rw[st] at e
   have hc:∀T d,(re w T d).cell? a=w.cell? a:=fun _ _=>rfl
   have hf:∀T d,(re w T d).frozen? a=w.frozen? a:=fun _ _=>rfl
   rcases hw.cell hA with⟨h1,h2⟩|⟨u,u',h1,h2,hu⟩
   ·rw[h1] at e
    dsimp only at e
    rw[hw.farStore hA] at e
    simp at e
   ·rw[h1] at e
    dsimp only at e
    split at e
    ·simp at e
    ·rename_i hfr
     obtain⟨r1,r2,r3⟩:=ih (w.setCell a v) (w'.setCell a' v') _ (hw.set hA hv) x w1 es1 e
     refine⟨r1,r2,fun T d hT=>?_⟩
     rw[st,hc,h1]
     dsimp only
     rw[hf,if_neg hfr]
     exact r3 T d hT
 | @new ρ cs cs' t k k' hc _ ih =>
  intro w w' es hw x w1 es1 e
  simp only[Sem.runT] at e
  obtain⟨r1,r2,r3⟩:=ih w.heap.size w'.heap.size hw.gsize _ _ _ (hw.push (o:=.cells cs t) (o':=.cells cs' t) hw.lt (.inl ⟨_,_,_,rfl⟩) fun b hf=>⟨rfl,hc,fun q=>(hf q).elim,fun _=>⟨rfl,rfl⟩⟩) x w1 es1 e
  exact⟨r1,r2,fun T d hT=>by simp only[Sem.runT];exact r3 T d hT⟩
 | @number ρ a a' l k k' hc _ ih =>
  intro w w' es hw x w1 es1 e
  simp only[Sem.runT] at e
  obtain⟨r1,r2,r3⟩:=ih w.heap.size w'.heap.size hw.gsize _ _ _ (hw.push (o:=.number a l) (o':=.number a' l) hw.lt (.inr ⟨_,_,rfl⟩) fun b _=>⟨rfl,hc⟩) x w1 es1 e
  exact⟨r1,r2,fun T d hT=>by simp only[Sem.runT];exact r3 T d hT⟩
 | @getObj ρ r r' k k' hr _ ih =>
  intro w w' es hw x w1 es1 e
  obtain⟨o,o',q1,q2,q3⟩:=hw.block _ _ hr
  simp only[Sem.runT,q1] at e
  cases o<;>cases o'<;>first|exact q3.elim|skip
  ·simp at e
  ·rename_i a l a' l'
   obtain⟨rfl,ha⟩:=q3
   obtain⟨r1,r2,r3⟩:=ih a a' l ha w w' _ hw x w1 es1 e
   exact⟨r1,r2,fun T d hT=>by simp only[Sem.runT,re_heap,q1];exact r3 T d hT⟩
 | @shape ρ r r' k k' hr _ ih =>
  intro w w' es hw x w1 es1 e
  simp only[Sem.runT] at e
  obtain⟨r1,r2,r3⟩:=ih _ w w' es hw x w1 es1 e
  exact⟨r1,r2,fun T d hT=>by simp only[Sem.runT];exact r3 T d hT⟩
 | @choose ρ q k k' _ ih =>
  intro w w' es hw x w1 es1 e
  simp only[Sem.runT] at e
  by_cases hq:q.forced=true
  ·rw[if_pos hq] at e
   obtain⟨r1,r2,r3⟩:=ih _ w w' es hw x w1 es1 e
   exact⟨r1,r2,fun T d hT=>by simp only[Sem.runT];rw[if_pos hq];exact r3 T d hT⟩
  ·rw[if_neg hq] at e
   obtain⟨r1,r2,r3⟩:=ih _ _ _ es hw.draw x w1 es1 e
   dsimp only at r1 r2
   refine⟨by omega,r2,fun T d hT=>?_⟩
   simp only[Sem.runT]
   rw[if_neg hq]
   have h0:=hT 0 (by omega)
   simp only[Nat.add_zero] at h0
   have h1:=r3 T (d+1) fun i hi=>by
    have:=hT (i+1) (by dsimp only at hi;omega)
    show T (d+1+i)=w.tape (w.drawn+1+i)
    rw[Nat.add_assoc,Nat.add_comm 1 i,this,Nat.add_assoc,Nat.add_comm 1 i]
   have e1:(re w T d).tape (re w T d).drawn q=w.tape w.drawn q:=by
    show T d q=_
    rw[h0]
   rw[e1]
   have e2:d+1+(w1.drawn - (w.drawn+1))=d+(w1.drawn - w.drawn):=by omega
   dsimp only at h1
   rw[e2] at h1
   exact h1
 | @program ρ k k' _ ih =>
  intro w w' es hw x w1 es1 e
  simp only[Sem.runT] at e
  obtain⟨r1,r2,r3⟩:=ih w w' es hw x w1 es1 e
  exact⟨r1,r2,fun T d hT=>by simp only[Sem.runT];exact r3 T d hT⟩
 | @mark ρ m k k' hm _ ih =>
  intro w w' es hw x w1 es1 e
  simp only[Sem.runT] at e
  obtain⟨r1,r2,r3⟩:=ih w w' _ hw x w1 es1 e
  exact⟨r1,r2,fun T d hT=>by simp only[Sem.runT];exact r3 T d hT⟩
 | halt hd =>
  intro w w' es hw x w1 es1 e
  simp[Sem.runT] at e
 | loadVoid h =>
  intro w w' es hw x w1 es1 e
  obtain⟨_,e2⟩:=void_load p hw h _ es
  rw[e2] at e
  simp at e
 | storeVoid h =>
  intro w w' es hw x w1 es1 e
  obtain⟨_,_,e2⟩:=void_store p hw h _ _ es
  rw[e2] at e
  simp at e
 | dead h =>
  intro w w' es hw x w1 es1 e
  obtain⟨h',w2,es2,e2,hd⟩:=h w es
  rw[e2] at e
  simp at e
end Go.Proofs.YtbicafgmfgdckaaDoor
namespace Go.Proofs.YtbicafgmfgdckaaDoor
open Go Go.Conc

section
variable {P:Program} {G:Nat->Bool} {fs:List Nat} {K:List Item} {ρ σ:Ren} {r r' r1:Rec} {l l':List Rec} {w w' w1:World} {F:Nat->Prop}
theorem ctl_none (hi:∀it∈r.todo,okItem P G fs it=true) (h:ctl r=none) :
  (∃c a b k,r.todo=.code (.cond c a b)::k/\∀t,r.eval c≠.bool t)\/(∃id k,r.todo=.code (.exit id)::k/\exitTo id k=none)\/(∃id ops k,r.todo=.code (.region id ops true)::k) \/
  (∃ops i tl k o,r.todo=.inRegion ops (i::tl)::k/\ops[i]?=some o/\Region.wanted o (yielded ops r.tmps)=true):=by
 obtain⟨fn,tmps,todo,ret⟩:=r
 dsimp only at hi ⊢
 cases todo with
 | nil=>cases h
 | cons it k =>
  have hit:=hi it (by simp)
  cases it with
  | code c =>
   cases c with
   | cond c a b =>
    refine .inl ⟨c,a,b,k,rfl,fun t e=>?_⟩
    simp only[ctl,e] at h
    cases h
   | exit id =>
    refine .inr (.inl ⟨id,k,rfl,?_⟩)
    simpa [ctl] using h
   | region id ops d =>
    cases d with
    | true=>exact .inr (.inr (.inl ⟨id,ops,k,rfl⟩))
    | false=>cases h
   | _=>first | (cases h;done) | (cases hit;done)
  | inRegion ops t =>
   cases t with
   | nil=>cases h
   | cons i tl =>
    refine .inr (.inr (.inr ?_))
    simp only[ctl] at h
    split at h
    ·rename_i hw
     cases ho:ops[i]? with
     | none=>rw[ho] at hw;cases hw
     | some o=>rw[ho] at hw;exact⟨ops,i,tl,k,o,rfl,ho,hw⟩
    ·cases h
  | _=>first | (cases h;done) | (cases hit;done)
def Moves (P:Program) (r:Rec) (l:List Rec) (w:World) (r1:Rec) (l1:List Rec) (w1:World):Prop :=
 w.drawn<=w1.drawn/\w1.tape=w.tape/\∃e0,∀T d,Same2 w w1 T d->∀main base,stepG P main (Conc.G r.fr (l.map Rec.fr++base)) (re w T d)=.go (Conc.G r1.fr (l1.map Rec.fr++base)) (re w1 T (d+(w1.drawn - w.drawn))) e0
def Doomed (P:Program) (r:Rec) (l:List Rec) (w:World):Prop:=∀base,(∃v w2 es,stepG P true (Conc.G r.fr (l.map Rec.fr++base)) w=.go (Conc.G (r.fr.raise [{ v,recovered:=false }]) (l.map Rec.fr++base)) w2 es) \/
 ∃o w2 es,stepG P true (Conc.G r.fr (l.map Rec.fr++base)) w=.ended o w2 es
def Both (P:Program) (G:Nat->Bool) (fs:List Nat) (K:List Item) (F:Nat->Prop) (ρ:Ren) (r r':Rec) (l l':List Rec) (w w':World):Prop :=
 ∃r1 l1 w1 r1' l1' w1' ρ1 es,Moves P r l w r1 l1 w1/\(∀main base,stepG P main (Conc.G r'.fr (l'.map Rec.fr++base)) w'=.go (Conc.G r1'.fr (l1'.map Rec.fr++base)) w1' es) /\
  RR P G fs (botK K l1) ρ1 r1 r1'/\LR P G fs K ρ1 l1 l1'/\WR P.globals.size F ρ1 w1 w1'/\Left F ρ ρ1 w w' w1 w1'/\∀e∈es,EvR F ρ1 e
theorem moves_still (h:∀main base (w:World),stepG P main (Conc.G r.fr (l.map Rec.fr++base)) w=.go (Conc.G r1.fr (l'.map Rec.fr++base)) w #[]):Moves P r l w r1 l' w :=
 ⟨Nat.le_refl _,rfl,#[],fun T d _ main base=>by rw[Nat.sub_self,Nat.add_zero];exact h main base _⟩
theorem fr_at (hr:r.ret=false):r.fr=r.fr.at ⟨r.tmps,[]⟩ r.todo:=by
 obtain⟨fn,tmps,todo,ret⟩:=r
 dsimp only at hr
 subst hr
 rfl
theorem oper_step {ops:Array Oper} {i:Nat} {tl:List Nat} {k:List Item} {o:Oper} (hr:r.ret=false) (ht:r.todo=.inRegion ops (i::tl)::k) (ho:ops[i]?=some o) (hw:Region.wanted o (yielded ops r.tmps)=true) (main:Bool) (base:List Frame) (w:World) :
  stepG P main (Conc.G r.fr base) w=stepG.apply P true r.fr base none (execOp r.eval o) w:=by
 have e:=fr_at hr
 rw[ht] at e
 have e2:(Act.mk r.tmps []).eval=r.eval:=by funext x;cases x<;>rfl
 rw[e,stepG_oper (a:=⟨r.tmps,[]⟩) ho hw,e2]
theorem rec_enter (P:Program) (f:FuncId) (as:Array Value):Frame.enter P f as .normal=Rec.fr ⟨f,(Frame.enter P f as .normal).tmps,(Frame.enter P f as .normal).todo,false⟩:=rfl
theorem rr_enter {f:FuncId} (hb:okBody P G fs f=true) {as as':Array Value} (h:VsR ρ as as'):RR P G fs [] ρ ⟨f,(Frame.enter P f as .normal).tmps,(Frame.enter P f as .normal).todo,false⟩ ⟨f,(Frame.enter P f as' .normal).tmps,(Frame.enter P f as' .normal).todo,false⟩:=by
 refine⟨rfl,by simp[Frame.enter],rfl,?_,fun it hit=>?_,head_of hb⟩
 ·show VsR ρ (as++Array.replicate _ undef) (as'++Array.replicate _ undef)
  rw[h.size]
  refine h.append ⟨rfl,fun i h1 h2=>?_⟩
  simp only[Array.getElem_replicate]
  exact vr_undef
 ·simp only[Frame.enter,List.mem_singleton] at hit
  subst hit
  unfold okBody at hb
  cases hf:P.funcs[f]? with
  | none=>rw[hf] at hb;cases hb
  | some fn =>
   rw[hf] at hb
   dsimp only at hb
   cases hc:fn.body with
   | none=>rw[hc] at hb;cases hb
   | some c =>
    rw[hc] at hb
    simp only[Bool.and_eq_true] at hb
    simpa [okItem,hc] using hb.1
theorem sim_op (hfs:∀f,fs.contains f=true->okBody P G fs f=true) (h:RR P G fs (botK K l) ρ r r') (hl:LR P G fs K ρ l l') (hw:WR P.globals.size F ρ w w') (hG:∀g,G g=true->ρ g g) (hr:r.ret=false)
  {ops:Array Oper} {i:Nat} {tl:List Nat} {k:List Item} {o:Oper} (ht:r.todo=.inRegion ops (i::tl)::k) (ho:ops[i]?=some o) (hwa:Region.wanted o (yielded ops r.tmps)=true) :
  Both P G fs K F ρ r r' l l' w w'\/Doomed P r l w:=by
 have hit:=h.items (.inRegion ops (i::tl)) (by rw[ht];simp)
 have hoo:okOp P G o.op=true/\okTo fs o.op=true:=by
  unfold okItem okOps at hit
  rw[Array.all_eq_true] at hit
  obtain⟨hi,e⟩:=Array.getElem?_eq_some_iff.1 ho
  have:=hit i hi
  rw[e,Bool.and_eq_true] at this
  exact this
 have hr':r'.ret=false:=h.ret ▸ hr
 have hne:r.todo≠[]:=by rw[ht];simp
 have ht':r'.todo=.inRegion ops (i::tl)::(k++botK K l):=by rw[h.todo,ht];rfl
 have hwa':Region.wanted o (yielded ops r'.tmps)=true:=by rw[<- h.yielded];exact hwa
 have hsr:=sr_exec (fs:=fs) hw.glob (P:=P) (o:=o) hoo.1 hoo.2 (h.eval hG)
 have s1:=fun main base W=>oper_step (P:=P) hr ht ho hwa main base W
 have s2:=fun main base W=>oper_step (P:=P) hr' ht' ho hwa' main base W
 cases hrun:(execOp r.eval o).runT P w #[] with
 | mk res es1 =>
  cases res with
  | halt hh w1 =>
   right
   intro base
   have hd:=run_SR_halt P hsr w w' #[] hw hh w1 es1 hrun
   rw[s1 true _ w]
   exact apply_dull hrun hd
  | ok x w1 =>
   left
   obtain⟨ρ1,x',w1',new,r1,r2,r3,r4,r5⟩:=run_SR P hsr w w' #[] #[] hw x w1 es1 hrun
   rw[Array.empty_append] at r1
   obtain⟨q1,q2,q3⟩:=run_SR_tape P hsr w w' #[] hw x w1 es1 hrun
   have hev:∀f,∀e∈seen P f new,EvR F ρ1 e:=fun f e he=>r5 e (seen_mem he)
   have hm:=h.mono r4.le
   have hlm:=hl.mono r4.le
   cases r2 with
   | @value v v' hv =>
    refine⟨r.finish v,l,w1,r'.finish v',l',w1',ρ1,seen P r'.fr.fn new,⟨q1,q2,seen P r.fr.fn es1,fun T d hT main base=>?_⟩,fun main base=>?_,hm.finish hv hne,hlm,r3,r4,hev r'.fr.fn⟩
    ·rw[s1,apply_value rfl (q3 T d hT),finish_fr r v h.head]
    ·rw[s2,apply_value rfl r1,finish_fr r' v' (h.head' hne)]
   | skip =>
    refine⟨r.finish undef,l,w1,r'.finish undef,l',w1',ρ1,seen P r'.fr.fn new,⟨q1,q2,seen P r.fr.fn es1,fun T d hT main base=>?_⟩,fun main base=>?_,hm.finish vr_undef hne,hlm,r3,r4,hev r'.fr.fn⟩
    ·rw[s1,apply_skip rfl (q3 T d hT),finish_fr r undef h.head]
    ·rw[s2,apply_skip rfl r1,finish_fr r' undef (h.head' hne)]
   | @enter f as as' hf hv =>
    refine⟨_,r::l,w1,_,r'::l',w1',ρ1,seen P r'.fr.fn new,⟨q1,q2,seen P r.fr.fn es1,fun T d hT main base=>?_⟩,fun main base=>?_,rr_enter (hfs f hf) hv,.cons hm hr hne hlm,r3,r4,hev r'.fr.fn⟩
    ·rw[s1,apply_enter rfl (show r.fr.todo=_ from ht) (q3 T d hT),rec_enter]
     rfl
    ·rw[s2,apply_enter rfl (show r'.fr.todo=_ from ht') r1,rec_enter]
     rfl
theorem sim_draw (h:RR P G fs (botK K l) ρ r r') (hl:LR P G fs K ρ l l') (hw:WR P.globals.size F ρ w w') (hr:r.ret=false) {id:Nat} {ops:Array Oper} {k:List Item} (ht:r.todo=.code (.region id ops true)::k) :
  Both P G fs K F ρ r r' l l' w w':=by
 have hr':r'.ret=false:=h.ret ▸ hr
 have ht':r'.todo=.code (.region id ops true)::(k++botK K l):=by rw[h.todo,ht];rfl
 have hit:=h.items (.code (.region id ops true)) (by rw[ht];simp)
 have step:∀(q:Rec) (main:Bool) (base:List Frame) (W:World) (k:List Item),q.ret=false->q.todo=.code (.region id ops true)::k ->
   stepG P main (Conc.G q.fr base) W=.go (Conc.G (Rec.fr { q with todo:=.inRegion ops (Region.schedule (P.follows .mixedOrders) ops (W.tape W.drawn (.order q.fn id)))::k }) base) { W with drawn:=W.drawn+1 } #[]:=by
  intro q main base W k h1 h2
  obtain⟨fn,tmps,todo,ret⟩:=q
  dsimp only at h1 h2
  subst h1 h2
  simp[Conc.G,stepG,stepG.exec,Rec.fr,choose,Sem.run,Question.forced,Question.cut,bind,Sem.bind,pure]
 have hit2:∀T:List Nat,∀it∈(Item.inRegion ops T::k),okItem P G fs it=true:=fun T it hi=>by
  rcases List.mem_cons.1 hi with e|hi
  ·subst e;exact hit
  ·exact h.items it (by rw[ht];simp[hi])
 refine⟨{ r with todo:=.inRegion ops (Region.schedule (P.follows .mixedOrders) ops (w.tape w.drawn (.order r.fn id)))::k },l,{ w with drawn:=w.drawn+1 },{ r' with todo:=.inRegion ops (Region.schedule (P.follows .mixedOrders) ops (w.tape w.drawn (.order r.fn id)))::(k++botK K l) },l',{ w' with drawn:=w'.drawn+1 },ρ,#[],⟨Nat.le_succ _,rfl,#[],fun T d hT main base=>?_⟩,fun main base=>?_,⟨h.fn,rfl,h.ret,h.tmps,hit2 _,h.body⟩,hl,hw.draw,⟨Ren.le_refl _,Nat.le_refl _,Nat.le_refl _,rfl,rfl,rfl,fun _ _ _=>rfl,fun _ _ q=>.inl q,fun e q=>⟨e,q⟩⟩,fun e he=>by simp at he⟩
 ·rw[step r main _ _ _ hr ht]
  have e0:=hT 0 (by simp)
  simp only[Nat.add_zero] at e0
  have e1:(re w T d).tape (re w T d).drawn (.order r.fn id)=w.tape w.drawn (.order r.fn id):=by show T d _=_;rw[e0]
  rw[e1]
  have e2:d+(({ w with drawn:=w.drawn+1 }:World).drawn - w.drawn)=d+1:=by show d+(w.drawn+1 - w.drawn)=d+1;omega
  rw[e2]
  rfl
 ·rw[step r' main _ _ _ hr' ht',<- hw.tape,<- hw.drawn,<- h.fn]
theorem rec_body (h:okHead P r.fn=true):∃fn,P.funcs[r.fn]?=some fn/\True:=by
 unfold okHead at h
 cases hf:P.funcs[r.fn]? with
 | none=>rw[hf] at h;cases h
 | some fn=>exact⟨fn,rfl,trivial⟩
theorem rec_init (h:okHead P r.fn=true):P.inits.idxOf? r.fn=none:=by
 unfold okHead at h
 cases hf:P.funcs[r.fn]? with
 | none=>rw[hf] at h;cases h
 | some fn =>
  rw[hf] at h
  simpa using h
theorem ret_step (hr:r.ret=true) {fn:Func} (hf:P.funcs[r.fn]?=some fn) (main:Bool) (base:List Frame) (w:World):stepG P main (Conc.G r.fr base) w =
  GStep.after (seen P r.fn ((results fn r.tmps).runT P w #[]).2) (match ((results fn r.tmps).runT P w #[]).1 with
   | .ok v w=>doReturn P main r.fr base none v w
   | .halt (.stuck s) w=>.ended (.stuck s (r.fr.pos P)) w
   | .halt _ w=>.ended (.stuck "return: the result variables cannot be read" (r.fr.pos P)) w):=by
 obtain⟨fn,tmps,todo,ret⟩:=r
 dsimp only at hr hf
 subst hr
 simp only[Conc.G,stepG,Rec.fr,unwind,hf,if_true]
 rfl
theorem sim_ret {q q':Rec} (h:RR P G fs [] ρ r r') (hc:RR P G fs (botK K l) ρ q q') (hq:q.ret=false) (hqt:q.todo≠[]) (hl:LR P G fs K ρ l l') (hw:WR P.globals.size F ρ w w') (hr:r.ret=true) :
  Both P G fs K F ρ r r' (q::l) (q'::l') w w'\/Doomed P r (q::l) w:=by
 have hr':r'.ret=true:=h.ret ▸ hr
 obtain⟨fn,hf,hok⟩:=rec_body h.body
 have hf':P.funcs[r'.fn]?=some fn:=h.fn ▸ hf
 have hsr:=sr_results (P:=P) (fn:=fn) h.tmps
 have hq':q'.ret=false:=hc.ret ▸ hq
 have ret:∀(x y:Rec) (main:Bool) (base:List Frame) (v:Value) (W:World),headOk P G fs y->doReturn P main x.fr (y.fr::base) none v W=.go (Conc.G (y.finish v).fr base) W #[]:=by
  intro x y main base v W hy
  simp only[doReturn,Rec.fr,Conc.G]
  have:=finish_fr (P:=P) (G:=G) (fs:=fs) y v hy
  simp only[Rec.fr] at this
  rw[this]
 have s1:=fun main base W=>ret_step (P:=P) hr hf main base W
 have s2:=fun main base W=>ret_step (P:=P) hr' hf' main base W
 cases hrun:(results fn r.tmps).runT P w #[] with
 | mk res es1 =>
  cases res with
  | halt hh w1 =>
   right
   intro base
   right
   rw[s1 true _ w,hrun]
   cases hh<;>exact⟨_,_,_,rfl⟩
  | ok v w1 =>
   left
   obtain⟨ρ1,v',w1',new,r1,r2,r3,r4,r5⟩:=run_SR P hsr w w' #[] #[] hw v w1 es1 hrun
   rw[Array.empty_append] at r1
   obtain⟨q1,q2,q3⟩:=run_SR_tape P hsr w w' #[] hw v w1 es1 hrun
   have hcm:=hc.mono r4.le
   have aft:∀(es:Array Event) (g:Goroutine) (W:World),GStep.after es (.go g W #[])=.go g W es:=fun es g W=>by simp[GStep.after]
   refine⟨q.finish v,l,w1,q'.finish v',l',w1',ρ1,seen P r'.fn new,⟨q1,q2,seen P r.fn es1,fun T d hT main base=>?_⟩,fun main base=>?_,hcm.finish r2 hqt,hl.mono r4.le,r3,r4,fun e he=>r5 e (seen_mem he)⟩
   ·rw[s1,q3 T d hT]
    dsimp only
    rw[List.map_cons,List.cons_append,ret r q main _ v _ hc.head,aft]
   ·rw[s2,r1]
    dsimp only
    rw[List.map_cons,List.cons_append,ret r' q' main _ v' _ (hc.head' hqt),aft]
theorem sim_step (hfs:∀f,fs.contains f=true->okBody P G fs f=true) (h:RR P G fs (botK K l) ρ r r') (hl:LR P G fs K ρ l l') (hw:WR P.globals.size F ρ w w') (hG:∀g,G g=true->ρ g g) (hne:r.ret=true->l≠[]) (hst:r.todo≠[]\/botK K l=[]) :
  Both P G fs K F ρ r r' l l' w w'\/Doomed P r l w:=by
 cases hr:r.ret with
 | true =>
  cases hl with
  | nil=>exact absurd rfl (hne hr)
  | cons hc hq hqt hl=>exact sim_ret h hc hq hqt hl hw hr
 | false =>
  have hr':r'.ret=false:=h.ret ▸ hr
  cases hc:ctl r with
  | some r1 =>
   left
   obtain⟨r1',e1,e2⟩:=ctl_rel h hG hst hc
   have hhd:headOk P G fs r':=by
    rcases hst with q|q
    ·exact h.head' q
    ·intro it e
     rw[h.todo,q,List.append_nil] at e
     exact h.head it e
   exact⟨r1,l,w,r1',l',w',ρ,#[],moves_still fun main base W=>ctl_step hr h.head hc main _ W,fun main base=>ctl_step hr' hhd e1 main _ w',e2,hl,hw,.refl,fun e he=>by simp at he⟩
  | none =>
   have stop:∀ {it:Item} {k:List Item},r.todo=it::k->(∀base:List Frame,∃o w2 es,stepG.exec P true true r.fr base none w=.ended o w2 es)->Doomed P r l w:=fun {it k} e hh base=>by
    right
    have:stepG P true (Conc.G r.fr (l.map Rec.fr++base)) w=stepG.exec P true true r.fr (l.map Rec.fr++base) none w:=by
     simp[stepG,Conc.G,Rec.fr,hr]
    rw[this]
    exact hh _
   rcases ctl_none h.items hc with⟨c,a,b,k,ht,hb⟩|⟨id,k,ht,he⟩|⟨id,ops,k,ht⟩|⟨ops,i,tl,k,o,ht,ho,hwa⟩
   ·right
    refine stop ht fun base=>?_
    have ht2:r.fr.todo=.code (.cond c a b)::k:=ht
    have he:=congrFun (Rec.eval_fr r) c
    unfold stepG.exec
    rw[ht2]
    dsimp only
    rw[he]
    cases hv:r.eval c with
    | bool t=>exact absurd hv (hb t)
    | _=>exact⟨_,_,_,rfl⟩
   ·right
    refine stop ht fun base=>?_
    have ht2:r.fr.todo=.code (.exit id)::k:=ht
    unfold stepG.exec
    rw[ht2]
    dsimp only
    rw[he]
    exact⟨_,_,_,rfl⟩
   ·exact .inl (sim_draw h hl hw hr ht)
   ·exact sim_op hfs h hl hw hG hr ht ho hwa
end
end Go.Proofs.YtbicafgmfgdckaaDoor
