/- Two runs of one operation, whose blocks bear other numbers: how values, trees of actions and worlds are alike. For any program. Alike trees of actions in alike worlds: where the first runs to its end so does the second, and leaves alike worlds. For any program. Operations at alike values are alike. For any program. -/
import GoSem.Step
import Derived.RowKit
import GoSem.Dispatch
namespace Go.Proofs.YtbicafgmfgdckaaDoor
open Go

abbrev Ren:=Nat->Nat->Prop
def Ren.le (ρ σ:Ren):Prop:=∀a b,ρ a b->σ a b
def Ren.ext (ρ:Ren) (r r':Nat):Ren:=fun a b=>ρ a b\/(a=r/\b=r')
theorem Ren.le_refl (ρ:Ren):ρ.le ρ:=fun _ _ h=>h
theorem Ren.le_trans {ρ σ τ:Ren} (h:ρ.le σ) (k:σ.le τ):ρ.le τ:=fun a b q=>k a b (h a b q)
theorem Ren.le_ext (ρ:Ren) (r r':Nat):ρ.le (ρ.ext r r'):=fun _ _ h=>.inl h
structure AR (ρ:Ren) (a a':Addr):Prop where
 block:ρ a.block a'.block
 off:a.off=a'.off
 spot:a.spot=a'.spot
def oneV:Value->Bool
 | .agg _ | .tuple _ | .bool _=>false
 | _=>true
inductive VR (ρ:Ren):Value->Value->Prop
 | bool (b:Bool):VR ρ (.bool b) (.bool b)
 | int (k:IntKind) (n:Int):VR ρ (.int k n) (.int k n)
 | pnil:VR ρ (.pointer none) (.pointer none)
 | ptr {a a':Addr} (h:AR ρ a a'):VR ρ (.pointer (some a)) (.pointer (some a'))
 | snil (l c:Nat):VR ρ (.slice none l c) (.slice none l c)
 | slice {a a':Addr} (l c:Nat) (h:AR ρ a a'):VR ρ (.slice (some a) l c) (.slice (some a') l c)
 | slz {a a':Addr} (h:a.spot.isSome=true):VR ρ (.slice (some a) 0 0) (.slice (some a') 0 0)
 | func (f:FuncId) {cs cs':Array Value} (hs:cs.size=cs'.size) (h:∀i (h1:i < cs.size) (h2:i < cs'.size),VR ρ cs[i] cs'[i]):VR ρ (.func (.func f) #[] cs) (.func (.func f) #[] cs')
 | nilFunc:VR ρ .nilFunc .nilFunc
 | nilIface (v:Value) (h:oneV v=true):VR ρ .nilIface v
 | agg {cs cs':Array Value} (hs:cs.size=cs'.size) (h:∀i (h1:i < cs.size) (h2:i < cs'.size),VR ρ cs[i] cs'[i]):VR ρ (.agg cs) (.agg cs')
 | tuple {cs cs':Array Value} (hs:cs.size=cs'.size) (h:∀i (h1:i < cs.size) (h2:i < cs'.size),VR ρ cs[i] cs'[i]):VR ρ (.tuple cs) (.tuple cs')
structure VsR (ρ:Ren) (cs cs':Array Value):Prop where
 size:cs.size=cs'.size
 at_:∀i (h1:i < cs.size) (h2:i < cs'.size),VR ρ cs[i] cs'[i]
section
variable {ρ σ:Ren}
theorem AR.mono (h:ρ.le σ) {a a':Addr} (k:AR ρ a a'):AR σ a a':=⟨h _ _ k.block,k.off,k.spot⟩
theorem AR.add {a a':Addr} (k:AR ρ a a') (n:Nat):AR ρ (a.add n) (a'.add n):=by
 unfold Addr.add
 split
 ·exact k
 ·exact⟨k.block,by show a.off+n=a'.off+n;rw[k.off],rfl⟩
theorem VR.mono (h:ρ.le σ) {v v':Value} (k:VR ρ v v'):VR σ v v':=by
 induction k with
 | bool b=>exact .bool b
 | int k n=>exact .int k n
 | pnil=>exact .pnil
 | ptr q=>exact .ptr (q.mono h)
 | snil l c=>exact .snil l c
 | slice l c q=>exact .slice l c (q.mono h)
 | slz q=>exact .slz q
 | func f hs _ ih=>exact .func f hs ih
 | nilFunc=>exact .nilFunc
 | nilIface v q=>exact .nilIface v q
 | agg hs _ ih=>exact .agg hs ih
 | tuple hs _ ih=>exact .tuple hs ih
theorem VsR.mono (h:ρ.le σ) {cs cs':Array Value} (k:VsR ρ cs cs'):VsR σ cs cs':=⟨k.size,fun i h1 h2=>(k.at_ i h1 h2).mono h⟩
theorem VsR.empty:VsR ρ #[] #[]:=⟨rfl,fun i h=>by simp at h⟩
theorem VsR.push {cs cs':Array Value} (k:VsR ρ cs cs') {v v':Value} (h:VR ρ v v'):VsR ρ (cs.push v) (cs'.push v'):=by
 refine⟨by simp[k.size],fun i h1 h2=>?_⟩
 rw[Array.size_push] at h1 h2
 rw[Array.getElem_push,Array.getElem_push]
 have e:=k.size
 by_cases hi:i < cs.size
 ·rw[dif_pos hi,dif_pos (by omega)];exact k.at_ i hi (by omega)
 ·rw[dif_neg hi,dif_neg (by omega)];exact h
theorem VsR.append {cs cs' ds ds':Array Value} (k:VsR ρ cs cs') (q:VsR ρ ds ds'):VsR ρ (cs++ds) (cs'++ds'):=by
 have e:=k.size
 have e2:=q.size
 refine⟨by simp[e,e2],fun i h1 h2=>?_⟩
 rw[Array.size_append] at h1 h2
 rw[Array.getElem_append,Array.getElem_append]
 by_cases hi:i < cs.size
 ·rw[dif_pos hi,dif_pos (by omega)];exact k.at_ i hi (by omega)
 ·rw[dif_neg hi,dif_neg (by omega)]
  have:i - cs'.size=i - cs.size:=by omega
  simp only[this]
  exact q.at_ _ (by omega) (by omega)
theorem VsR.get {cs cs':Array Value} (k:VsR ρ cs cs') (i:Nat):(cs[i]?=none/\cs'[i]?=none)\/∃v v',cs[i]?=some v/\cs'[i]?=some v'/\VR ρ v v':=by
 have e:=k.size
 by_cases h:i < cs.size
 ·exact .inr ⟨cs[i],cs'[i],Array.getElem?_eq_getElem h,Array.getElem?_eq_getElem (by omega),k.at_ i h (by omega)⟩
 ·exact .inl ⟨Array.getElem?_eq_none (by omega),Array.getElem?_eq_none (by omega)⟩
theorem VsR.set {cs cs':Array Value} (k:VsR ρ cs cs') (i:Nat) {v v':Value} (h:VR ρ v v'):VsR ρ (cs.setIfInBounds i v) (cs'.setIfInBounds i v'):=by
 refine⟨by simp[k.size],fun j h1 h2=>?_⟩
 rw[Array.size_setIfInBounds] at h1 h2
 rw[Array.getElem_setIfInBounds h1,Array.getElem_setIfInBounds h2]
 split
 ·exact h
 ·exact k.at_ j h1 h2
theorem VR.cells {v v':Value} (k:VR ρ v v'):VsR ρ v.cells v'.cells:=by
 have one:∀ {u u':Value},VR ρ u u'->VsR ρ #[u] #[u']:=fun h=>VsR.empty.push h
 cases k with
 | agg hs h=>exact⟨hs,h⟩
 | bool b=>exact one (.bool b)
 | int k n=>exact one (.int k n)
 | pnil=>exact one .pnil
 | ptr q=>exact one (.ptr q)
 | snil l c=>exact one (.snil l c)
 | slice l c q=>exact one (.slice l c q)
 | slz q=>exact one (.slz q)
 | func f hs h=>exact one (.func f hs h)
 | nilFunc=>exact one .nilFunc
 | nilIface _ q=>cases v'<;>first|exact one (.nilIface _ rfl) | (cases q;done)
 | tuple hs h=>exact one (.tuple hs h)
end

def _root_.Go.Mark.mute':Mark->Bool
 | .extern _ | .noRoom=>true
 | _=>false
def dull:Halt->Bool
 | .panic _ | .stuck _=>true
 | .unsupported (.initOrder _)=>false
 | .unsupported _=>true
 | _=>false
inductive SR (P:Program) {α β:Type} (X:Ren->α->β->Prop):Ren->Sem α->Sem β->Prop
 | pure {ρ:Ren} {a:α} {b:β} (h:X ρ a b):SR P X ρ (.pure a) (.pure b)
 | load {ρ:Ren} {a a':Addr} {k:Value->Sem α} {k':Value->Sem β} (h:AR ρ a a') (hk:∀v v',VR ρ v v'->SR P X ρ (k v) (k' v')):SR P X ρ (.load .plain a k) (.load .plain a' k')
 | store {ρ:Ren} {a a':Addr} {v v':Value} {k:Sem α} {k':Sem β} (h:AR ρ a a') (hv:VR ρ v v') (hk:SR P X ρ k k'):SR P X ρ (.store .plain a v k) (.store .plain a' v' k')
 | new {ρ:Ren} {cs cs':Array Value} {t:TypeId} {k:Nat->Sem α} {k':Nat->Sem β} (h:VsR ρ cs cs') (hk:∀r r',P.globals.size<=r->SR P X (ρ.ext r r') (k r) (k' r')):SR P X ρ (.new (.cells cs t) k) (.new (.cells cs' t) k')
 | number {ρ:Ren} {a a':Addr} {l:Bool} {k:Nat->Sem α} {k':Nat->Sem β} (h:AR ρ a a') (hk:∀r r',P.globals.size<=r->SR P X (ρ.ext r r') (k r) (k' r')):SR P X ρ (.new (.number a l) k) (.new (.number a' l) k')
 | getObj {ρ:Ren} {r r':Nat} {k:Obj->Sem α} {k':Obj->Sem β} (h:ρ r r') (hk:∀a a' l,AR ρ a a'->SR P X ρ (k (.number a l)) (k' (.number a' l))):SR P X ρ (.getObj r k) (.getObj r' k')
 | shape {ρ:Ren} {r r':Nat} {k:Option (TypeId × Nat)->Sem α} {k':Option (TypeId × Nat)->Sem β} (h:ρ r r') (hk:∀s,SR P X ρ (k s) (k' s)):SR P X ρ (.shape r k) (.shape r' k')
 | choose {ρ:Ren} {q:Question} {k:Nat->Sem α} {k':Nat->Sem β} (hk:∀n,SR P X ρ (k n) (k' n)):SR P X ρ (.choose q k) (.choose q k')
 | program {ρ:Ren} {k:Program->Sem α} {k':Program->Sem β} (hk:SR P X ρ (k P) (k' P)):SR P X ρ (.program k) (.program k')
 | mark {ρ:Ren} {m:Mark} {k:Sem α} {k':Sem β} (hm:m.mute'=true) (hk:SR P X ρ k k'):SR P X ρ (.mark m k) (.mark m k')
 | halt {ρ:Ren} {h:Halt} {s':Sem β} (hd:dull h=true:=by rfl):SR P X ρ (.halt h) s'
 | loadVoid {ρ:Ren} {a:Addr} {k:Value->Sem α} {s':Sem β} (h:a.spot.isSome=true):SR P X ρ (.load .plain a k) s'
 | storeVoid {ρ:Ren} {a:Addr} {v:Value} {k:Sem α} {s':Sem β} (h:a.spot.isSome=true):SR P X ρ (.store .plain a v k) s'
 | dead {ρ:Ren} {s:Sem α} {s':Sem β} (h:∀w es,∃h' w' es',s.runT P w es=(.halt h' w',es')/\dull h'=true):SR P X ρ s s'
theorem runT_bind {α β:Type} (p:Program) (s:Sem α) (f:α->Sem β):∀(w:World) (es:Array Event),(s.bind f).runT p w es=match s.runT p w es with
  |(.ok a w',es')=>(f a).runT p w' es'
  |(.halt h w',es')=>(.halt h w',es'):=by
 induction s with
 | pure a=>intro w es;rfl
 | load m a k ih =>
  intro w es
  simp only[Sem.bind,Sem.runT]
  split
  ·exact ih _ _ _
  ·split
   ·exact ih _ _ _
   ·rfl
 | store m a v k ih =>
  intro w es
  cases v<;>simp only[Sem.bind,Sem.runT]<;>(try rfl)<;>(split<;>(try split)<;>first|exact ih _ _|rfl)
 | new o k ih=>intro w es;exact ih _ _ _
 | shape r k ih=>intro w es;exact ih _ _ _
 | freeze a n k ih=>intro w es;exact ih _ _
 | frozen a k ih=>intro w es;exact ih _ _ _
 | getObj r k ih =>
  intro w es
  simp only[Sem.bind,Sem.runT]
  split<;>first|rfl|exact ih _ _ _
 | setObj r o k ih =>
  intro w es
  simp only[Sem.bind,Sem.runT]
  split<;>first|rfl|exact ih _ _
 | choose q k ih =>
  intro w es
  simp only[Sem.bind,Sem.runT]
  split<;>exact ih _ _ _
 | sys c k ih=>intro w es;exact ih _ _ _
 | program k ih=>intro w es;exact ih _ _ _
 | mark m k ih=>intro w es;exact ih _ _
 | halt h=>intro w es;rfl
theorem SR.bind {P:Program} {α β γ δ:Type} {X:Ren->α->β->Prop} {Y:Ren->γ->δ->Prop} {ρ:Ren} {s:Sem α} {s':Sem β} {f:α->Sem γ} {f':β->Sem δ} (h:SR P X ρ s s')
  (hf:∀σ a b,ρ.le σ->X σ a b->SR P Y σ (f a) (f' b)):SR P Y ρ (s.bind f) (s'.bind f'):=by
 induction h with
 | pure h=>exact hf _ _ _ (Ren.le_refl _) h
 | load h _ ih=>exact .load h fun v v' hv=>ih v v' hv hf
 | store h hv _ ih=>exact .store h hv (ih hf)
 | new h _ ih=>exact .new h fun r r' hr=>ih r r' hr fun σ a b hl=>hf σ a b (Ren.le_trans (Ren.le_ext _ _ _) hl)
 | number h _ ih=>exact .number h fun r r' hr=>ih r r' hr fun σ a b hl=>hf σ a b (Ren.le_trans (Ren.le_ext _ _ _) hl)
 | getObj h _ ih=>exact .getObj h fun a a' l ha=>ih a a' l ha hf
 | shape h _ ih=>exact .shape h fun s=>ih s hf
 | choose _ ih=>exact .choose fun n=>ih n hf
 | program _ ih=>exact .program (ih hf)
 | mark hm _ ih=>exact .mark hm (ih hf)
 | halt hd=>exact .halt hd
 | loadVoid h=>exact .loadVoid h
 | storeVoid h=>exact .storeVoid h
 | dead h =>
  refine .dead fun w es=>?_
  obtain⟨h',w',es',e,hd⟩:=h w es
  rw[runT_bind,e]
  exact⟨h',w',es',rfl,hd⟩
end Go.Proofs.YtbicafgmfgdckaaDoor
namespace Go.Proofs.YtbicafgmfgdckaaDoor
open Go Go.RowKit

def ObjR (F:Nat->Prop) (ρ:Ren) (b:Nat):Obj->Obj->Prop
 | .cells cs t fr,.cells cs' t' fr'=>t=t'/\VsR ρ cs cs'/\(F b->∀o,o < cs.size->fr.1<=o/\o < fr.2)/\(¬F b->fr=(0,0)/\fr'=(0,0))
 | .number a l,.number a' l'=>l=l'/\AR ρ a a'
 | _,_=>False
structure WR (gs:Nat) (F:Nat->Prop) (ρ:Ren) (w w':World):Prop where
 tape:w.tape=w'.tape
 drawn:w.drawn=w'.drawn
 fn:∀a b c,ρ a b->ρ a c->b=c
 inj:∀a b c,ρ a c->ρ b c->a=b
 low:∀b,F b->b < w'.heap.size
 glob:∀a b,ρ a b->a < gs->a=b
 gsize:gs<=w.heap.size
 plain:∀(b:Nat) (o:Obj),w.heap[b]?=some o->(∃cs t fr,o=.cells cs t fr)\/∃a l,o=.number a l
 block:∀a b,ρ a b->∃o o',w.heap[a]?=some o/\w'.heap[b]?=some o'/\ObjR F ρ b o o'
def EvR (F:Nat->Prop) (ρ:Ren) (e:Event):Prop :=
 (∃ad a,e.loc=.cell ad/\ρ a ad.block/\e.sync=false/\(e.write=true->¬F ad.block))\/(∃m,e.loc=.mark m/\m.mute'=true)\/(∃r a,e.loc=.obj r/\ρ a r/\e.write=false/\e.sync=false)
structure Left (F:Nat->Prop) (ρ ρ1:Ren) (w w' w1 w1':World):Prop where
 le:ρ.le ρ1
 size:w.heap.size<=w1.heap.size
 size':w'.heap.size<=w1'.heap.size
 tape:w1'.tape=w'.tape
 os:w1'.os=w'.os
 output:w1'.output=w'.output
 old:∀b,b < w'.heap.size->(∀a,ρ a b->F b)->w1'.heap[b]?=w'.heap[b]?
 new:∀a b,ρ1 a b->ρ a b\/(w.heap.size<=a/\w'.heap.size<=b)
 same:w.heap.size=w'.heap.size->(∀a b,ρ a b->a=b)->w1.heap.size=w1'.heap.size/\∀a b,ρ1 a b->a=b
section
variable {gs:Nat} {F:Nat->Prop} {ρ ρ1 ρ2:Ren} {w w' w1 w1' w2 w2':World}
theorem Left.refl:Left F ρ ρ w w' w w':=⟨Ren.le_refl _,Nat.le_refl _,Nat.le_refl _,rfl,rfl,rfl,fun _ _ _=>rfl,fun _ _ h=>.inl h,fun h k=>⟨h,k⟩⟩
theorem ObjR.mono {b:Nat} (h:ρ.le ρ1) {o o':Obj} (k:ObjR F ρ b o o'):ObjR F ρ1 b o o':=by
 cases o<;>cases o'<;>first|exact k.elim|exact⟨k.1,k.2.1.mono h,k.2.2⟩|exact⟨k.1,k.2.mono h⟩
theorem WR.cell (h:WR gs F ρ w w') {a a':Addr} (k:AR ρ a a'):(w.cell? a=none/\w'.cell? a'=none)\/∃v v',w.cell? a=some v/\w'.cell? a'=some v'/\VR ρ v v':=by
 obtain⟨o,o',h1,h2,h3⟩:=h.block _ _ k.block
 unfold World.cell?
 rw[h1,h2,<- k.off,<- k.spot]
 cases o<;>cases o'<;>first|exact h3.elim|exact .inl ⟨rfl,rfl⟩|skip
 dsimp only
 split
 ·exact .inl ⟨rfl,rfl⟩
 ·exact h3.2.1.get a.off
theorem WR.shape (h:WR gs F ρ w w') {a b:Nat} (k:ρ a b):w.shape? a=w'.shape? b:=by
 obtain⟨o,o',h1,h2,h3⟩:=h.block _ _ k
 unfold World.shape?
 rw[h1,h2]
 cases o<;>cases o'<;>first|exact h3.elim|rfl|skip
 dsimp only
 rw[h3.1,h3.2.1.size]
theorem WR.far (h:WR gs F ρ w w') {a a':Addr} (k:AR ρ a a'):(∀o,w.heap[a.block]?=some o->∀x u,o≠.view x u):=by
 obtain⟨o,o',h1,h2,h3⟩:=h.block _ _ k.block
 intro q hq x u e
 rw[h1] at hq
 injection hq with hq
 subst hq
 subst e
 cases o'<;>exact h3
theorem heap_setCell (w:World) (a:Addr) (v:Value) (b:Nat):(w.setCell a v).heap[b]?=if b=a.block then (w.heap[b]?).map (fun o=>match o with
  | .cells c elem frozen=>.cells (if a.spot.isSome then c else c.setIfInBounds a.off v) elem frozen
  | o=>o) else w.heap[b]?:=by
 unfold World.setCell
 simp only[Array.getElem?_modify]
 by_cases e:b=a.block
 ·rw[if_pos e,if_pos e.symm]
  congr 1
 ·rw[if_neg e,if_neg fun q=>e q.symm]
theorem WR.set (h:WR gs F ρ w w') {a a':Addr} (k:AR ρ a a') {v v':Value} (hv:VR ρ v v'):WR gs F ρ (w.setCell a v) (w'.setCell a' v'):=by
 refine⟨h.tape,h.drawn,h.fn,h.inj,fun b hb=>?_,h.glob,by simpa [World.setCell] using h.gsize,fun b o e=>?_,fun c d q=>?_⟩
 ·have:=h.low b hb
  simpa [World.setCell] using this
 ·rw[heap_setCell] at e
  split at e
  ·cases hb:w.heap[b]? with
   | none=>rw[hb] at e;cases e
   | some o2 =>
    rw[hb] at e
    simp only[Option.map_some,Option.some.injEq] at e
    subst e
    rcases h.plain b o2 hb with⟨cs,t,fr,rfl⟩|⟨a,l,rfl⟩
    ·exact .inl ⟨_,_,_,rfl⟩
    ·exact .inr ⟨_,_,rfl⟩
  ·exact h.plain b o e
 ·obtain⟨o,o',h1,h2,h3⟩:=h.block c d q
  rw[heap_setCell,heap_setCell,h1,h2]
  by_cases e:c=a.block
  ·have e':d=a'.block:=h.fn _ _ _ q (e ▸ k.block)
   rw[if_pos e,if_pos e']
   simp only[Option.map_some]
   refine⟨_,_,rfl,rfl,?_⟩
   cases o<;>cases o'<;>first|exact h3.elim|exact h3|skip
   dsimp only
   rw[<- k.spot,<- k.off]
   by_cases hs:a.spot.isSome=true
   ·rw[if_pos hs,if_pos hs];exact h3
   ·rw[if_neg hs,if_neg hs]
    exact⟨h3.1,h3.2.1.set _ hv,fun hf o ho=>h3.2.2.1 hf o (by simpa using ho),h3.2.2.2⟩
  ·have e':d≠a'.block:=fun e2=>e (h.inj _ _ _ q (e2 ▸ k.block))
   rw[if_neg e,if_neg e']
   exact⟨o,o',rfl,rfl,h3⟩
theorem WR.push (h:WR gs F ρ w w') (hlt:∀a b,ρ a b->a < w.heap.size/\b < w'.heap.size) {o o':Obj} (ho:(∃cs t fr,o=.cells cs t fr)\/∃a l,o=.number a l) (k:∀b,¬F b->ObjR F ρ b o o') :
  WR gs F (ρ.ext w.heap.size w'.heap.size) { w with heap:=w.heap.push o } { w' with heap:=w'.heap.push o' }:=by
 refine⟨h.tape,h.drawn,fun a b c q1 q2=>?_,fun a b c q1 q2=>?_,fun b hb=>?_,fun a b q hg=>?_,by have:=h.gsize;simp only[Array.size_push];omega,fun b o2 e=>?_,fun a b q=>?_⟩
 ·rcases q1 with q1|⟨q1,q1'⟩<;>rcases q2 with q2|⟨q2,q2'⟩
  ·exact h.fn _ _ _ q1 q2
  ·have:=(hlt _ _ q1).1;omega
  ·have:=(hlt _ _ q2).1;omega
  ·omega
 ·rcases q1 with q1|⟨q1,q1'⟩<;>rcases q2 with q2|⟨q2,q2'⟩
  ·exact h.inj _ _ _ q1 q2
  ·have:=(hlt _ _ q1).2;omega
  ·have:=(hlt _ _ q2).2;omega
  ·omega
 ·have:=h.low b hb
  simp only[Array.size_push];omega
 ·rcases q with q|⟨q,_⟩
  ·exact h.glob _ _ q hg
  ·have:=h.gsize;omega
 ·simp only[Array.getElem?_push] at e
  split at e
  ·injection e with e;subst e;exact ho
  ·exact h.plain b o2 e
 ·rcases q with q|⟨rfl,rfl⟩
  ·obtain⟨u,u',h1,h2,h3⟩:=h.block a b q
   obtain⟨l1,l2⟩:=hlt _ _ q
   refine⟨u,u',?_,?_,h3.mono (Ren.le_ext _ _ _)⟩
   ·simp only[Array.getElem?_push];rw[if_neg (by omega)];exact h1
   ·simp only[Array.getElem?_push];rw[if_neg (by omega)];exact h2
  ·refine⟨o,o',by simp,by simp,(k _ fun hf=>?_).mono (Ren.le_ext _ _ _)⟩
   have:=h.low _ hf;omega
theorem WR.lt (h:WR gs F ρ w w') (a b:Nat) (q:ρ a b):a < w.heap.size/\b < w'.heap.size:=by
 obtain⟨o,o',h1,h2,_⟩:=h.block a b q
 exact⟨(Array.getElem?_eq_some_iff.1 h1).1,(Array.getElem?_eq_some_iff.1 h2).1⟩
theorem WR.draw (h:WR gs F ρ w w'):WR gs F ρ { w with drawn:=w.drawn+1 } { w' with drawn:=w'.drawn+1 }:=⟨h.tape,by show w.drawn+1=w'.drawn+1;rw[h.drawn],h.fn,h.inj,h.low,h.glob,h.gsize,h.plain,h.block⟩
theorem WR.void (h:WR gs F ρ w w') {a:Addr} (k:a.spot.isSome=true):w.cell? a=none/\(∀p at_,w.farLoad p a at_=.error (.stuck "load: no such cell"))/\∀p v at_,w.farStore p a v at_=.error (.stuck "store: no such cell"):=by
 have hn:∀what,w.noCell a what=.stuck what:=fun what=>by
  unfold World.noCell
  cases hb:w.heap[a.block]? with
  | none=>rfl
  | some o=>rcases h.plain _ _ hb with⟨cs,t,fr,rfl⟩|⟨x,l,rfl⟩<;>rfl
 refine⟨?_,fun p at_=>?_,fun p v at_=>?_⟩
 ·unfold World.cell?
  cases hb:w.heap[a.block]? with
  | none=>rfl
  | some o=>rcases h.plain _ _ hb with⟨cs,t,fr,rfl⟩|⟨x,l,rfl⟩<;>simp[k]
 ·unfold World.farLoad
  rw[hn]
  cases hb:w.heap[a.block]? with
  | none=>rfl
  | some o=>rcases h.plain _ _ hb with⟨cs,t,fr,rfl⟩|⟨x,l,rfl⟩<;>rfl
 ·unfold World.farStore
  rw[hn]
  cases hb:w.heap[a.block]? with
  | none=>rfl
  | some o=>rcases h.plain _ _ hb with⟨cs,t,fr,rfl⟩|⟨x,l,rfl⟩<;>rfl
theorem void_load {α:Type} (p:Program) (h:WR gs F ρ w w') {a:Addr} (k:a.spot.isSome=true) (K:Value->Sem α) (es:Array Event):∃es2,(Sem.load .plain a K).runT p w es=(.halt (.stuck "load: no such cell") w,es2):=by
 obtain⟨e1,e2,_⟩:=h.void k
 exact⟨_,by simp only[Sem.runT,e1,e2];rfl⟩
theorem void_store {α:Type} (p:Program) (h:WR gs F ρ w w') {a:Addr} (k:a.spot.isSome=true) (v:Value) (K:Sem α) (es:Array Event):∃what es2,(Sem.store .plain a v K).runT p w es=(.halt (.stuck what) w,es2):=by
 obtain⟨e1,_,e2⟩:=h.void k
 cases v<;>first|exact⟨_,_,rfl⟩|exact⟨_,_,by simp only[Sem.runT,e1,e2];rfl⟩
end
theorem run_SR {α β:Type} {X:Ren->α->β->Prop} {F:Nat->Prop} (p:Program) {ρ:Ren} {s:Sem α} {s':Sem β} (h:SR p X ρ s s'):∀(w w':World) (es es':Array Event),WR p.globals.size F ρ w w' ->
  ∀x w1 es1,s.runT p w es=(.ok x w1,es1)->∃ρ1 x' w1' new,s'.runT p w' es'=(.ok x' w1',es'++new)/\X ρ1 x x'/\WR p.globals.size F ρ1 w1 w1'/\Left F ρ ρ1 w w' w1 w1'/\∀e∈new,EvR F ρ1 e:=by
 induction h with
 | pure h =>
  intro w w' es es' hw x w1 es1 e
  simp only[Sem.runT,Prod.mk.injEq,Result.ok.injEq] at e
  obtain⟨⟨rfl,rfl⟩,rfl⟩:=e
  exact⟨_,_,w',#[],by simp[Sem.runT],h,hw,.refl,fun e he=>by simp at he⟩
 | @load ρ a a' k k' hA _ ih =>
  intro w w' es es' hw x w1 es1 e
  rcases hw.cell hA with⟨h1,h2⟩|⟨v,v',h1,h2,hv⟩
  ·exfalso
   simp only[Sem.runT,h1] at e
   have hfar:=hw.far hA
   unfold World.farLoad at e
   split at e
   ·rename_i heq
    split at heq
    ·rename_i h9
     exact hfar _ h9 _ _ rfl
    ·cases heq
   ·simp at e
  ·simp only[Sem.runT,h1] at e
   obtain⟨ρ1,x',w1',new,r1,r2,r3,r4,r5⟩:=ih v v' hv w w' _ (es'.push ⟨.cell a',false,Mode.plain==.atomic⟩) hw x w1 es1 e
   refine⟨ρ1,x',w1',#[⟨.cell a',false,Mode.plain==.atomic⟩]++new,?_,r2,r3,r4,fun e he=>?_⟩
   ·simp only[Sem.runT,h2,r1]
    rw[<- Array.append_assoc];rfl
   ·rcases Array.mem_append.1 he with he|he
    ·simp only[List.mem_toArray,List.mem_singleton] at he
     subst he
     exact .inl ⟨a',_,rfl,r4.le _ _ hA.block,rfl,fun q=>by cases q⟩
    ·exact r5 e he
 | @store ρ a a' v v' k k' hA hv _ ih =>
  intro w w' es es' hw x w1 es1 e
  have hva:(∀c,v≠.agg c)/\(∀c,v≠.tuple c):=by
   constructor<;>(intro c ec;subst ec;simp[Sem.runT] at e)
  have hva':(∀c,v'≠.agg c)/\(∀c,v'≠.tuple c):=by
   constructor<;>(intro c ec;subst ec;cases hv)<;>first|exact hva.1 _ rfl|exact hva.2 _ rfl | (rename_i q;exact absurd q (by simp[oneV]))
  have st:∀ {γ:Type} (u:Value) (b:Addr) (K:Sem γ) (W:World) (E:Array Event),(∀c,u≠.agg c)->(∀c,u≠.tuple c)->(Sem.store .plain b u K).runT p W E=match W.cell? b with
    | some _=>if W.frozen? b then (.halt (.unsupported (.unsafePointer "a write to bytes that a string shares")) W,E) else K.runT p (W.setCell b u) (E.push ⟨.cell b,true,Mode.plain==.atomic⟩)
    | none=>match W.farStore p b u (Mode.plain==.atomic) with
     | .ok (w,touched)=>K.runT p w (E++touched.toArray.map (⟨.cell ·,true,Mode.plain==.atomic⟩))
     | .error h=>(.halt h W,E):=by
   intro γ u b K W E h1 h2
   cases u<;>first|rfl|exact absurd rfl (h1 _) | exact absurd rfl (h2 _)
  rw[st v a k w es hva.1 hva.2] at e
  rcases hw.cell hA with⟨h1,h2⟩|⟨u,u',h1,h2,hu⟩
  ·exfalso
   rw[h1] at e
   dsimp only at e
   have hfar:=hw.far hA
   unfold World.farStore at e
   split at e
   ·rename_i heq
    split at heq
    ·rename_i h9
     exact hfar _ h9 _ _ rfl
    ·cases heq
   ·simp at e
  ·obtain⟨o,o',q1,q2,q3⟩:=hw.block _ _ hA.block
   have hco:∃cs t fr,o=.cells cs t fr:=by
    unfold World.cell? at h1
    rw[q1] at h1
    cases o<;>first|exact⟨_,_,_,rfl⟩ | (simp at h1)
   obtain⟨cs,t,fr,rfl⟩:=hco
   cases o' with
   | cells cs' t' fr'=>?_
   | _=>exact q3.elim
   obtain⟨_,_,q4,q5⟩:=q3
   rw[h1] at e
   dsimp only at e
   have hoff:a.off < cs.size:=by
    unfold World.cell? at h1
    rw[q1] at h1
    dsimp only at h1
    split at h1
    ·cases h1
    ·exact(Array.getElem?_eq_some_iff.1 h1).1
   have hfr:w.frozen? a=(decide (fr.1<=a.off)&&decide (a.off < fr.2)):=by unfold World.frozen?;rw[q1]
   have hnF:¬F a'.block:=fun hf=>by
    obtain⟨l1,l2⟩:=q4 hf _ hoff
    rw[if_pos (by rw[hfr];simp[l1,l2])] at e
    simp at e
   obtain⟨rfl,rfl⟩:=q5 hnF
   have hfr':w'.frozen? a'=false:=by unfold World.frozen?;rw[q2];simp
   have hfr0:w.frozen? a=false:=by rw[hfr];simp
   rw[hfr0] at e
   simp only[Bool.false_eq_true,if_false] at e
   obtain⟨ρ1,x',w1',new,r1,r2,r3,r4,r5⟩:=ih (w.setCell a v) (w'.setCell a' v') _ (es'.push ⟨.cell a',true,Mode.plain==.atomic⟩) (hw.set hA hv) x w1 es1 e
   refine⟨ρ1,x',w1',#[⟨.cell a',true,Mode.plain==.atomic⟩]++new,?_,r2,r3,?_,fun e he=>?_⟩
   ·rw[st v' a' k' w' es' hva'.1 hva'.2,h2]
    dsimp only
    rw[hfr']
    simp only[Bool.false_eq_true,if_false,r1]
    rw[<- Array.append_assoc];rfl
   ·have s0:(w.setCell a v).heap.size=w.heap.size:=by simp[World.setCell]
    have s1:(w'.setCell a' v').heap.size=w'.heap.size:=by simp[World.setCell]
    refine⟨r4.le,by rw[<- s0];exact r4.size,by rw[<- s1];exact r4.size',r4.tape,r4.os,r4.output,fun b hb hf=>?_,fun c d q=>?_,fun e q=>r4.same (by rw[s0,s1];exact e) q⟩
    ·refine(r4.old b (by rw[s1];exact hb) hf).trans ?_
     rw[heap_setCell,if_neg fun e=>hnF (by rw[<- e];exact hf _ (by rw[e];exact hA.block))]
    ·have:=r4.new c d q
     rwa [s0,s1] at this
   ·rcases Array.mem_append.1 he with he|he
    ·simp only[List.mem_toArray,List.mem_singleton] at he
     subst he
     exact .inl ⟨a',_,rfl,r4.le _ _ hA.block,rfl,fun _=>hnF⟩
    ·exact r5 e he
 | @new ρ cs cs' t k k' hc _ ih =>
  intro w w' es es' hw x w1 es1 e
  simp only[Sem.runT] at e
  obtain⟨ρ1,x',w1',new,r1,r2,r3,r4,r5⟩:=ih w.heap.size w'.heap.size hw.gsize _ _ _ es' (hw.push (o:=.cells cs t) (o':=.cells cs' t) hw.lt (.inl ⟨_,_,_,rfl⟩) fun b hf=>⟨rfl,hc,fun q=>(hf q).elim,fun _=>⟨rfl,rfl⟩⟩) x w1 es1 e
  have sz:∀W:World,∀o,({ W with heap:=W.heap.push o }:World).heap.size=W.heap.size+1:=fun W o=>by simp
  refine⟨ρ1,x',w1',new,by simp only[Sem.runT,r1],r2,r3,⟨Ren.le_trans (Ren.le_ext _ _ _) r4.le,?_,?_,r4.tape,r4.os,r4.output,fun b hb hf=>?_,fun c d q=>?_,fun e q=>r4.same (by rw[sz,sz,e]) fun a b h=>h.elim (q a b) fun h=>by rw[h.1,h.2,e]⟩,r5⟩
  ·have:=r4.size;rw[sz] at this;omega
  ·have:=r4.size';rw[sz] at this;omega
  ·refine(r4.old b (by rw[sz];omega) fun c q=>?_).trans ?_
   ·rcases q with q|⟨_,q⟩
    ·exact hf c q
    ·omega
   ·simp only[Array.getElem?_push];rw[if_neg (by omega)]
  ·rcases r4.new c d q with(q|⟨rfl,rfl⟩) | ⟨q1,q2⟩
   ·exact .inl q
   ·exact .inr ⟨Nat.le_refl _,Nat.le_refl _⟩
   ·rw[sz] at q1 q2;exact .inr ⟨by omega,by omega⟩
 | @number ρ a a' l k k' hc _ ih =>
  intro w w' es es' hw x w1 es1 e
  simp only[Sem.runT] at e
  obtain⟨ρ1,x',w1',new,r1,r2,r3,r4,r5⟩:=ih w.heap.size w'.heap.size hw.gsize _ _ _ es' (hw.push (o:=.number a l) (o':=.number a' l) hw.lt (.inr ⟨_,_,rfl⟩) fun b _=>⟨rfl,hc⟩) x w1 es1 e
  have sz:∀W:World,∀o,({ W with heap:=W.heap.push o }:World).heap.size=W.heap.size+1:=fun W o=>by simp
  refine⟨ρ1,x',w1',new,by simp only[Sem.runT,r1],r2,r3,⟨Ren.le_trans (Ren.le_ext _ _ _) r4.le,?_,?_,r4.tape,r4.os,r4.output,fun b hb hf=>?_,fun c d q=>?_,fun e q=>r4.same (by rw[sz,sz,e]) fun a b h=>h.elim (q a b) fun h=>by rw[h.1,h.2,e]⟩,r5⟩
  ·have:=r4.size;rw[sz] at this;omega
  ·have:=r4.size';rw[sz] at this;omega
  ·refine(r4.old b (by rw[sz];omega) fun c q=>?_).trans ?_
   ·rcases q with q|⟨_,q⟩
    ·exact hf c q
    ·omega
   ·simp only[Array.getElem?_push];rw[if_neg (by omega)]
  ·rcases r4.new c d q with(q|⟨rfl,rfl⟩) | ⟨q1,q2⟩
   ·exact .inl q
   ·exact .inr ⟨Nat.le_refl _,Nat.le_refl _⟩
   ·rw[sz] at q1 q2;exact .inr ⟨by omega,by omega⟩
 | @getObj ρ r r' k k' hr _ ih =>
  intro w w' es es' hw x w1 es1 e
  obtain⟨o,o',q1,q2,q3⟩:=hw.block _ _ hr
  simp only[Sem.runT,q1] at e
  cases o<;>cases o'<;>first|exact q3.elim | (simp at e;done) | skip
  rename_i a l a' l'
  obtain⟨rfl,ha⟩:=q3
  dsimp only at e
  obtain⟨ρ1,x',w1',new,r1,r2,r3,r4,r5⟩:=ih a a' l ha w w' _ (es'.push ⟨.obj r',false,false⟩) hw x w1 es1 e
  refine⟨ρ1,x',w1',#[⟨.obj r',false,false⟩]++new,?_,r2,r3,r4,fun e he=>?_⟩
  ·simp only[Sem.runT,q2]
   rw[show Obj.isChan (.number a' l)=false from rfl,r1,<- Array.append_assoc];rfl
  ·rcases Array.mem_append.1 he with he|he
   ·simp only[List.mem_toArray,List.mem_singleton] at he
    subst he
    exact .inr (.inr ⟨r',_,rfl,r4.le _ _ hr,rfl,rfl⟩)
   ·exact r5 e he
 | @shape ρ r r' k k' hr _ ih =>
  intro w w' es es' hw x w1 es1 e
  simp only[Sem.runT] at e
  obtain⟨ρ1,x',w1',new,r1,r2⟩:=ih _ w w' es es' hw x w1 es1 e
  exact⟨ρ1,x',w1',new,by simp only[Sem.runT,<- hw.shape hr,r1],r2⟩
 | @choose ρ q k k' _ ih =>
  intro w w' es es' hw x w1 es1 e
  simp only[Sem.runT] at e
  by_cases hq:q.forced=true
  ·rw[if_pos hq] at e
   obtain⟨ρ1,x',w1',new,r1,r2⟩:=ih _ w w' es es' hw x w1 es1 e
   exact⟨ρ1,x',w1',new,by simp only[Sem.runT,if_pos hq,r1],r2⟩
  ·rw[if_neg hq] at e
   obtain⟨ρ1,x',w1',new,r1,r2,r3,r4,r5⟩:=ih _ _ _ es es' hw.draw x w1 es1 e
   refine⟨ρ1,x',w1',new,?_,r2,r3,⟨r4.le,r4.size,r4.size',r4.tape,r4.os,r4.output,r4.old,r4.new,r4.same⟩,r5⟩
   simp only[Sem.runT,if_neg hq]
   rw[hw.tape,hw.drawn] at r1
   exact r1
 | @program ρ k k' _ ih =>
  intro w w' es es' hw x w1 es1 e
  simp only[Sem.runT] at e
  obtain⟨ρ1,x',w1',new,r1,r2⟩:=ih w w' es es' hw x w1 es1 e
  exact⟨ρ1,x',w1',new,by simp only[Sem.runT,r1],r2⟩
 | @mark ρ m k k' hm _ ih =>
  intro w w' es es' hw x w1 es1 e
  simp only[Sem.runT] at e
  obtain⟨ρ1,x',w1',new,r1,r2,r3,r4,r5⟩:=ih w w' _ (es'.push ⟨.mark m,false,true⟩) hw x w1 es1 e
  refine⟨ρ1,x',w1',#[⟨.mark m,false,true⟩]++new,?_,r2,r3,r4,fun e he=>?_⟩
  ·simp only[Sem.runT,r1]
   rw[<- Array.append_assoc];rfl
  ·rcases Array.mem_append.1 he with he|he
   ·simp only[List.mem_toArray,List.mem_singleton] at he
    subst he
    exact .inr (.inl ⟨m,rfl,hm⟩)
   ·exact r5 e he
 | halt _ =>
  intro w w' es es' hw x w1 es1 e
  simp[Sem.runT] at e
 | loadVoid h =>
  intro w w' es es' hw x w1 es1 e
  obtain⟨_,e2⟩:=void_load p hw h _ es
  rw[e2] at e
  simp at e
 | storeVoid h =>
  intro w w' es es' hw x w1 es1 e
  obtain⟨_,_,e2⟩:=void_store p hw h _ _ es
  rw[e2] at e
  simp at e
 | dead h =>
  intro w w' es es' hw x w1 es1 e
  obtain⟨h',w2,es2,e2,_⟩:=h w es
  rw[e2] at e
  simp at e
end Go.Proofs.YtbicafgmfgdckaaDoor
namespace Go.Proofs.YtbicafgmfgdckaaDoor
open Go

section
variable {P:Program} {ρ:Ren}
theorem SR.bind' {α β γ δ:Type} {X:Ren->α->β->Prop} {Y:Ren->γ->δ->Prop} {s:Sem α} {s':Sem β} {f:α->Sem γ} {f':β->Sem δ} (h:SR P X ρ s s')
  (hf:∀σ a b,ρ.le σ->X σ a b->SR P Y σ (f a) (f' b)):SR P Y ρ (s >>= f) (s' >>= f'):=h.bind hf
theorem SR.pureBind {α β γ δ:Type} {Y:Ren->γ->δ->Prop} {a:α} {b:β} {f:α->Sem γ} {f':β->Sem δ} (h:SR P Y ρ (f a) (f' b)):SR P Y ρ ((Pure.pure a:Sem α) >>= f) ((Pure.pure b:Sem β) >>= f'):=h
def Dead (P:Program) {α:Type} (s:Sem α):Prop:=∀w es,∃h' w' es',s.runT P w es=(.halt h' w',es')/\dull h'=true
theorem Dead.halt {α:Type} (h:Halt) (hd:dull h=true:=by rfl):Dead P (.halt h:Sem α):=fun w es=>⟨h,w,es,rfl,hd⟩
def Tame (P:Program) {α:Type} (s:Sem α):Prop:=∀w es h' w' es',s.runT P w es=(.halt h' w',es')->dull h'=true
theorem Dead.left {α β:Type} {s:Sem α} {f:α->Sem β} (h:Dead P s):Dead P (s >>= f):=fun w es=>by
 show ∃h' w' es',(s.bind f).runT P w es=_/\_
 rw[runT_bind]
 obtain⟨h',w',es',e,hd⟩:=h w es
 rw[e]
 exact⟨h',w',es',rfl,hd⟩
theorem Dead.bind {α β:Type} {s:Sem α} {f:α->Sem β} (t:Tame P s) (h:∀a,Dead P (f a)):Dead P (s >>= f):=fun w es=>by
 show ∃h' w' es',(s.bind f).runT P w es=_/\_
 rw[runT_bind]
 match e:s.runT P w es with
 |(.ok a w1,es1)=>exact h a w1 es1
 |(.halt h' w1,es1)=>exact⟨h',w1,es1,rfl,t w es h' w1 es1 e⟩
theorem Tame.pure {α:Type} (a:α):Tame P (Pure.pure a:Sem α):=fun w es h' w' es' e=>by
 have e2:(Sem.pure a).runT P w es=_:=e
 simp[Sem.runT] at e2
theorem Tame.choose (q:Question):Tame P (Go.choose q):=fun w es h' w' es' e=>by
 unfold Go.choose at e
 simp only[Sem.runT] at e
 split at e<;>simp at e
theorem Tame.program:Tame P Go.program:=fun w es h' w' es' e=>by
 unfold Go.program at e
 simp[Sem.runT] at e
theorem Tame.mark (m:Mark):Tame P (Go.mark m):=fun w es h' w' es' e=>by
 unfold Go.mark at e
 simp[Sem.runT] at e
theorem Tame.newObj (o:Obj):Tame P (Go.newObj o):=fun w es h' w' es' e=>by
 unfold Go.newObj at e
 simp[Sem.runT] at e
theorem Tame.shape (r:Nat):Tame P (Go.shape r):=fun w es h' w' es' e=>by
 unfold Go.shape at e
 simp[Sem.runT] at e
theorem Tame.frozen (a:Addr):Tame P (Go.frozen a):=fun w es h' w' es' e=>by
 unfold Go.frozen at e
 simp[Sem.runT] at e
theorem Tame.stuck {α:Type} (why:String):Tame P (Go.stuck why:Sem α):=fun w es h' w' es' e=>by
 unfold Go.stuck at e
 simp only[Sem.runT,Prod.mk.injEq,Result.halt.injEq] at e
 rw[<- e.1.1];rfl
theorem Tame.bind {α β:Type} {s:Sem α} {f:α->Sem β} (t:Tame P s) (h:∀a,Tame P (f a)):Tame P (s >>= f):=fun w es h' w' es' e=>by
 have e2:(s.bind f).runT P w es=_:=e
 rw[runT_bind] at e2
 match e3:s.runT P w es with
 |(.ok a w1,es1)=>rw[e3] at e2;exact h a w1 es1 h' w' es' e2
 |(.halt h2 w1,es1) =>
  rw[e3] at e2
  simp only[Prod.mk.injEq,Result.halt.injEq] at e2
  rw[<- e2.1.1]
  exact t w es h2 w1 es1 e3
theorem Dead.ite {α:Type} {c:Prop} [Decidable c] {s t:Sem α} (h:Dead P s) (k:Dead P t):Dead P (if c then s else t):=by
 split
 ·exact h
 ·exact k
theorem tame_elemOf (t:TypeId):Tame P (elemOf t):=by
 unfold elemOf underlying
 refine .bind (.bind .program fun p=>?_) fun d=>?_
 ·cases p.underlying t with
  | none=>exact .stuck _
  | some d=>exact .pure d
 ·cases d<;>first|exact .pure _|exact .stuck _
theorem dead_runtimePanic {α:Type} (e:RuntimeError):Dead P (runtimePanic e:Sem α):=by
 unfold runtimePanic
 refine .bind .program fun p=>?_
 cases e<;>first
  | exact .halt _
  | exact .bind (tame_elemOf _) fun _=>.bind (.bind (.newObj _) fun _=>.pure _) fun _=>.halt _
theorem dead_bounds {α:Type} (k:IntKind) (x y:Int) (c:BoundsCode):Dead P (boundsPanic k x y c:Sem α):=by
 unfold boundsPanic
 dsimp only
 split<;>exact .bind (by first|exact .bind (.choose _) fun _=>.pure _|exact .pure _) fun _=>dead_runtimePanic _
theorem SR.of_dead {α β:Type} {X:Ren->α->β->Prop} {s:Sem α} {s':Sem β} (h:Dead P s):SR P X ρ s s':=.dead h
abbrev Same {α:Type}:Ren->α->α->Prop:=fun _ a b=>a=b
theorem sr_underlying (t:TypeId):SR P Same ρ (underlying t) (underlying t):=by
 refine SR.program ?_
 show SR P Same ρ (match P.underlying t with|some d=>pure d|none=>stuck "no such type") (match P.underlying t with|some d=>pure d|none=>stuck "no such type")
 cases P.underlying t with
 | none=>exact .halt
 | some d=>exact SR.pure (X:=Same) (rfl:d=d)
theorem sr_typeInfo (t:TypeId):SR P Same ρ (typeInfo t) (typeInfo t):=by
 refine SR.program ?_
 show SR P Same ρ (match P.info? t with|some d=>pure d|none=>stuck "no such type") (match P.info? t with|some d=>pure d|none=>stuck "no such type")
 cases P.info? t with
 | none=>exact .halt
 | some d=>exact SR.pure (X:=Same) (rfl:d=d)
theorem sr_sizeOf (t:TypeId):SR P Same ρ (sizeOf t) (sizeOf t):=(sr_typeInfo t).bind' fun _ _ _ _ e=>by subst e;exact .pure rfl
theorem sr_isAgg (t:TypeId):SR P Same ρ (isAgg t) (isAgg t):=(sr_underlying t).bind' fun _ d _ _ e=>by
 subst e
 cases d<;>exact .pure rfl
theorem sr_askRoom (n:Nat):SR P Same ρ (askRoom n) (askRoom n):=by
 unfold askRoom
 split
 ·exact .mark rfl (.pure rfl)
 ·exact .pure rfl
def pureV:Value->Bool
 | .bool _ | .int _ _ | .pointer none | .slice none _ _ | .nilFunc | .nilIface=>true
 | .func (.func _) first captured=>first.isEmpty&&captured.isEmpty
 | _=>false
def pureC:Value->Bool
 | .agg cs=>cs.all pureV
 | v=>pureV v
theorem vr_pureV {v:Value} (h:pureV v=true):VR ρ v v:=by
 unfold pureV at h
 split at h<;>first
  | exact .bool _
  | exact .int _ _
  | exact .pnil
  | exact .snil _ _
  | exact .nilFunc
  | exact .nilIface _ rfl
  | cases h
  | skip
 rename_i f first captured
 rw[Bool.and_eq_true,Array.isEmpty_iff,Array.isEmpty_iff] at h
 obtain⟨rfl,rfl⟩:=h
 exact .func f rfl fun i h=>by simp at h
theorem vsr_pure {cs:Array Value} (h:cs.all pureV=true):VsR ρ cs cs:=⟨rfl,fun i h1 _=>vr_pureV (by rw[Array.all_eq_true] at h;exact h i h1)⟩
theorem vr_pureC {v:Value} (h:pureC v=true):VR ρ v v:=by
 unfold pureC at h
 split at h
 ·have:=vsr_pure (ρ:=ρ) h
  exact .agg this.size this.at_
 ·exact vr_pureV h
def okTy (P:Program) (t:TypeId):Bool:=match P.info? t with
 | some i=>(match i.zero with|some z=>pureC z|none=>true)
 | none=>true
theorem sr_zeroValue {t:TypeId} (h:okTy P t=true):SR P VR ρ (zeroValue t) (zeroValue t):=by
 unfold okTy at h
 refine SR.program ?_
 show SR P VR ρ ((match P.info? t with|some d=>pure d|none=>stuck "no such type":Sem TypeInfo).bind _) ((match P.info? t with|some d=>pure d|none=>stuck "no such type":Sem TypeInfo).bind _)
 cases hi:P.info? t with
 | none=>exact .halt
 | some i =>
  rw[hi] at h
  dsimp only at h
  show SR P VR ρ (match i.zero with|some v=>pure v|none=>unsupported _) (match i.zero with|some v=>pure v|none=>unsupported _)
  cases hz:i.zero with
  | none=>exact .halt
  | some z =>
   rw[hz] at h
   exact .pure (vr_pureC h)
theorem sr_asIntOf {ρ0:Ren} {v v':Value} (h:VR ρ0 v v'):SR P Same ρ (asIntOf v) (asIntOf v'):=by
 cases h<;>first|exact .halt|exact .pure rfl
theorem sr_asInt {ρ0:Ren} {v v':Value} (h:VR ρ0 v v'):SR P Same ρ (asInt v) (asInt v'):=(sr_asIntOf h).bind' fun _ _ _ _ e=>by subst e;exact .pure rfl
theorem sr_asBool {ρ0:Ren} {v v':Value} (h:VR ρ0 v v'):SR P Same ρ (asBool v) (asBool v'):=by
 cases h<;>first|exact .halt|exact .pure rfl
theorem sr_sureAddr {v v':Value} (h:VR ρ v v'):SR P AR ρ (Instr.sureAddr v) (Instr.sureAddr v'):=by
 cases h<;>first|exact .halt | (rename_i q;exact .pure q)
theorem sr_load {a a':Addr} (h:AR ρ a a'):SR P VR ρ (load a) (load a'):=.load h fun _ _ hv=>.pure hv
theorem sr_loadCellsFrom:∀(n i:Nat) {σ:Ren} {a a':Addr} {cs cs':Array Value},AR σ a a'->VsR σ cs cs'->SR P VsR σ (loadCellsFrom a i n cs) (loadCellsFrom a' i n cs')
 | 0,_,_,_,_,_,_,_,hc=>.pure hc
 | n+1,i,_,_,_,_,_,h,hc=>(sr_load (h.add i)).bind' fun _ _ _ hl hv=>sr_loadCellsFrom n (i+1) (h.mono hl) ((hc.mono hl).push hv)
theorem sr_loadCells {a a':Addr} (h:AR ρ a a') (n:Nat):SR P VsR ρ (loadCells a n) (loadCells a' n):=sr_loadCellsFrom n 0 h .empty
theorem sr_loadVar (t:TypeId) {a a':Addr} (h:AR ρ a a'):SR P VR ρ (loadVar t a) (loadVar t a'):=by
 unfold loadVar
 refine(sr_isAgg t).bind' fun σ b _ hl e=>?_
 subst e
 cases b with
 | true=>exact(sr_sizeOf t).bind' fun _ n _ hl2 e=>by subst e;exact(sr_loadCells ((h.mono hl).mono hl2) n).bind' fun _ _ _ _ hc=>.pure (.agg hc.size hc.at_)
 | false=>exact sr_load (h.mono hl)
inductive LsR (ρ:Ren):List Value->List Value->Prop
 | nil:LsR ρ [] []
 | cons {v v':Value} {l l':List Value} (h:VR ρ v v') (k:LsR ρ l l'):LsR ρ (v::l) (v'::l')
theorem lsr_of:∀ {l l':List Value},l.length=l'.length->(∀i (h1:i < l.length) (h2:i < l'.length),VR ρ l[i] l'[i])->LsR ρ l l'
 | [],[],_,_=>.nil
 | [],_::_,h,_=>by simp at h
 | _::_,[],h,_=>by simp at h
 | v::l,v'::l',h,k=>.cons (k 0 (by simp) (by simp)) (lsr_of (by simpa using h) fun i h1 h2=>k (i+1) (by simpa using h1) (by simpa using h2))
theorem VsR.list {cs cs':Array Value} (h:VsR ρ cs cs'):LsR ρ cs.toList cs'.toList:=lsr_of (by simpa using h.size) fun i h1 h2=>by
 simpa using h.at_ i (by simpa using h1) (by simpa using h2)
theorem sr_storeCells {a a':Addr} (h:AR ρ a a') {l l':List Value} (k:LsR ρ l l'):∀i,SR P Same ρ (storeCells a l i) (storeCells a' l' i):=by
 induction k with
 | nil=>intro i;unfold storeCells;exact .pure rfl
 | cons hv _ ih =>
  intro i
  unfold storeCells
  exact .store (h.add i) hv (ih (i+1))
theorem sr_storeVar (t:TypeId) {a a':Addr} (h:AR ρ a a') {v v':Value} (hv:VR ρ v v'):SR P Same ρ (storeVar t a v) (storeVar t a' v'):=by
 unfold storeVar
 refine(sr_sizeOf t).bind' fun σ n _ hl e=>?_
 subst e
 have hs:=hv.cells.size
 by_cases hq:v.cells.size≠n
 ·simp only[if_pos hq]
  exact .of_dead (.left (.halt _))
 ·simp only[if_neg hq,if_neg (show ¬v'.cells.size≠n by rw[<- hs];exact hq)]
  exact sr_storeCells (h.mono hl) (hv.cells.list |> fun q=>by
   have:∀ {l l':List Value},LsR ρ l l'->LsR σ l l':=fun q=>by
    induction q with
    | nil=>exact .nil
    | cons h _ ih=>exact .cons (h.mono hl) ih
   exact this q) 0
theorem sr_newRow (t:TypeId) {cs cs':Array Value} (h:VsR ρ cs cs'):SR P AR ρ (newRow t cs) (newRow t cs') :=
 SR.new h fun _ _ _=>.pure ⟨.inr ⟨rfl,rfl⟩,rfl,rfl⟩
end
end Go.Proofs.YtbicafgmfgdckaaDoor
