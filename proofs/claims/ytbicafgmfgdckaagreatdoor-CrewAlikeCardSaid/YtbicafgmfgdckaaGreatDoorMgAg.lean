/- A piece. -/
import Derived.RowKit
set_option maxRecDepth 100000
set_option maxHeartbeats 16000000
set_option linter.all false
namespace Go.Proofs.YtbicafgmfgdckaaGreatDoor
open Go
abbrev Bn:=Nat->Nat->Prop
def Bn.le (ρ σ:Bn):Prop:=∀a b,ρ a b->σ a b
def Bn.ext (ρ:Bn) (r r':Nat):Bn:=fun a b=>ρ a b\/(a=r/\b=r')
theorem Bn.le_refl (ρ:Bn):ρ.le ρ:=fun _ _ h=>h
theorem Bn.le_trans {ρ σ τ:Bn} (h:ρ.le σ) (k:σ.le τ):ρ.le τ:=fun a b q=>k a b (h a b q)
theorem Bn.le_ext (ρ:Bn) (r r':Nat):ρ.le (ρ.ext r r'):=fun _ _ h=>.inl h
structure AR (ρ:Bn) (a a':Addr):Prop where
 block:ρ a.block a'.block
 off:a.off=a'.off
 spot:a.spot=a'.spot
def Atu:Value->Bool
 | .agg _ | .tuple _ | .bool _=>false
 | _=>true
inductive VR (ρ:Bn):Value->Value->Prop
 | bool (b:Bool):VR ρ (.bool b) (.bool b)
 | int (k:IntKind) (n:Int):VR ρ (.int k n) (.int k n)
 | pnil:VR ρ (.pointer none) (.pointer none)
 | ptr {a a':Addr} (h:AR ρ a a'):VR ρ (.pointer (some a)) (.pointer (some a'))
 | snil (l c:Nat):VR ρ (.slice none l c) (.slice none l c)
 | slice {a a':Addr} (l c:Nat) (h:AR ρ a a'):VR ρ (.slice (some a) l c) (.slice (some a') l c)
 | slz {a a':Addr} (h:a.spot.isSome=true):VR ρ (.slice (some a) 0 0) (.slice (some a') 0 0)
 | func (f:FuncId) {cs cs':Array Value} (hs:cs.size=cs'.size) (h:∀i (h1:i < cs.size) (h2:i < cs'.size),VR ρ cs[i] cs'[i]):VR ρ (.func (.func f) #[] cs) (.func (.func f) #[] cs')
 | nilFunc:VR ρ .nilFunc .nilFunc
 | nilIface (v:Value) (h:Atu v=true):VR ρ .nilIface v
 | agg {cs cs':Array Value} (hs:cs.size=cs'.size) (h:∀i (h1:i < cs.size) (h2:i < cs'.size),VR ρ cs[i] cs'[i]):VR ρ (.agg cs) (.agg cs')
 | tuple {cs cs':Array Value} (hs:cs.size=cs'.size) (h:∀i (h1:i < cs.size) (h2:i < cs'.size),VR ρ cs[i] cs'[i]):VR ρ (.tuple cs) (.tuple cs')
structure Cx (ρ:Bn) (cs cs':Array Value):Prop where
 size:cs.size=cs'.size
 at_:∀i (h1:i < cs.size) (h2:i < cs'.size),VR ρ cs[i] cs'[i]
section
variable {ρ σ:Bn}
theorem AR.mono (h:ρ.le σ) {a a':Addr} (k:AR ρ a a'):AR σ a a':=⟨h _ _ k.block,k.off,k.spot⟩
theorem AR.add {a a':Addr} (k:AR ρ a a') (n:Nat):AR ρ (a.add n) (a'.add n):=by
 unfold Addr.add;split
 ·exact k
 ·exact⟨k.block,by show a.off+n=a'.off+n;rw[k.off],rfl⟩
theorem VR.mono (h:ρ.le σ) {v v':Value} (k:VR ρ v v'):VR σ v v':=by
 induction k with
 | bool b=>exact .bool b
 | int k n=>exact .int k n
 | pnil=>exact .pnil
 | ptr q=>exact .ptr (q.mono h)
 | snil l c=>exact .snil l c
 | slice l c q=>exact .slice l c (q.mono h)
 | slz q=>exact .slz q
 | func f hs _ ih=>exact .func f hs ih
 | nilFunc=>exact .nilFunc
 | nilIface v q=>exact .nilIface v q
 | agg hs _ ih=>exact .agg hs ih
 | tuple hs _ ih=>exact .tuple hs ih
theorem Cx.mono (h:ρ.le σ) {cs cs':Array Value} (k:Cx ρ cs cs'):Cx σ cs cs':=⟨k.size,fun i h1 h2=>(k.at_ i h1 h2).mono h⟩
theorem Cx.empty:Cx ρ #[] #[]:=⟨rfl,fun i h=>by simp at h⟩
theorem Cx.push {cs cs':Array Value} (k:Cx ρ cs cs') {v v':Value} (h:VR ρ v v'):Cx ρ (cs.push v) (cs'.push v'):=by
 refine⟨by simp[k.size],fun i h1 h2=>?_⟩;rw[Array.size_push] at h1 h2;rw[Array.getElem_push,Array.getElem_push];have e:=k.size;by_cases hi:i < cs.size
 ·rw[dif_pos hi,dif_pos (by omega)];exact k.at_ i hi (by omega)
 ·rw[dif_neg hi,dif_neg (by omega)];exact h
theorem Cx.append {cs cs' ds ds':Array Value} (k:Cx ρ cs cs') (q:Cx ρ ds ds'):Cx ρ (cs++ds) (cs'++ds'):=by
 have e:=k.size;have e2:=q.size;refine⟨by simp[e,e2],fun i h1 h2=>?_⟩;rw[Array.size_append] at h1 h2;rw[Array.getElem_append,Array.getElem_append];by_cases hi:i < cs.size
 ·rw[dif_pos hi,dif_pos (by omega)];exact k.at_ i hi (by omega)
 ·rw[dif_neg hi,dif_neg (by omega)];have:i - cs'.size=i - cs.size:=by omega
  simp only[this];exact q.at_ _ (by omega) (by omega)
theorem Cx.get {cs cs':Array Value} (k:Cx ρ cs cs') (i:Nat):(cs[i]?=none/\cs'[i]?=none)\/∃v v',cs[i]?=some v/\cs'[i]?=some v'/\VR ρ v v':=by
 have e:=k.size;by_cases h:i < cs.size
 ·exact .inr ⟨cs[i],cs'[i],Array.getElem?_eq_getElem h,Array.getElem?_eq_getElem (by omega),k.at_ i h (by omega)⟩
 ·exact .inl ⟨Array.getElem?_eq_none (by omega),Array.getElem?_eq_none (by omega)⟩
theorem Cx.set {cs cs':Array Value} (k:Cx ρ cs cs') (i:Nat) {v v':Value} (h:VR ρ v v'):Cx ρ (cs.setIfInBounds i v) (cs'.setIfInBounds i v'):=by
 refine⟨by simp[k.size],fun j h1 h2=>?_⟩;rw[Array.size_setIfInBounds] at h1 h2;rw[Array.getElem_setIfInBounds h1,Array.getElem_setIfInBounds h2];split
 ·exact h
 ·exact k.at_ j h1 h2
theorem VR.cells {v v':Value} (k:VR ρ v v'):Cx ρ v.cells v'.cells:=by
 have one:∀ {u u':Value},VR ρ u u'->Cx ρ #[u] #[u']:=fun h=>Cx.empty.push h;cases k with
 | agg hs h=>exact⟨hs,h⟩
 | bool b=>exact one (.bool b)
 | int k n=>exact one (.int k n)
 | pnil=>exact one .pnil
 | ptr q=>exact one (.ptr q)
 | snil l c=>exact one (.snil l c)
 | slice l c q=>exact one (.slice l c q)
 | slz q=>exact one (.slz q)
 | func f hs h=>exact one (.func f hs h)
 | nilFunc=>exact one .nilFunc
 | nilIface _ q=>cases v'<;>first|exact one (.nilIface _ rfl) | (cases q;done)
 | tuple hs h=>exact one (.tuple hs h)
end
def _root_.Go.Mark.mute':Mark->Bool
 | .extern _ | .noRoom=>true
 | _=>false
def Aef:Halt->Bool
 | .panic _ | .stuck _=>true
 | .unsupported (.initOrder _)=>false
 | .unsupported _=>true
 | _=>false
inductive SR (P:Program) {α β:Type} (X:Bn->α->β->Prop):Bn->Sem α->Sem β->Prop
 | pure {ρ:Bn} {a:α} {b:β} (h:X ρ a b):SR P X ρ (.pure a) (.pure b)
 | load {ρ:Bn} {a a':Addr} {k:Value->Sem α} {k':Value->Sem β} (h:AR ρ a a') (hk:∀v v',VR ρ v v'->SR P X ρ (k v) (k' v')):SR P X ρ (.load .plain a k) (.load .plain a' k')
 | store {ρ:Bn} {a a':Addr} {v v':Value} {k:Sem α} {k':Sem β} (h:AR ρ a a') (hv:VR ρ v v') (hk:SR P X ρ k k'):SR P X ρ (.store .plain a v k) (.store .plain a' v' k')
 | new {ρ:Bn} {cs cs':Array Value} {t:TypeId} {k:Nat->Sem α} {k':Nat->Sem β} (h:Cx ρ cs cs') (hk:∀r r',P.globals.size<=r->SR P X (ρ.ext r r') (k r) (k' r')):SR P X ρ (.new (.cells cs t) k) (.new (.cells cs' t) k')
 | number {ρ:Bn} {a a':Addr} {l:Bool} {k:Nat->Sem α} {k':Nat->Sem β} (h:AR ρ a a') (hk:∀r r',P.globals.size<=r->SR P X (ρ.ext r r') (k r) (k' r')):SR P X ρ (.new (.number a l) k) (.new (.number a' l) k')
 | getObj {ρ:Bn} {r r':Nat} {k:Obj->Sem α} {k':Obj->Sem β} (h:ρ r r') (hk:∀a a' l,AR ρ a a'->SR P X ρ (k (.number a l)) (k' (.number a' l))):SR P X ρ (.getObj r k) (.getObj r' k')
 | shape {ρ:Bn} {r r':Nat} {k:Option (TypeId × Nat)->Sem α} {k':Option (TypeId × Nat)->Sem β} (h:ρ r r') (hk:∀s,SR P X ρ (k s) (k' s)):SR P X ρ (.shape r k) (.shape r' k')
 | choose {ρ:Bn} {q:Question} {k:Nat->Sem α} {k':Nat->Sem β} (hk:∀n,SR P X ρ (k n) (k' n)):SR P X ρ (.choose q k) (.choose q k')
 | program {ρ:Bn} {k:Program->Sem α} {k':Program->Sem β} (hk:SR P X ρ (k P) (k' P)):SR P X ρ (.program k) (.program k')
 | mark {ρ:Bn} {m:Mark} {k:Sem α} {k':Sem β} (hm:m.mute'=true) (hk:SR P X ρ k k'):SR P X ρ (.mark m k) (.mark m k')
 | halt {ρ:Bn} {h:Halt} {s':Sem β} (hd:Aef h=true:=by rfl):SR P X ρ (.halt h) s'
 | loadVoid {ρ:Bn} {a:Addr} {k:Value->Sem α} {s':Sem β} (h:a.spot.isSome=true):SR P X ρ (.load .plain a k) s'
 | storeVoid {ρ:Bn} {a:Addr} {v:Value} {k:Sem α} {s':Sem β} (h:a.spot.isSome=true):SR P X ρ (.store .plain a v k) s'
 | dead {ρ:Bn} {s:Sem α} {s':Sem β} (h:∀w es,∃h' w' es',s.runT P w es=(.halt h' w',es')/\Aef h'=true):SR P X ρ s s'
theorem Nk {α β:Type} (p:Program) (s:Sem α) (f:α->Sem β):∀(w:World) (es:Array Event),(s.bind f).runT p w es=match s.runT p w es with
  |(.ok a w',es')=>(f a).runT p w' es'
  |(.halt h w',es')=>(.halt h w',es'):=by
 induction s with
 | pure a=>intro w es;rfl
 | load m a k ih =>
  intro w es;simp only[Sem.bind,Sem.runT];split
  ·exact ih _ _ _
  ·split
   ·exact ih _ _ _
   ·rfl
 | store m a v k ih =>
  intro w es;cases v<;>simp only[Sem.bind,Sem.runT]<;>(try rfl)<;>(split<;>(try split)<;>first|exact ih _ _|rfl)
 | new o k ih=>intro w es;exact ih _ _ _
 | shape r k ih=>intro w es;exact ih _ _ _
 | freeze a n k ih=>intro w es;exact ih _ _
 | frozen a k ih=>intro w es;exact ih _ _ _
 | getObj r k ih =>
  intro w es;simp only[Sem.bind,Sem.runT];split<;>first|rfl|exact ih _ _ _
 | setObj r o k ih =>
  intro w es;simp only[Sem.bind,Sem.runT];split<;>first|rfl|exact ih _ _
 | choose q k ih =>
  intro w es;simp only[Sem.bind,Sem.runT];split<;>exact ih _ _ _
 | sys c k ih=>intro w es;exact ih _ _ _
 | program k ih=>intro w es;exact ih _ _ _
 | mark m k ih=>intro w es;exact ih _ _
 | halt h=>intro w es;rfl
theorem SR.bind {P:Program} {α β I δ:Type} {X:Bn->α->β->Prop} {Y:Bn->I->δ->Prop} {ρ:Bn} {s:Sem α} {s':Sem β} {f:α->Sem I} {f':β->Sem δ} (h:SR P X ρ s s')
  (hf:∀σ a b,ρ.le σ->X σ a b->SR P Y σ (f a) (f' b)):SR P Y ρ (s.bind f) (s'.bind f'):=by
 induction h with
 | pure h=>exact hf _ _ _ (Bn.le_refl _) h
 | load h _ ih=>exact .load h fun v v' hv=>ih v v' hv hf
 | store h hv _ ih=>exact .store h hv (ih hf)
 | new h _ ih=>exact .new h fun r r' hr=>ih r r' hr fun σ a b hl=>hf σ a b (Bn.le_trans (Bn.le_ext _ _ _) hl)
 | number h _ ih=>exact .number h fun r r' hr=>ih r r' hr fun σ a b hl=>hf σ a b (Bn.le_trans (Bn.le_ext _ _ _) hl)
 | getObj h _ ih=>exact .getObj h fun a a' l ha=>ih a a' l ha hf
 | shape h _ ih=>exact .shape h fun s=>ih s hf
 | choose _ ih=>exact .choose fun n=>ih n hf
 | program _ ih=>exact .program (ih hf)
 | mark hm _ ih=>exact .mark hm (ih hf)
 | halt hd=>exact .halt hd
 | loadVoid h=>exact .loadVoid h
 | storeVoid h=>exact .storeVoid h
 | dead h =>
  refine .dead fun w es=>?_;obtain⟨h',w',es',e,hd⟩:=h w es;rw[Nk,e];exact⟨h',w',es',rfl,hd⟩
open Go.RowKit
def Apy (F:Nat->Prop) (ρ:Bn) (b:Nat):Obj->Obj->Prop
 | .cells cs t fr,.cells cs' t' fr'=>t=t'/\Cx ρ cs cs'/\(F b->∀o,o < cs.size->fr.1<=o/\o < fr.2)/\(¬F b->fr=(0,0)/\fr'=(0,0))
 | .number a l,.number a' l'=>l=l'/\AR ρ a a'
 | _,_=>False
structure WR (gs:Nat) (F:Nat->Prop) (ρ:Bn) (w w':World):Prop where
 tape:w.tape=w'.tape
 drawn:w.drawn=w'.drawn
 fn:∀a b c,ρ a b->ρ a c->b=c
 inj:∀a b c,ρ a c->ρ b c->a=b
 low:∀b,F b->b < w'.heap.size
 glob:∀a b,ρ a b->a < gs->a=b
 gsize:gs<=w.heap.size
 plain:∀(b:Nat) (o:Obj),w.heap[b]?=some o->(∃cs t fr,o=.cells cs t fr)\/∃a l,o=.number a l
 block:∀a b,ρ a b->∃o o',w.heap[a]?=some o/\w'.heap[b]?=some o'/\Apy F ρ b o o'
def EvR (F:Nat->Prop) (ρ:Bn) (e:Event):Prop :=
 (∃ad a,e.loc=.cell ad/\ρ a ad.block/\e.sync=false/\(e.write=true->¬F ad.block))\/(∃m,e.loc=.mark m/\m.mute'=true)\/(∃r a,e.loc=.obj r/\ρ a r/\e.write=false/\e.sync=false)
structure Left (F:Nat->Prop) (ρ ρ1:Bn) (w w' w1 w1':World):Prop where
 le:ρ.le ρ1
 size:w.heap.size<=w1.heap.size
 size':w'.heap.size<=w1'.heap.size
 tape:w1'.tape=w'.tape
 os:w1'.os=w'.os
 output:w1'.output=w'.output
 old:∀b,b < w'.heap.size->(∀a,ρ a b->F b)->w1'.heap[b]?=w'.heap[b]?
 new:∀a b,ρ1 a b->ρ a b\/(w.heap.size<=a/\w'.heap.size<=b)
 same:w.heap.size=w'.heap.size->(∀a b,ρ a b->a=b)->w1.heap.size=w1'.heap.size/\∀a b,ρ1 a b->a=b
section
variable {gs:Nat} {F:Nat->Prop} {ρ ρ1 ρ2:Bn} {w w' w1 w1' w2 w2':World}
theorem Left.refl:Left F ρ ρ w w' w w':=⟨Bn.le_refl _,Nat.le_refl _,Nat.le_refl _,rfl,rfl,rfl,fun _ _ _=>rfl,fun _ _ h=>.inl h,fun h k=>⟨h,k⟩⟩
theorem Apy.mono {b:Nat} (h:ρ.le ρ1) {o o':Obj} (k:Apy F ρ b o o'):Apy F ρ1 b o o':=by
 cases o<;>cases o'<;>first|exact k.elim|exact⟨k.1,k.2.1.mono h,k.2.2⟩|exact⟨k.1,k.2.mono h⟩
theorem WR.cell (h:WR gs F ρ w w') {a a':Addr} (k:AR ρ a a'):(w.cell? a=none/\w'.cell? a'=none)\/∃v v',w.cell? a=some v/\w'.cell? a'=some v'/\VR ρ v v':=by
 obtain⟨o,o',h1,h2,h3⟩:=h.block _ _ k.block;unfold World.cell?;rw[h1,h2,<- k.off,<- k.spot];cases o<;>cases o'<;>first|exact h3.elim|exact .inl ⟨rfl,rfl⟩|skip
 dsimp only;split
 ·exact .inl ⟨rfl,rfl⟩
 ·exact h3.2.1.get a.off
theorem WR.shape (h:WR gs F ρ w w') {a b:Nat} (k:ρ a b):w.shape? a=w'.shape? b:=by
 obtain⟨o,o',h1,h2,h3⟩:=h.block _ _ k;unfold World.shape?;rw[h1,h2];cases o<;>cases o'<;>first|exact h3.elim|rfl|skip
 dsimp only;rw[h3.1,h3.2.1.size]
theorem WR.far (h:WR gs F ρ w w') {a a':Addr} (k:AR ρ a a'):(∀o,w.heap[a.block]?=some o->∀x u,o≠.view x u):=by
 obtain⟨o,o',h1,h2,h3⟩:=h.block _ _ k.block;intro q hq x u e;rw[h1] at hq;injection hq with hq;subst hq;subst e;cases o'<;>exact h3
theorem Bg (w:World) (a:Addr) (v:Value) (b:Nat):(w.setCell a v).heap[b]?=if b=a.block then (w.heap[b]?).map (fun o=>match o with
  | .cells c elem frozen=>.cells (if a.spot.isSome then c else c.setIfInBounds a.off v) elem frozen
  | o=>o) else w.heap[b]?:=by
 unfold World.setCell;simp only[Array.getElem?_modify];by_cases e:b=a.block
 ·rw[if_pos e,if_pos e.symm]
  congr 1
 ·rw[if_neg e,if_neg fun q=>e q.symm]
theorem WR.set (h:WR gs F ρ w w') {a a':Addr} (k:AR ρ a a') {v v':Value} (hv:VR ρ v v'):WR gs F ρ (w.setCell a v) (w'.setCell a' v'):=by
 refine⟨h.tape,h.drawn,h.fn,h.inj,fun b hb=>?_,h.glob,by simpa [World.setCell] using h.gsize,fun b o e=>?_,fun c d q=>?_⟩
 ·have:=h.low b hb;simpa [World.setCell] using this
 ·rw[Bg] at e;split at e
  ·cases hb:w.heap[b]? with
   | none=>rw[hb] at e;cases e
   | some o2 =>
    rw[hb] at e;simp only[Option.map_some,Option.some.injEq] at e;subst e;rcases h.plain b o2 hb with⟨cs,t,fr,rfl⟩|⟨a,l,rfl⟩
    ·exact .inl ⟨_,_,_,rfl⟩
    ·exact .inr ⟨_,_,rfl⟩
  ·exact h.plain b o e
 ·obtain⟨o,o',h1,h2,h3⟩:=h.block c d q;rw[Bg,Bg,h1,h2];by_cases e:c=a.block
  ·have e':d=a'.block:=h.fn _ _ _ q (e ▸ k.block);rw[if_pos e,if_pos e'];simp only[Option.map_some];refine⟨_,_,rfl,rfl,?_⟩;cases o<;>cases o'<;>first|exact h3.elim|exact h3|skip
   dsimp only;rw[<- k.spot,<- k.off];by_cases hs:a.spot.isSome=true
   ·rw[if_pos hs,if_pos hs];exact h3
   ·rw[if_neg hs,if_neg hs];exact⟨h3.1,h3.2.1.set _ hv,fun hf o ho=>h3.2.2.1 hf o (by simpa using ho),h3.2.2.2⟩
  ·have e':d≠a'.block:=fun e2=>e (h.inj _ _ _ q (e2 ▸ k.block));rw[if_neg e,if_neg e'];exact⟨o,o',rfl,rfl,h3⟩
theorem WR.push (h:WR gs F ρ w w') (hlt:∀a b,ρ a b->a < w.heap.size/\b < w'.heap.size) {o o':Obj} (ho:(∃cs t fr,o=.cells cs t fr)\/∃a l,o=.number a l) (k:∀b,¬F b->Apy F ρ b o o') :
  WR gs F (ρ.ext w.heap.size w'.heap.size) { w with heap:=w.heap.push o } { w' with heap:=w'.heap.push o' }:=by
 refine⟨h.tape,h.drawn,fun a b c q1 q2=>?_,fun a b c q1 q2=>?_,fun b hb=>?_,fun a b q hg=>?_,by have:=h.gsize;simp only[Array.size_push];omega,fun b o2 e=>?_,fun a b q=>?_⟩
 ·rcases q1 with q1|⟨q1,q1'⟩<;>rcases q2 with q2|⟨q2,q2'⟩
  ·exact h.fn _ _ _ q1 q2
  ·have:=(hlt _ _ q1).1;omega
  ·have:=(hlt _ _ q2).1;omega
  ·omega
 ·rcases q1 with q1|⟨q1,q1'⟩<;>rcases q2 with q2|⟨q2,q2'⟩
  ·exact h.inj _ _ _ q1 q2
  ·have:=(hlt _ _ q1).2;omega
  ·have:=(hlt _ _ q2).2;omega
  ·omega
 ·have:=h.low b hb;simp only[Array.size_push];omega
 ·rcases q with q|⟨q,_⟩
  ·exact h.glob _ _ q hg
  ·have:=h.gsize;omega
 ·simp only[Array.getElem?_push] at e;split at e
  ·injection e with e;subst e;exact ho
  ·exact h.plain b o2 e
 ·rcases q with q|⟨rfl,rfl⟩
  ·obtain⟨u,u',h1,h2,h3⟩:=h.block a b q;obtain⟨l1,l2⟩:=hlt _ _ q;refine⟨u,u',?_,?_,h3.mono (Bn.le_ext _ _ _)⟩
   ·simp only[Array.getElem?_push];rw[if_neg (by omega)];exact h1
   ·simp only[Array.getElem?_push];rw[if_neg (by omega)];exact h2
  ·refine⟨o,o',by simp,by simp,(k _ fun hf=>?_).mono (Bn.le_ext _ _ _)⟩;have:=h.low _ hf;omega
theorem WR.lt (h:WR gs F ρ w w') (a b:Nat) (q:ρ a b):a < w.heap.size/\b < w'.heap.size:=by
 obtain⟨o,o',h1,h2,_⟩:=h.block a b q;exact⟨(Array.getElem?_eq_some_iff.1 h1).1,(Array.getElem?_eq_some_iff.1 h2).1⟩
theorem WR.draw (h:WR gs F ρ w w'):WR gs F ρ { w with drawn:=w.drawn+1 } { w' with drawn:=w'.drawn+1 }:=⟨h.tape,by show w.drawn+1=w'.drawn+1;rw[h.drawn],h.fn,h.inj,h.low,h.glob,h.gsize,h.plain,h.block⟩
theorem WR.void (h:WR gs F ρ w w') {a:Addr} (k:a.spot.isSome=true):w.cell? a=none/\(∀p at_,w.farLoad p a at_=.error (.stuck "load: no such cell"))/\∀p v at_,w.farStore p a v at_=.error (.stuck "store: no such cell"):=by
 have hn:∀what,w.noCell a what=.stuck what:=fun what=>by
  unfold World.noCell;cases hb:w.heap[a.block]? with
  | none=>rfl
  | some o=>rcases h.plain _ _ hb with⟨cs,t,fr,rfl⟩|⟨x,l,rfl⟩<;>rfl
 refine⟨?_,fun p at_=>?_,fun p v at_=>?_⟩
 ·unfold World.cell?;cases hb:w.heap[a.block]? with
  | none=>rfl
  | some o=>rcases h.plain _ _ hb with⟨cs,t,fr,rfl⟩|⟨x,l,rfl⟩<;>simp[k]
 ·unfold World.farLoad;rw[hn];cases hb:w.heap[a.block]? with
  | none=>rfl
  | some o=>rcases h.plain _ _ hb with⟨cs,t,fr,rfl⟩|⟨x,l,rfl⟩<;>rfl
 ·unfold World.farStore;rw[hn];cases hb:w.heap[a.block]? with
  | none=>rfl
  | some o=>rcases h.plain _ _ hb with⟨cs,t,fr,rfl⟩|⟨x,l,rfl⟩<;>rfl
theorem Sb {α:Type} (p:Program) (h:WR gs F ρ w w') {a:Addr} (k:a.spot.isSome=true) (K:Value->Sem α) (es:Array Event):∃es2,(Sem.load .plain a K).runT p w es=(.halt (.stuck "load: no such cell") w,es2):=by
 obtain⟨e1,e2,_⟩:=h.void k;exact⟨_,by simp only[Sem.runT,e1,e2];rfl⟩
theorem Oi {α:Type} (p:Program) (h:WR gs F ρ w w') {a:Addr} (k:a.spot.isSome=true) (v:Value) (K:Sem α) (es:Array Event):∃what es2,(Sem.store .plain a v K).runT p w es=(.halt (.stuck what) w,es2):=by
 obtain⟨e1,_,e2⟩:=h.void k;cases v<;>first|exact⟨_,_,rfl⟩|exact⟨_,_,by simp only[Sem.runT,e1,e2];rfl⟩
end
theorem Aay {α β:Type} {X:Bn->α->β->Prop} {F:Nat->Prop} (p:Program) {ρ:Bn} {s:Sem α} {s':Sem β} (h:SR p X ρ s s'):∀(w w':World) (es es':Array Event),WR p.globals.size F ρ w w' ->
  ∀x w1 es1,s.runT p w es=(.ok x w1,es1)->∃ρ1 x' w1' new,s'.runT p w' es'=(.ok x' w1',es'++new)/\X ρ1 x x'/\WR p.globals.size F ρ1 w1 w1'/\Left F ρ ρ1 w w' w1 w1'/\∀e∈new,EvR F ρ1 e:=by
 induction h with
 | pure h =>
  intro w w' es es' hw x w1 es1 e;simp only[Sem.runT,Prod.mk.injEq,Result.ok.injEq] at e;obtain⟨⟨rfl,rfl⟩,rfl⟩:=e;exact⟨_,_,w',#[],by simp[Sem.runT],h,hw,.refl,fun e he=>by simp at he⟩
 | @load ρ a a' k k' hA _ ih =>
  intro w w' es es' hw x w1 es1 e;rcases hw.cell hA with⟨h1,h2⟩|⟨v,v',h1,h2,hv⟩
  ·exfalso;simp only[Sem.runT,h1] at e;have ym:=hw.far hA;unfold World.farLoad at e;split at e
   ·rename_i heq;split at heq
    ·rename_i h9;exact ym _ h9 _ _ rfl
    ·cases heq
   ·simp at e
  ·simp only[Sem.runT,h1] at e;obtain⟨ρ1,x',w1',new,r1,r2,r3,r4,r5⟩:=ih v v' hv w w' _ (es'.push ⟨.cell a',false,Mode.plain==.atomic⟩) hw x w1 es1 e;refine⟨ρ1,x',w1',#[⟨.cell a',false,Mode.plain==.atomic⟩]++new,?_,r2,r3,r4,fun e he=>?_⟩
   ·simp only[Sem.runT,h2,r1];rw[<- Array.append_assoc];rfl
   ·rcases Array.mem_append.1 he with he|he
    ·simp only[List.mem_toArray,List.mem_singleton] at he;subst he;exact .inl ⟨a',_,rfl,r4.le _ _ hA.block,rfl,fun q=>by cases q⟩
    ·exact r5 e he
 | @store ρ a a' v v' k k' hA hv _ ih =>
  intro w w' es es' hw x w1 es1 e;have mh:(∀c,v≠.agg c)/\(∀c,v≠.tuple c):=by
   constructor<;>(intro c ec;subst ec;simp[Sem.runT] at e)
  have hva':(∀c,v'≠.agg c)/\(∀c,v'≠.tuple c):=by
   constructor<;>(intro c ec;subst ec;cases hv)<;>first|exact mh.1 _ rfl|exact mh.2 _ rfl | (rename_i q;exact absurd q (by simp[Atu]))
  have st:∀ {I:Type} (u:Value) (b:Addr) (K:Sem I) (W:World) (E:Array Event),(∀c,u≠.agg c)->(∀c,u≠.tuple c)->(Sem.store .plain b u K).runT p W E=match W.cell? b with
    | some _=>if W.frozen? b then (.halt (.unsupported (.unsafePointer "a write to bytes that a string shares")) W,E) else K.runT p (W.setCell b u) (E.push ⟨.cell b,true,Mode.plain==.atomic⟩)
    | none=>match W.farStore p b u (Mode.plain==.atomic) with
     | .ok (w,touched)=>K.runT p w (E++touched.toArray.map (⟨.cell ·,true,Mode.plain==.atomic⟩))
     | .error h=>(.halt h W,E):=by
   intro I u b K W E h1 h2;cases u<;>first|rfl|exact absurd rfl (h1 _) | exact absurd rfl (h2 _)
  rw[st v a k w es mh.1 mh.2] at e;rcases hw.cell hA with⟨h1,h2⟩|⟨u,u',h1,h2,hu⟩
  ·exfalso;rw[h1] at e;dsimp only at e;have ym:=hw.far hA;unfold World.farStore at e;split at e
   ·rename_i heq;split at heq
    ·rename_i h9;exact ym _ h9 _ _ rfl
    ·cases heq
   ·simp at e
  ·obtain⟨o,o',q1,q2,q3⟩:=hw.block _ _ hA.block;have gg:∃cs t fr,o=.cells cs t fr:=by
    unfold World.cell? at h1;rw[q1] at h1;cases o<;>first|exact⟨_,_,_,rfl⟩ | (simp at h1)
   obtain⟨cs,t,fr,rfl⟩:=gg;cases o' with
   | cells cs' t' fr'=>?_
   | _=>exact q3.elim
   obtain⟨_,_,q4,q5⟩:=q3;rw[h1] at e;dsimp only at e;have hoff:a.off < cs.size:=by
    unfold World.cell? at h1;rw[q1] at h1;dsimp only at h1;split at h1
    ·cases h1
    ·exact(Array.getElem?_eq_some_iff.1 h1).1
   have vz:w.frozen? a=(decide (fr.1<=a.off)&&decide (a.off < fr.2)):=by unfold World.frozen?;rw[q1]
   have hnF:¬F a'.block:=fun hf=>by
    obtain⟨l1,l2⟩:=q4 hf _ hoff;rw[if_pos (by rw[vz];simp[l1,l2])] at e;simp at e
   obtain⟨rfl,rfl⟩:=q5 hnF;have hfr':w'.frozen? a'=false:=by unfold World.frozen?;rw[q2];simp
   have hfr0:w.frozen? a=false:=by rw[vz];simp
   rw[hfr0] at e;simp only[Bool.false_eq_true,if_false] at e;obtain⟨ρ1,x',w1',new,r1,r2,r3,r4,r5⟩:=ih (w.setCell a v) (w'.setCell a' v') _ (es'.push ⟨.cell a',true,Mode.plain==.atomic⟩) (hw.set hA hv) x w1 es1 e;refine⟨ρ1,x',w1',#[⟨.cell a',true,Mode.plain==.atomic⟩]++new,?_,r2,r3,?_,fun e he=>?_⟩
   ·rw[st v' a' k' w' es' hva'.1 hva'.2,h2];dsimp only;rw[hfr'];simp only[Bool.false_eq_true,if_false,r1];rw[<- Array.append_assoc];rfl
   ·have s0:(w.setCell a v).heap.size=w.heap.size:=by simp[World.setCell]
    have s1:(w'.setCell a' v').heap.size=w'.heap.size:=by simp[World.setCell]
    refine⟨r4.le,by rw[<- s0];exact r4.size,by rw[<- s1];exact r4.size',r4.tape,r4.os,r4.output,fun b hb hf=>?_,fun c d q=>?_,fun e q=>r4.same (by rw[s0,s1];exact e) q⟩
    ·refine(r4.old b (by rw[s1];exact hb) hf).trans ?_;rw[Bg,if_neg fun e=>hnF (by rw[<- e];exact hf _ (by rw[e];exact hA.block))]
    ·have:=r4.new c d q
     rwa [s0,s1] at this
   ·rcases Array.mem_append.1 he with he|he
    ·simp only[List.mem_toArray,List.mem_singleton] at he;subst he;exact .inl ⟨a',_,rfl,r4.le _ _ hA.block,rfl,fun _=>hnF⟩
    ·exact r5 e he
 | @new ρ cs cs' t k k' hc _ ih =>
  intro w w' es es' hw x w1 es1 e;simp only[Sem.runT] at e;obtain⟨ρ1,x',w1',new,r1,r2,r3,r4,r5⟩:=ih w.heap.size w'.heap.size hw.gsize _ _ _ es' (hw.push (o:=.cells cs t) (o':=.cells cs' t) hw.lt (.inl ⟨_,_,_,rfl⟩) fun b hf=>⟨rfl,hc,fun q=>(hf q).elim,fun _=>⟨rfl,rfl⟩⟩) x w1 es1 e;have sz:∀W:World,∀o,({ W with heap:=W.heap.push o }:World).heap.size=W.heap.size+1:=fun W o=>by simp
  refine⟨ρ1,x',w1',new,by simp only[Sem.runT,r1],r2,r3,⟨Bn.le_trans (Bn.le_ext _ _ _) r4.le,?_,?_,r4.tape,r4.os,r4.output,fun b hb hf=>?_,fun c d q=>?_,fun e q=>r4.same (by rw[sz,sz,e]) fun a b h=>h.elim (q a b) fun h=>by rw[h.1,h.2,e]⟩,r5⟩
  ·have:=r4.size;rw[sz] at this;omega
  ·have:=r4.size';rw[sz] at this;omega
  ·refine(r4.old b (by rw[sz];omega) fun c q=>?_).trans ?_
   ·rcases q with q|⟨_,q⟩
    ·exact hf c q
    ·omega
   ·simp only[Array.getElem?_push];rw[if_neg (by omega)]
  ·rcases r4.new c d q with(q|⟨rfl,rfl⟩) | ⟨q1,q2⟩
   ·exact .inl q
   ·exact .inr ⟨Nat.le_refl _,Nat.le_refl _⟩
   ·rw[sz] at q1 q2;exact .inr ⟨by omega,by omega⟩
 | @number ρ a a' l k k' hc _ ih =>
  intro w w' es es' hw x w1 es1 e;simp only[Sem.runT] at e;obtain⟨ρ1,x',w1',new,r1,r2,r3,r4,r5⟩:=ih w.heap.size w'.heap.size hw.gsize _ _ _ es' (hw.push (o:=.number a l) (o':=.number a' l) hw.lt (.inr ⟨_,_,rfl⟩) fun b _=>⟨rfl,hc⟩) x w1 es1 e;have sz:∀W:World,∀o,({ W with heap:=W.heap.push o }:World).heap.size=W.heap.size+1:=fun W o=>by simp
  refine⟨ρ1,x',w1',new,by simp only[Sem.runT,r1],r2,r3,⟨Bn.le_trans (Bn.le_ext _ _ _) r4.le,?_,?_,r4.tape,r4.os,r4.output,fun b hb hf=>?_,fun c d q=>?_,fun e q=>r4.same (by rw[sz,sz,e]) fun a b h=>h.elim (q a b) fun h=>by rw[h.1,h.2,e]⟩,r5⟩
  ·have:=r4.size;rw[sz] at this;omega
  ·have:=r4.size';rw[sz] at this;omega
  ·refine(r4.old b (by rw[sz];omega) fun c q=>?_).trans ?_
   ·rcases q with q|⟨_,q⟩
    ·exact hf c q
    ·omega
   ·simp only[Array.getElem?_push];rw[if_neg (by omega)]
  ·rcases r4.new c d q with(q|⟨rfl,rfl⟩) | ⟨q1,q2⟩
   ·exact .inl q
   ·exact .inr ⟨Nat.le_refl _,Nat.le_refl _⟩
   ·rw[sz] at q1 q2;exact .inr ⟨by omega,by omega⟩
 | @getObj ρ r r' k k' hr _ ih =>
  intro w w' es es' hw x w1 es1 e;obtain⟨o,o',q1,q2,q3⟩:=hw.block _ _ hr;simp only[Sem.runT,q1] at e;cases o<;>cases o'<;>first|exact q3.elim | (simp at e;done) | skip
  rename_i a l a' l';obtain⟨rfl,ha⟩:=q3;dsimp only at e;obtain⟨ρ1,x',w1',new,r1,r2,r3,r4,r5⟩:=ih a a' l ha w w' _ (es'.push ⟨.obj r',false,false⟩) hw x w1 es1 e;refine⟨ρ1,x',w1',#[⟨.obj r',false,false⟩]++new,?_,r2,r3,r4,fun e he=>?_⟩
  ·simp only[Sem.runT,q2];rw[show Obj.isChan (.number a' l)=false from rfl,r1,<- Array.append_assoc];rfl
  ·rcases Array.mem_append.1 he with he|he
   ·simp only[List.mem_toArray,List.mem_singleton] at he;subst he;exact .inr (.inr ⟨r',_,rfl,r4.le _ _ hr,rfl,rfl⟩)
   ·exact r5 e he
 | @shape ρ r r' k k' hr _ ih =>
  intro w w' es es' hw x w1 es1 e;simp only[Sem.runT] at e;obtain⟨ρ1,x',w1',new,r1,r2⟩:=ih _ w w' es es' hw x w1 es1 e;exact⟨ρ1,x',w1',new,by simp only[Sem.runT,<- hw.shape hr,r1],r2⟩
 | @choose ρ q k k' _ ih =>
  intro w w' es es' hw x w1 es1 e;simp only[Sem.runT] at e;by_cases hq:q.forced=true
  ·rw[if_pos hq] at e;obtain⟨ρ1,x',w1',new,r1,r2⟩:=ih _ w w' es es' hw x w1 es1 e;exact⟨ρ1,x',w1',new,by simp only[Sem.runT,if_pos hq,r1],r2⟩
  ·rw[if_neg hq] at e;obtain⟨ρ1,x',w1',new,r1,r2,r3,r4,r5⟩:=ih _ _ _ es es' hw.draw x w1 es1 e;refine⟨ρ1,x',w1',new,?_,r2,r3,⟨r4.le,r4.size,r4.size',r4.tape,r4.os,r4.output,r4.old,r4.new,r4.same⟩,r5⟩;simp only[Sem.runT,if_neg hq];rw[hw.tape,hw.drawn] at r1;exact r1
 | @program ρ k k' _ ih =>
  intro w w' es es' hw x w1 es1 e;simp only[Sem.runT] at e;obtain⟨ρ1,x',w1',new,r1,r2⟩:=ih w w' es es' hw x w1 es1 e;exact⟨ρ1,x',w1',new,by simp only[Sem.runT,r1],r2⟩
 | @mark ρ m k k' hm _ ih =>
  intro w w' es es' hw x w1 es1 e;simp only[Sem.runT] at e;obtain⟨ρ1,x',w1',new,r1,r2,r3,r4,r5⟩:=ih w w' _ (es'.push ⟨.mark m,false,true⟩) hw x w1 es1 e;refine⟨ρ1,x',w1',#[⟨.mark m,false,true⟩]++new,?_,r2,r3,r4,fun e he=>?_⟩
  ·simp only[Sem.runT,r1];rw[<- Array.append_assoc];rfl
  ·rcases Array.mem_append.1 he with he|he
   ·simp only[List.mem_toArray,List.mem_singleton] at he;subst he;exact .inr (.inl ⟨m,rfl,hm⟩)
   ·exact r5 e he
 | halt _ =>
  intro w w' es es' hw x w1 es1 e;simp[Sem.runT] at e
 | loadVoid h =>
  intro w w' es es' hw x w1 es1 e;obtain⟨_,e2⟩:=Sb p hw h _ es;rw[e2] at e;simp at e
 | storeVoid h =>
  intro w w' es es' hw x w1 es1 e;obtain⟨_,_,e2⟩:=Oi p hw h _ _ es;rw[e2] at e;simp at e
 | dead h =>
  intro w w' es es' hw x w1 es1 e;obtain⟨h',w2,es2,e2,_⟩:=h w es;rw[e2] at e;simp at e
section
variable {P:Program} {ρ:Bn}
theorem SR.bind' {α β I δ:Type} {X:Bn->α->β->Prop} {Y:Bn->I->δ->Prop} {s:Sem α} {s':Sem β} {f:α->Sem I} {f':β->Sem δ} (h:SR P X ρ s s')
  (hf:∀σ a b,ρ.le σ->X σ a b->SR P Y σ (f a) (f' b)):SR P Y ρ (s >>= f) (s' >>= f'):=h.bind hf
theorem SR.pureBind {α β I δ:Type} {Y:Bn->I->δ->Prop} {a:α} {b:β} {f:α->Sem I} {f':β->Sem δ} (h:SR P Y ρ (f a) (f' b)):SR P Y ρ ((Pure.pure a:Sem α) >>= f) ((Pure.pure b:Sem β) >>= f'):=h
def F5 (P:Program) {α:Type} (s:Sem α):Prop:=∀w es,∃h' w' es',s.runT P w es=(.halt h' w',es')/\Aef h'=true
theorem F5.halt {α:Type} (h:Halt) (hd:Aef h=true:=by rfl):F5 P (.halt h:Sem α):=fun w es=>⟨h,w,es,rfl,hd⟩
def Fi (P:Program) {α:Type} (s:Sem α):Prop:=∀w es h' w' es',s.runT P w es=(.halt h' w',es')->Aef h'=true
theorem F5.left {α β:Type} {s:Sem α} {f:α->Sem β} (h:F5 P s):F5 P (s >>= f):=fun w es=>by
 show ∃h' w' es',(s.bind f).runT P w es=_/\_;rw[Nk];obtain⟨h',w',es',e,hd⟩:=h w es;rw[e];exact⟨h',w',es',rfl,hd⟩
theorem F5.bind {α β:Type} {s:Sem α} {f:α->Sem β} (t:Fi P s) (h:∀a,F5 P (f a)):F5 P (s >>= f):=fun w es=>by
 show ∃h' w' es',(s.bind f).runT P w es=_/\_;rw[Nk]
 match e:s.runT P w es with
 |(.ok a w1,es1)=>exact h a w1 es1
 |(.halt h' w1,es1)=>exact⟨h',w1,es1,rfl,t w es h' w1 es1 e⟩
theorem Fi.pure {α:Type} (a:α):Fi P (Pure.pure a:Sem α):=fun w es h' w' es' e=>by
 have e2:(Sem.pure a).runT P w es=_:=e;simp[Sem.runT] at e2
theorem Fi.choose (q:Question):Fi P (Go.choose q):=fun w es h' w' es' e=>by
 unfold Go.choose at e;simp only[Sem.runT] at e;split at e<;>simp at e
theorem Fi.program:Fi P Go.program:=fun w es h' w' es' e=>by
 unfold Go.program at e;simp[Sem.runT] at e
theorem Fi.mark (m:Mark):Fi P (Go.mark m):=fun w es h' w' es' e=>by
 unfold Go.mark at e;simp[Sem.runT] at e
theorem Fi.newObj (o:Obj):Fi P (Go.newObj o):=fun w es h' w' es' e=>by
 unfold Go.newObj at e;simp[Sem.runT] at e
theorem Fi.shape (r:Nat):Fi P (Go.shape r):=fun w es h' w' es' e=>by
 unfold Go.shape at e;simp[Sem.runT] at e
theorem Fi.frozen (a:Addr):Fi P (Go.frozen a):=fun w es h' w' es' e=>by
 unfold Go.frozen at e;simp[Sem.runT] at e
theorem Fi.stuck {α:Type} (why:String):Fi P (Go.stuck why:Sem α):=fun w es h' w' es' e=>by
 unfold Go.stuck at e;simp only[Sem.runT,Prod.mk.injEq,Result.halt.injEq] at e;rw[<- e.1.1];rfl
theorem Fi.bind {α β:Type} {s:Sem α} {f:α->Sem β} (t:Fi P s) (h:∀a,Fi P (f a)):Fi P (s >>= f):=fun w es h' w' es' e=>by
 have e2:(s.bind f).runT P w es=_:=e;rw[Nk] at e2
 match e3:s.runT P w es with
 |(.ok a w1,es1)=>rw[e3] at e2;exact h a w1 es1 h' w' es' e2
 |(.halt h2 w1,es1) =>
  rw[e3] at e2;simp only[Prod.mk.injEq,Result.halt.injEq] at e2;rw[<- e2.1.1];exact t w es h2 w1 es1 e3
theorem F5.ite {α:Type} {c:Prop} [Decidable c] {s t:Sem α} (h:F5 P s) (k:F5 P t):F5 P (if c then s else t):=by
 split
 ·exact h
 ·exact k
theorem Acj (t:TypeId):Fi P (elemOf t):=by
 unfold elemOf underlying;refine .bind (.bind .program fun p=>?_) fun d=>?_
 ·cases p.underlying t with
  | none=>exact .stuck _
  | some d=>exact .pure d
 ·cases d<;>first|exact .pure _|exact .stuck _
theorem Ao {α:Type} (e:RuntimeError):F5 P (runtimePanic e:Sem α):=by
 unfold runtimePanic;refine .bind .program fun p=>?_;cases e<;>first
  | exact .halt _
  | exact .bind (Acj _) fun _=>.bind (.bind (.newObj _) fun _=>.pure _) fun _=>.halt _
theorem E4 {α:Type} (k:IntKind) (x y:Int) (c:BoundsCode):F5 P (boundsPanic k x y c:Sem α):=by
 unfold boundsPanic;dsimp only;split<;>exact .bind (by first|exact .bind (.choose _) fun _=>.pure _|exact .pure _) fun _=>Ao _
theorem SR.of_dead {α β:Type} {X:Bn->α->β->Prop} {s:Sem α} {s':Sem β} (h:F5 P s):SR P X ρ s s':=.dead h
abbrev B5 {α:Type}:Bn->α->α->Prop:=fun _ a b=>a=b
theorem Av (t:TypeId):SR P B5 ρ (underlying t) (underlying t):=by
 refine SR.program ?_;show SR P B5 ρ (match P.underlying t with|some d=>pure d|none=>stuck "no such type") (match P.underlying t with|some d=>pure d|none=>stuck "no such type");cases P.underlying t with
 | none=>exact .halt
 | some d=>exact SR.pure (X:=B5) (rfl:d=d)
theorem Ba (t:TypeId):SR P B5 ρ (typeInfo t) (typeInfo t):=by
 refine SR.program ?_;show SR P B5 ρ (match P.info? t with|some d=>pure d|none=>stuck "no such type") (match P.info? t with|some d=>pure d|none=>stuck "no such type");cases P.info? t with
 | none=>exact .halt
 | some d=>exact SR.pure (X:=B5) (rfl:d=d)
theorem B2 (t:TypeId):SR P B5 ρ (sizeOf t) (sizeOf t):=(Ba t).bind' fun _ _ _ _ e=>by subst e;exact .pure rfl
theorem Acn (t:TypeId):SR P B5 ρ (isAgg t) (isAgg t):=(Av t).bind' fun _ d _ _ e=>by
 subst e;cases d<;>exact .pure rfl
theorem Fq (n:Nat):SR P B5 ρ (askRoom n) (askRoom n):=by
 unfold askRoom;split
 ·exact .mark rfl (.pure rfl)
 ·exact .pure rfl
def Ac9:Value->Bool
 | .bool _ | .int _ _ | .pointer none | .slice none _ _ | .nilFunc | .nilIface=>true
 | .func (.func _) first captured=>first.isEmpty&&captured.isEmpty
 | _=>false
def Ahj:Value->Bool
 | .agg cs=>cs.all Ac9
 | v=>Ac9 v
theorem Ab6 {v:Value} (h:Ac9 v=true):VR ρ v v:=by
 unfold Ac9 at h;split at h<;>first
  | exact .bool _
  | exact .int _ _
  | exact .pnil
  | exact .snil _ _
  | exact .nilFunc
  | exact .nilIface _ rfl
  | cases h
  | skip
 rename_i f first captured
 rw[Bool.and_eq_true,Array.isEmpty_iff,Array.isEmpty_iff] at h;obtain⟨rfl,rfl⟩:=h;exact .func f rfl fun i h=>by simp at h
theorem Alu {cs:Array Value} (h:cs.all Ac9=true):Cx ρ cs cs:=⟨rfl,fun i h1 _=>Ab6 (by rw[Array.all_eq_true] at h;exact h i h1)⟩
theorem Ab7 {v:Value} (h:Ahj v=true):VR ρ v v:=by
 unfold Ahj at h;split at h
 ·have:=Alu (ρ:=ρ) h;exact .agg this.size this.at_
 ·exact Ab6 h
def Adf (P:Program) (t:TypeId):Bool:=match P.info? t with
 | some i=>(match i.zero with|some z=>Ahj z|none=>true)
 | none=>true
theorem Cs {t:TypeId} (h:Adf P t=true):SR P VR ρ (zeroValue t) (zeroValue t):=by
 unfold Adf at h;refine SR.program ?_;show SR P VR ρ ((match P.info? t with|some d=>pure d|none=>stuck "no such type":Sem TypeInfo).bind _) ((match P.info? t with|some d=>pure d|none=>stuck "no such type":Sem TypeInfo).bind _);cases hi:P.info? t with
 | none=>exact .halt
 | some i =>
  rw[hi] at h;dsimp only at h;show SR P VR ρ (match i.zero with|some v=>pure v|none=>unsupported _) (match i.zero with|some v=>pure v|none=>unsupported _);cases hz:i.zero with
  | none=>exact .halt
  | some z =>
   rw[hz] at h;exact .pure (Ab7 h)
theorem Ih {ρ0:Bn} {v v':Value} (h:VR ρ0 v v'):SR P B5 ρ (asIntOf v) (asIntOf v'):=by
 cases h<;>first|exact .halt|exact .pure rfl
theorem Ps {ρ0:Bn} {v v':Value} (h:VR ρ0 v v'):SR P B5 ρ (asInt v) (asInt v'):=(Ih h).bind' fun _ _ _ _ e=>by subst e;exact .pure rfl
theorem Ai0 {ρ0:Bn} {v v':Value} (h:VR ρ0 v v'):SR P B5 ρ (asBool v) (asBool v'):=by
 cases h<;>first|exact .halt|exact .pure rfl
theorem G7 {v v':Value} (h:VR ρ v v'):SR P AR ρ (Instr.sureAddr v) (Instr.sureAddr v'):=by
 cases h<;>first|exact .halt | (rename_i q;exact .pure q)
theorem Ahg {a a':Addr} (h:AR ρ a a'):SR P VR ρ (load a) (load a'):=.load h fun _ _ hv=>.pure hv
theorem Ko:∀(n i:Nat) {σ:Bn} {a a':Addr} {cs cs':Array Value},AR σ a a'->Cx σ cs cs'->SR P Cx σ (loadCellsFrom a i n cs) (loadCellsFrom a' i n cs')
 | 0,_,_,_,_,_,_,_,hc=>.pure hc
 | n+1,i,_,_,_,_,_,h,hc=>(Ahg (h.add i)).bind' fun _ _ _ hl hv=>Ko n (i+1) (h.mono hl) ((hc.mono hl).push hv)
theorem Pr {a a':Addr} (h:AR ρ a a') (n:Nat):SR P Cx ρ (loadCells a n) (loadCells a' n):=Ko n 0 h .empty
theorem V3 (t:TypeId) {a a':Addr} (h:AR ρ a a'):SR P VR ρ (loadVar t a) (loadVar t a'):=by
 unfold loadVar;refine(Acn t).bind' fun σ b _ hl e=>?_;subst e;cases b with
 | true=>exact(B2 t).bind' fun _ n _ hl2 e=>by subst e;exact(Pr ((h.mono hl).mono hl2) n).bind' fun _ _ _ _ hc=>.pure (.agg hc.size hc.at_)
 | false=>exact Ahg (h.mono hl)
inductive LsR (ρ:Bn):List Value->List Value->Prop
 | nil:LsR ρ [] []
 | cons {v v':Value} {l l':List Value} (h:VR ρ v v') (k:LsR ρ l l'):LsR ρ (v::l) (v'::l')
theorem Aod:∀ {l l':List Value},l.length=l'.length->(∀i (h1:i < l.length) (h2:i < l'.length),VR ρ l[i] l'[i])->LsR ρ l l'
 | [],[],_,_=>.nil
 | [],_::_,h,_=>by simp at h
 | _::_,[],h,_=>by simp at h
 | v::l,v'::l',h,k=>.cons (k 0 (by simp) (by simp)) (Aod (by simpa using h) fun i h1 h2=>k (i+1) (by simpa using h1) (by simpa using h2))
theorem Cx.list {cs cs':Array Value} (h:Cx ρ cs cs'):LsR ρ cs.toList cs'.toList:=Aod (by simpa using h.size) fun i h1 h2=>by
 simpa using h.at_ i (by simpa using h1) (by simpa using h2)
theorem Gy {a a':Addr} (h:AR ρ a a') {l l':List Value} (k:LsR ρ l l'):∀i,SR P B5 ρ (storeCells a l i) (storeCells a' l' i):=by
 induction k with
 | nil=>intro i;unfold storeCells;exact .pure rfl
 | cons hv _ ih =>
  intro i;unfold storeCells;exact .store (h.add i) hv (ih (i+1))
theorem Acl (t:TypeId) {a a':Addr} (h:AR ρ a a') {v v':Value} (hv:VR ρ v v'):SR P B5 ρ (storeVar t a v) (storeVar t a' v'):=by
 unfold storeVar;refine(B2 t).bind' fun σ n _ hl e=>?_;subst e;have hs:=hv.cells.size;by_cases hq:v.cells.size≠n
 ·simp only[if_pos hq];exact .of_dead (.left (.halt _))
 ·simp only[if_neg hq,if_neg (show ¬v'.cells.size≠n by rw[<- hs];exact hq)];exact Gy (h.mono hl) (hv.cells.list |> fun q=>by
   have:∀ {l l':List Value},LsR ρ l l'->LsR σ l l':=fun q=>by
    induction q with
    | nil=>exact .nil
    | cons h _ ih=>exact .cons (h.mono hl) ih
   exact this q) 0
theorem Dh (t:TypeId) {cs cs':Array Value} (h:Cx ρ cs cs'):SR P AR ρ (newRow t cs) (newRow t cs') :=
 SR.new h fun _ _ _=>.pure ⟨.inr ⟨rfl,rfl⟩,rfl,rfl⟩
theorem Amu {t:TypeId} (h:Adf P t=true):SR P VR ρ (Instr.alloc t true (.tuple #[])) (Instr.alloc t true (.tuple #[])):=by
 unfold Instr.alloc;refine(Cs h).bind' fun σ z z' _ hz=>?_;exact(Dh t hz.cells).bind' fun _ _ _ _ ha=>.pure (.ptr ha)
theorem Ato (t:TypeId) {v v':Value} (h:VR ρ v v'):SR P VR ρ (Instr.box t v) (Instr.box t v'):=by
 unfold Instr.box;exact(Dh t h.cells).bind' fun _ _ _ _ ha=>.pure (.ptr ha)
theorem Aiy (t:TypeId) {v v':Value} (h:VR ρ v v'):SR P VR ρ (Instr.loadAt t v) (Instr.loadAt t v'):=by
 unfold Instr.loadAt;exact(G7 h).bind' fun _ _ _ _ ha=>V3 t ha
theorem Ae8 (t:TypeId) {v v' x x':Value} (h:VR ρ v v') (hx:VR ρ x x'):SR P B5 ρ (Instr.storeAt t v x) (Instr.storeAt t v' x'):=by
 unfold Instr.storeAt;exact(G7 h).bind' fun _ _ _ hl ha=>Acl t ha (hx.mono hl)
def Aa3 (P:Program) (s:TypeId) (f:Nat):Bool:=match P.underlying s with
 | some (.struct fields)=>(match fields[f]? with
  | some d=>(match P.info? d.type with|some i=>i.size != 0|none=>true)
  | none=>true)
 | _=>true
theorem Afb {s:TypeId} {f:Nat} (hok:Aa3 P s f=true) {v v':Value} (h:VR ρ v v'):SR P VR ρ (Instr.fieldAt s v f) (Instr.fieldAt s v' f):=by
 unfold Instr.fieldAt;refine SR.bind' (X:=fun _ a b=>a=b/\P.underlying s=some a) ?_ fun σ d _ hl e=>?_
 ·refine SR.program ?_;show SR P _ ρ (match P.underlying s with|some d=>pure d|none=>stuck "no such type") (match P.underlying s with|some d=>pure d|none=>stuck "no such type");cases hu:P.underlying s with
  | none=>exact .halt
  | some d=>exact SR.pure (X:=fun _ a b=>a=b/\some d=some a) ⟨rfl,rfl⟩
 ·obtain⟨rfl,hu⟩:=e;cases d with
  | struct fields =>
   unfold Aa3 at hok;rw[hu] at hok;dsimp only at hok ⊢;cases hf:fields[f]? with
   | none=>exact .halt
   | some d =>
    rw[hf] at hok;dsimp only at hok ⊢;refine(G7 (h.mono hl)).bind' fun σ2 a a' _ ha=>?_;refine SR.bind' (X:=AR) ?_ fun _ _ _ _ q=>.pure (.ptr q);unfold fieldPlace;refine SR.bind' (X:=fun _ a b=>a=b/\a≠0) ?_ fun σ3 n _ av e=>?_
    ·refine SR.program ?_;show SR P _ σ2 ((match P.info? d.type with|some i=>pure i|none=>stuck "no such type":Sem TypeInfo).bind _) ((match P.info? d.type with|some i=>pure i|none=>stuck "no such type":Sem TypeInfo).bind _);cases hi:P.info? d.type with
     | none=>exact .halt
     | some i =>
      rw[hi] at hok;exact SR.pure (X:=fun _ a b=>a=b/\a≠0) ⟨rfl,by simpa using hok⟩
    ·obtain⟨rfl,hn⟩:=e;rw[if_neg hn,if_neg hn];exact .pure ((ha.mono av).add _)
  | _=>exact .halt
theorem Afa (t:TypeId) {v v' x x':Value} (h:VR ρ v v') (hx:VR ρ x x'):SR P VR ρ (Instr.indexAt t v x) (Instr.indexAt t v' x'):=by
 unfold Instr.indexAt;refine(Ih hx).bind' fun σ ki _ hl e=>?_;subst e;obtain⟨k,i⟩:=ki;dsimp only;have h1:=h.mono hl;refine(Av t).bind' fun σ2 d _ hl2 e=>?_;subst e;have h2:=h1.mono hl2;cases d with
 | array len elem =>
  dsimp only;refine(G7 h2).bind' fun σ4 a a' hl4 ha=>?_;refine SR.pureBind ?_;refine(Av t).bind' fun σ3 d3 _ av e=>?_;subst e;dsimp only;split
  ·refine(B2 elem).bind' fun _ n _ hl4 e=>?_;subst e;exact .pure (.ptr (((ha.mono av).mono hl4).add _))
  ·exact .of_dead (.ite (.halt _) (E4 _ _ _ _))
 | slice elem =>
  cases h2<;>first
   | exact .halt
   | exact .of_dead (.left (.halt _))
   |(refine SR.pureBind ?_
     refine(Av t).bind' fun σ3 d3 _ av e=>?_;subst e;exact .of_dead (E4 _ _ _ _))
   |(refine SR.pureBind ?_
     refine(Av t).bind' fun σ3 d3 _ av e=>?_;subst e;dsimp only;split
     ·rename_i hq;exact absurd hq (by omega)
     ·exact .of_dead (.ite (.halt _) (E4 _ _ _ _)))
   |(rename_i ha
     refine SR.pureBind ?_;refine(Av t).bind' fun σ3 d3 _ av e=>?_;subst e;dsimp only;split
     ·refine(B2 elem).bind' fun _ n _ hl4 e=>?_;subst e;exact .pure (.ptr (((ha.mono av).mono hl4).add _))
     ·exact .of_dead (.ite (.halt _) (E4 _ _ _ _)))
 | _=>exact .of_dead (.left (.halt _))
theorem Em {ρ0:Bn} {v v':Value} (h:VR ρ0 v v') (y:Nat) (c:BoundsCode):SR P B5 ρ (Instr.sliceBound v y c) (Instr.sliceBound v' y c):=by
 unfold Instr.sliceBound;refine(Ih h).bind' fun σ ki _ hl e=>?_;subst e;obtain⟨k,i⟩:=ki;dsimp only;split
 ·exact SR.pure (X:=B5) rfl
 ·exact .of_dead (E4 _ _ _ _)
inductive VO (ρ:Bn):Option Value->Option Value->Prop
 | none:VO ρ none none
 | some {v v':Value} (h:VR ρ v v'):VO ρ (some v) (some v')
theorem VO.mono {σ:Bn} (h:ρ.le σ) {v v':Option Value} (k:VO ρ v v'):VO σ v v':=by
 cases k with
 | none=>exact .none
 | some q=>exact .some (q.mono h)
theorem F9 (b:Bool) (len cap:Nat) {l l' h h' m m':Option Value} (hl:VO ρ l l') (hh:VO ρ h h') (hm:VO ρ m m'):SR P B5 ρ (Instr.sliceBounds b len cap l h m) (Instr.sliceBounds b len cap l' h' m'):=by
 unfold Instr.sliceBounds;cases hm with
 | none =>
  dsimp only;refine SR.pureBind ?_;cases hh with
  | none =>
   dsimp only;refine SR.pureBind ?_;cases hl with
   | none=>exact SR.pure (X:=B5) rfl
   | some ql =>
    dsimp only;refine(Em ql _ _).bind' fun _ _ _ _ e=>?_;subst e;exact SR.pure (X:=B5) rfl
  | some qh =>
   dsimp only;refine(Em qh _ _).bind' fun _ _ _ _ e=>?_;subst e;cases hl with
   | none=>exact SR.pure (X:=B5) rfl
   | some ql =>
    dsimp only;refine(Em ql _ _).bind' fun _ _ _ _ e=>?_;subst e;exact SR.pure (X:=B5) rfl
 | some qm =>
  dsimp only;refine(Em qm _ _).bind' fun _ _ _ _ e=>?_;subst e;cases hh with
  | none =>
   dsimp only;exact .of_dead (.left (.halt _))
  | some qh =>
   dsimp only;refine(Em qh _ _).bind' fun _ _ _ _ e=>?_;subst e;cases hl with
   | none=>exact SR.pure (X:=B5) rfl
   | some ql =>
    dsimp only;refine(Em ql _ _).bind' fun _ _ _ _ e=>?_;subst e;exact SR.pure (X:=B5) rfl
theorem Du {ρ0:Bn} {v v':Value} (h:VR ρ0 v v') (c:BoundsCode):SR P (fun _ a b=>a=0/\b=0) ρ (Instr.sliceBound v 0 c) (Instr.sliceBound v' 0 c):=by
 unfold Instr.sliceBound;refine(Ih h).bind' fun σ ki _ hl e=>?_;subst e;obtain⟨k,i⟩:=ki;dsimp only;split
 ·rename_i q;have:i.toNat=0:=by omega
  exact SR.pure (X:=fun _ a b=>a=0/\b=0) ⟨this,this⟩
 ·exact .of_dead (E4 _ _ _ _)
theorem T7 (b:Bool) {l l' h h' m m':Option Value} (hl:VO ρ l l') (hh:VO ρ h h') (hm:VO ρ m m'):SR P (fun _ a b=>a=(0,0,0)/\b=(0,0,0)) ρ (Instr.sliceBounds b 0 0 l h m) (Instr.sliceBounds b 0 0 l' h' m'):=by
 have fin:∀σ,SR P (fun _ a b=>a=(0,0,0)/\b=(0,0,0)) σ (pure (0,0,0):Sem (Nat × Nat × Nat)) (pure (0,0,0)):=fun σ=>SR.pure (X:=fun _ a b=>a=(0,0,0)/\b=(0,0,0)) ⟨rfl,rfl⟩;unfold Instr.sliceBounds;cases hm with
 | none =>
  dsimp only;refine SR.pureBind ?_;cases hh with
  | none =>
   dsimp only;refine SR.pureBind ?_;cases hl with
   | none=>exact fin _
   | some ql =>
    dsimp only;refine(Du ql _).bind' fun _ _ _ _ e=>?_;obtain⟨rfl,rfl⟩:=e;exact fin _
  | some qh =>
   dsimp only;refine(Du qh _).bind' fun _ _ _ _ e=>?_;obtain⟨rfl,rfl⟩:=e;cases hl with
   | none=>exact fin _
   | some ql =>
    dsimp only;refine(Du ql _).bind' fun _ _ _ _ e=>?_;obtain⟨rfl,rfl⟩:=e;exact fin _
 | some qm =>
  dsimp only;refine(Du qm _).bind' fun _ _ _ _ e=>?_;obtain⟨rfl,rfl⟩:=e;cases hh with
  | none =>
   dsimp only;exact .of_dead (.left (.halt _))
  | some qh =>
   dsimp only;refine(Du qh _).bind' fun _ _ _ _ e=>?_;obtain⟨rfl,rfl⟩:=e;cases hl with
   | none=>exact fin _
   | some ql =>
    dsimp only;refine(Du ql _).bind' fun _ _ _ _ e=>?_;obtain⟨rfl,rfl⟩:=e;exact fin _
theorem Zc {v v':Value} (h:VR ρ v v'):SR P AR ρ (asAddr v) (asAddr v'):=by
 cases h with
 | pnil=>exact .of_dead (by show F5 P (runtimePanic .nilDeref:Sem Addr);exact Ao _)
 | ptr q=>exact .pure q
 | _=>exact .halt
theorem Apl {a a':Addr} (h:AR ρ a a') (c:Prop) [Decidable c] (n:Nat):AR ρ (if c then a else a.add n) (if c then a' else a'.add n):=by
 split
 ·exact h
 ·exact h.add n
theorem Ae9 (t:TypeId) {v v':Value} {l l' h h' m m':Option Value} (hv:VR ρ v v') (hl:VO ρ l l') (hh:VO ρ h h') (hm:VO ρ m m'):SR P VR ρ (Instr.sliceAt t v l h m) (Instr.sliceAt t v' l' h' m'):=by
 unfold Instr.sliceAt;refine(Av t).bind' fun σ d _ k e=>?_;subst e;have hv1:=hv.mono k;have vg:=hl.mono k;have hh1:=hh.mono k;have js:=hm.mono k;have other:SR P VR σ (Instr.slice t v l h m) (Instr.slice t v' l' h' m'):=by
  unfold Instr.slice;refine(Av t).bind' fun σ2 d2 _ k2 e=>?_;subst e;have hv2:=hv1.mono k2;have hl2:=vg.mono k2;have hh2:=hh1.mono k2;have hm2:=js.mono k2;cases d2 with
  | slice elem =>
   cases hv2 with
   | snil len cap =>
    refine(F9 true len cap hl2 hh2 hm2).bind' fun σ3 r _ k3 e=>?_;subst e;obtain⟨l1,h1,m1⟩:=r;dsimp only;refine(B2 elem).bind' fun σ4 n _ k4 e=>?_;subst e;have e:(if m1=l1 then (none:Option Addr) else Option.map (fun x:Addr=>x.add (l1 * n)) none)=none:=by split<;>rfl
    rw[e];exact .pure (.snil _ _)
   | slice len cap q =>
    refine(F9 true len cap hl2 hh2 hm2).bind' fun σ3 r _ k3 e=>?_;subst e;obtain⟨l1,h1,m1⟩:=r;dsimp only;refine(B2 elem).bind' fun σ4 n _ k4 e=>?_;subst e;have e:∀x:Addr,(if m1=l1 then some x else Option.map (fun x:Addr=>x.add (l1 * n)) (some x))=some (if m1=l1 then x else x.add (l1 * n)):=fun x=>by split<;>rfl
    rw[e,e];exact .pure (.slice _ _ (Apl ((q.mono k3).mono k4) _ _))
   | slz q =>
    refine(T7 true hl2 hh2 hm2).bind' fun σ3 r r' k3 e=>?_;obtain⟨rfl,rfl⟩:=e;dsimp only;refine(B2 elem).bind' fun σ4 n _ k4 e=>?_;subst e;exact .pure (.slz q)
   | _=>exact .halt
  | pointer Bu =>
   refine SR.bind' (Zc hv2) fun τ a a' kt ha=>?_;refine(Av Bu).bind' fun σ3 d3 _ k3 e=>?_;subst e;cases d3 with
   | array n elem =>
    dsimp only;refine(F9 false n n ((hl2.mono kt).mono k3) ((hh2.mono kt).mono k3) ((hm2.mono kt).mono k3)).bind' fun σ4 r _ k4 e=>?_;subst e;obtain⟨l1,h1,m1⟩:=r;dsimp only;refine(B2 elem).bind' fun σ5 n _ k5 e=>?_;subst e;exact .pure (.slice _ _ (Apl (((ha.mono k3).mono k4).mono k5) _ _))
   | _=>exact .halt
  | string=>cases hv2<;>exact .halt
  | _=>exact .halt
 cases d with
 | array n elem =>
  dsimp only;refine(G7 hv1).bind' fun σ2 a a' k2 ha=>?_;refine(F9 false n n (vg.mono k2) (hh1.mono k2) (js.mono k2)).bind' fun σ3 r _ k3 e=>?_;subst e;obtain⟨l1,h1,m1⟩:=r;dsimp only;refine(B2 elem).bind' fun σ4 n _ k4 e=>?_;subst e;exact .pure (.slice _ _ (Apl ((ha.mono k3).mono k4) _ _))
 | _=>exact other
inductive PsR (ρ:Bn):List (Nat × Value)->List (Nat × Value)->Prop
 | nil:PsR ρ [] []
 | cons {i:Nat} {v v':Value} {l l':List (Nat × Value)} (h:VR ρ v v') (k:PsR ρ l l'):PsR ρ ((i,v)::l) ((i,v')::l')
theorem PsR.mono {σ:Bn} (h:ρ.le σ) {l l':List (Nat × Value)} (k:PsR ρ l l'):PsR σ l l':=by
 induction k with
 | nil=>exact .nil
 | cons q _ ih=>exact .cons (q.mono h) ih
theorem LsR.mono {σ:Bn} (h:ρ.le σ) {l l':List Value} (k:LsR ρ l l'):LsR σ l l':=by
 induction k with
 | nil=>exact .nil
 | cons q _ ih=>exact .cons (q.mono h) ih
theorem LsR.array {l l':List Value} (k:LsR ρ l l'):Cx ρ l.toArray l'.toArray:=by
 have hl:l.length=l'.length:=by
  induction k with
  | nil=>rfl
  | cons _ _ ih=>simp[ih]
 refine⟨by simpa using hl,fun i h1 h2=>?_⟩;simp only[List.getElem_toArray];simp only[List.size_toArray] at h1 h2
 induction k generalizing i with
 | nil=>simp at h1
 | cons q _ ih =>
  cases i with
  | zero=>exact q
  | succ i=>exact ih (by simpa using hl) i (by simpa using h1) (by simpa using h2) (by simpa using h1) (by simpa using h2)
theorem X7 (off:Nat):∀ {l l':List Value},LsR ρ l l'->∀(n:Nat) {cs cs':Array Value},Cx ρ cs cs' ->
  Cx ρ ((l.zipIdx n).foldl (fun cs (x:Value × Nat)=>cs.setIfInBounds (off+x.2) x.1) cs) ((l'.zipIdx n).foldl (fun cs (x:Value × Nat)=>cs.setIfInBounds (off+x.2) x.1) cs')
 | _,_,.nil,n,_,_,hc=>hc
 | _,_,.cons h k,n,_,_,hc=>by
  rw[List.zipIdx_cons,List.zipIdx_cons,List.foldl_cons,List.foldl_cons];exact X7 off k (n+1) (hc.set (off+n) h)
theorem Z4 (off:Nat) (ds cs:Array Value):ds.zipIdx.foldl (fun cs (c,j)=>cs.setIfInBounds (off+j) c) cs=(ds.toList.zipIdx 0).foldl (fun cs (x:Value × Nat)=>cs.setIfInBounds (off+x.2) x.1) cs:=by
 rw[<- Array.foldl_toList]
 congr 1
 simp
theorem Abm (place:Nat->Option (Nat × Nat)) {l l':List (Nat × Value)} (k:PsR ρ l l'):∀ {cs cs':Array Value},Cx ρ cs cs' ->
  (Instr.fill place cs l=none/\Instr.fill place cs' l'=none)\/∃ds ds',Instr.fill place cs l=some ds/\Instr.fill place cs' l'=some ds'/\Cx ρ ds ds':=by
 induction k with
 | nil=>intro cs cs' hc;exact .inr ⟨cs,cs',rfl,rfl,hc⟩
 | @cons i v v' l l' hv _ ih =>
  intro cs cs' hc;unfold Instr.fill;have h1:=hv.cells;cases place i with
  | none=>exact .inl ⟨rfl,rfl⟩
  | some os =>
   obtain⟨off,size⟩:=os;dsimp only;rw[<- h1.size,<- hc.size];split
   ·exact .inl ⟨rfl,rfl⟩
   ·refine ih ?_;rw[Z4,Z4];exact X7 off h1.list 0 hc
theorem Ahf {α:Type} (f:Field->Sem α) (hf:∀σ x,SR P B5 σ (f x) (f x)):∀(l:List Field) (σ:Bn),SR P B5 σ (l.mapM f) (l.mapM f)
 | [],σ=>by rw[List.mapM_nil];exact SR.pure (X:=B5) rfl
 | x::l,σ=>by
  rw[List.mapM_cons];refine(hf σ x).bind' fun σ2 a _ _ e=>?_;subst e;refine(Ahf f hf l σ2).bind' fun σ3 as _ _ e=>?_;subst e;exact SR.pure (X:=B5) rfl
theorem Amr {t:TypeId} (hz:Adf P t=true) {parts parts':Array (Nat × Value)} (h:PsR ρ parts.toList parts'.toList):SR P VR ρ (Instr.build t parts) (Instr.build t parts'):=by
 unfold Instr.build;refine(Cs hz).bind' fun σ z z' hl hzz=>?_;dsimp only;refine(Av t).bind' fun σ2 d _ hl2 e=>?_;subst e;have h2:=(h.mono hl).mono hl2;have hc:=hzz.cells.mono hl2;cases d with
 | struct fields =>
  dsimp only;refine SR.bind' (X:=B5) ?_ fun σ3 places _ av e=>?_
  ·rw[Array.mapM_eq_mapM_toList];refine SR.bind' (X:=B5) (Ahf _ (fun σ f=>(B2 f.type).bind' fun _ n _ _ e=>by subst e;exact SR.pure (X:=B5) rfl) _ _) fun _ l _ _ e=>?_;subst e;exact SR.pure (X:=B5) rfl
  ·subst e;rcases Abm (places[·]?) (h2.mono av) (hc.mono av) with⟨e1,e2⟩|⟨ds,ds',e1,e2,hd⟩
   ·rw[e1,e2];exact .halt
   ·rw[e1,e2];exact SR.pure (VR.agg hd.size hd.at_)
 | array n elem =>
  dsimp only;refine(B2 elem).bind' fun σ3 n _ av e=>?_;subst e;rcases Abm (fun i=>some (i * n,n)) (h2.mono av) (hc.mono av) with⟨e1,e2⟩|⟨ds,ds',e1,e2,hd⟩
  ·rw[e1,e2];exact .halt
  ·rw[e1,e2];exact SR.pure (VR.agg hd.size hd.at_)
 | _=>exact .halt
theorem Pj {z z':Array Value} (h:Cx ρ z z') (n:Nat):Cx ρ ((Array.range n).map (z[· % z.size]!)) ((Array.range n).map (z'[· % z'.size]!)):=by
 refine⟨by simp,fun i h1 h2=>?_⟩;simp only[Array.getElem_map,Array.getElem_range];have e:=h.size;by_cases h0:z.size=0
 ·rw[h0] at e;have e1:z=#[]:=Array.eq_empty_of_size_eq_zero h0;have e2:z'=#[]:=Array.eq_empty_of_size_eq_zero e.symm;subst e1 e2;exact .bool false
 ·have hi:i % z.size < z.size:=Nat.mod_lt _ (by omega);rw[<- e,getElem!_pos z _ hi,getElem!_pos z' _ (by omega)];exact h.at_ _ hi (by omega)
def Mr (P:Program) (t:TypeId):Bool:=match P.underlying t with
 | some (.slice e)=>Adf P e
 | _=>true
theorem Aam {I δ:Type} {Y:Bn->I->δ->Prop} {t:TypeId} (hok:Mr P t=true) {f:TypeDesc->Sem I} {f':TypeDesc->Sem δ} (h:∀σ e,ρ.le σ->Adf P e=true->SR P Y σ (f (.slice e)) (f' (.slice e))) (h2:∀σ d,(∀e,d≠.slice e)->SR P Y σ (f d) (f' d)) :
  SR P Y ρ (underlying t >>= f) (underlying t >>= f'):=by
 refine SR.bind' (X:=fun _ a b=>a=b/\P.underlying t=some a) ?_ fun σ d _ hl e=>?_
 ·refine SR.program ?_;show SR P _ ρ (match P.underlying t with|some d=>pure d|none=>stuck "no such type") (match P.underlying t with|some d=>pure d|none=>stuck "no such type");cases hu:P.underlying t with
  | none=>exact .halt
  | some d=>exact SR.pure (X:=fun _ a b=>a=b/\some d=some a) ⟨rfl,rfl⟩
 ·obtain⟨rfl,hu⟩:=e;unfold Mr at hok;rw[hu] at hok;cases d with
  | slice e=>exact h σ e hl hok
  | _=>exact h2 σ _ (fun e q=>by cases q)
theorem Yq {t:TypeId} (hok:Mr P t=true) (len:Nat) {parts parts':Array (Nat × Value)} (h:PsR ρ parts.toList parts'.toList):SR P VR ρ (Instr.buildSlice t len parts) (Instr.buildSlice t len parts'):=by
 unfold Instr.buildSlice;refine Aam hok (fun σ elem hl hz=>?_) fun σ d hd=>?_
 ·dsimp only;refine(B2 elem).bind' fun σ2 size _ hl2 e=>?_;subst e;split
  ·exact .of_dead (.left (.halt _))
  ·split
   ·refine SR.pureBind ?_;rcases Abm (fun i=>some (i * size,size)) ((h.mono hl).mono hl2) (Pj Cx.empty (len * size)) with⟨e1,e2⟩|⟨ds,ds',e1,e2,hd⟩
    ·rw[e1,e2];exact .halt
    ·rw[e1,e2];exact(Dh elem hd).bind' fun _ _ _ _ ha=>SR.pure (VR.slice _ _ ha)
   ·refine(Cs hz).bind' fun σ3 z z' av hzz=>?_;refine SR.pureBind ?_;rcases Abm (fun i=>some (i * size,size)) (((h.mono hl).mono hl2).mono av) (Pj hzz.cells (len * size)) with⟨e1,e2⟩|⟨ds,ds',e1,e2,hd⟩
    ·rw[e1,e2];exact .halt
    ·rw[e1,e2];exact(Dh elem hd).bind' fun _ _ _ _ ha=>SR.pure (VR.slice _ _ ha)
 ·cases d with
  | slice e=>exact(hd e rfl).elim
  | _=>exact .halt
theorem Aak {t:TypeId} (hok:Mr P t=true) {v v' x x':Value} (h:VR ρ v v') (hx:VR ρ x x'):SR P VR ρ (Instr.makeSlice t v x) (Instr.makeSlice t v' x'):=by
 unfold Instr.makeSlice;refine Aam hok (fun σ elem hl hz=>?_) fun σ d hd=>?_
 ·dsimp only;refine(Ps h).bind' fun σ2 a _ hl2 e=>?_;subst e;refine(Ps hx).bind' fun σ3 b _ av e=>?_;subst e;refine(Ba elem).bind' fun σ4 i _ hl4 e=>?_;subst e;split
  ·exact .of_dead (.ite (.left (Ao _)) (.ite (.left (Ao _)) (.bind (.choose _) fun _=>.left (Ao _))))
  ·refine(Fq _).bind' fun σ5 _ _ cv _=>?_;refine(B2 elem).bind' fun σ6 size _ fu e=>?_;subst e;split
   ·refine SR.pureBind ?_;exact(Dh elem (Pj Cx.empty _)).bind' fun _ _ _ _ ha=>SR.pure (VR.slice _ _ ha)
   ·refine(Cs hz).bind' fun σ7 z z' ku hzz=>?_;refine SR.pureBind ?_;exact(Dh elem (Pj hzz.cells _)).bind' fun _ _ _ _ ha=>SR.pure (VR.slice _ _ ha)
 ·cases d with
  | slice e=>exact(hd e rfl).elim
  | _=>exact .halt
theorem Aqq (t:TypeId) {cs cs':Array Value} (h:Cx ρ cs cs') (off:Nat):SR P VR ρ (part t cs off) (part t cs' off):=by
 unfold part;refine(Acn t).bind' fun σ b _ hl e=>?_;subst e;have h1:=h.mono hl;cases b with
 | true =>
  refine(B2 t).bind' fun σ2 n _ hl2 e=>?_;subst e;have h2:=h1.mono hl2;refine SR.pure (VR.agg (by simp[h2.size]) fun i q1 q2=>?_);simp only[Array.getElem_extract];exact h2.at_ _ _ _
 | false =>
  rcases h1.get off with⟨e1,e2⟩|⟨v,v',e1,e2,hv⟩
  ·simp only[e1,e2];exact .halt
  ·simp only[e1,e2];exact SR.pure hv
theorem Amp (t:TypeId) {v v' x x':Value} (h:VR ρ v v') (hx:VR ρ x x'):SR P VR ρ (Instr.index t v x) (Instr.index t v' x'):=by
 unfold Instr.index;refine(Ih hx).bind' fun σ ki _ hl e=>?_;subst e;obtain⟨k,i⟩:=ki;refine(Av t).bind' fun σ2 d _ hl2 e=>?_;subst e;have h2:=(h.mono hl).mono hl2;cases d with
 | array len elem =>
  cases h2 with
  | agg hs hh =>
   dsimp only;split
   ·refine(B2 elem).bind' fun σ3 n _ av e=>?_;subst e;exact Aqq elem (Cx.mono av ⟨hs,hh⟩) _
   ·exact .of_dead (E4 _ _ _ _)
  | _=>exact .halt
 | string=>cases h2<;>exact .halt
 | _=>exact .halt
theorem Afc {v v':Value} (h:VR ρ v v') (i:Nat):SR P VR ρ (Instr.extract v i) (Instr.extract v' i):=by
 unfold Instr.extract;cases h with
 | tuple hs hh =>
  rcases Cx.get (⟨hs,hh⟩:Cx ρ _ _) i with⟨e1,e2⟩|⟨u,u',e1,e2,hv⟩
  ·simp only[e1,e2];exact .halt
  ·simp only[e1,e2];exact SR.pure hv
 | _=>exact .halt
theorem Ga {v v':Value} {ρ0:Bn} (h:VR ρ0 v v'):SR P B5 ρ (Builtin.lenOf v) (Builtin.lenOf v'):=by
 cases h<;>first|exact .halt|exact SR.pure (X:=B5) rfl
theorem Acm {a a':Addr} (q:a.spot.isSome=true) (n:Nat):SR P Cx ρ (loadCells a n) (loadCells a' n):=by
 cases n with
 | zero=>exact SR.pure (X:=Cx) Cx.empty
 | succ n=>exact SR.loadVoid q
theorem Lj {a a':Addr} (q:a.spot.isSome=true) {l l':List Value} (h:l.length=l'.length):SR P B5 ρ (storeCells a l 0) (storeCells a' l' 0):=by
 cases l with
 | nil =>
  cases l' with
  | nil=>exact SR.pure (X:=B5) rfl
  | cons _ _=>simp at h
 | cons v l=>exact SR.storeVoid q
theorem Ar (size n:Nat) {v v':Value} (h:VR ρ v v'):SR P Cx ρ (Builtin.firstCells size n v) (Builtin.firstCells size n v'):=by
 cases h with
 | slice l c ha=>exact Pr ha _
 | snil l c=>exact SR.pure (X:=Cx) Cx.empty
 | slz q=>exact Acm q _
 | _=>exact .halt
theorem Atm (ts:Array TypeId) (t:TypeId) {as as':Array Value} (h:Cx ρ as as'):SR P VR ρ (Builtin.len_ ts t as) (Builtin.len_ ts t as'):=by
 unfold Builtin.len_;rcases h.get 0 with⟨e1,e2⟩|⟨v,v',e1,e2,hv⟩
 ·rw[e1,e2];cases ts[0]?<;>exact .halt
 ·rw[e1,e2];cases ts[0]? with
  | none=>exact .halt
  | some u =>
   dsimp only;refine(Av u).bind' fun σ2 d _ hl2 e=>?_;subst e;have h2:=hv.mono hl2;cases d with
   | string=>cases h2<;>first|exact .halt|exact SR.pure (VR.int _ _)
   | array n e=>exact SR.pure (VR.int _ _)
   | pointer Bu =>
    dsimp only;refine(Av Bu).bind' fun σ3 d3 _ av e=>?_;subst e;cases d3 with
    | array n e=>exact SR.pure (VR.int _ _)
    | _=>exact .halt
   | slice e=>cases h2<;>first|exact .halt|exact SR.pure (VR.int _ _)
   | map k e=>cases h2<;>exact .halt
   | chan d e=>cases h2<;>exact .halt
   | _=>exact .halt
theorem Atn (ts:Array TypeId) (t:TypeId) {as as':Array Value} (h:Cx ρ as as'):SR P VR ρ (Builtin.cap_ ts t as) (Builtin.cap_ ts t as'):=by
 unfold Builtin.cap_;rcases h.get 0 with⟨e1,e2⟩|⟨v,v',e1,e2,hv⟩
 ·rw[e1,e2];cases ts[0]?<;>exact .halt
 ·rw[e1,e2];cases ts[0]? with
  | none=>exact .halt
  | some u =>
   dsimp only;refine(Av u).bind' fun σ2 d _ hl2 e=>?_;subst e;have h2:=hv.mono hl2;cases d with
   | array n e=>exact SR.pure (VR.int _ _)
   | pointer Bu =>
    dsimp only;refine(Av Bu).bind' fun σ3 d3 _ av e=>?_;subst e;cases d3 with
    | array n e=>exact SR.pure (VR.int _ _)
    | _=>exact .halt
   | slice e=>cases h2<;>first|exact .halt|exact SR.pure (VR.int _ _)
   | chan d e=>cases h2<;>exact .halt
   | _=>exact .halt
theorem Aqv (ts:Array TypeId) (t:TypeId) {as as':Array Value} (h:Cx ρ as as'):SR P VR ρ (Builtin.copy_ ts t as) (Builtin.copy_ ts t as'):=by
 unfold Builtin.copy_;rcases h.get 0 with⟨e1,e2⟩|⟨v,v',e1,e2,hv⟩
 ·rw[e1,e2];cases ts[0]?<;>exact .halt
 ·rcases h.get 1 with⟨f1,f2⟩|⟨x,x',f1,f2,hx⟩
  ·rw[e1,e2,f1,f2];cases ts[0]?<;>exact .halt
  ·rw[e1,e2,f1,f2];cases ts[0]? with
   | none=>exact .halt
   | some u =>
    dsimp only;refine(Av u).bind' fun σ2 d _ hl2 e=>?_;subst e;have h2:=hv.mono hl2;have hx2:=hx.mono hl2;cases d with
    | slice elem =>
     cases h2 with
     | snil l c =>
      dsimp only;refine(Ga hx2).bind' fun σ3 n _ av e=>?_;subst e;refine(B2 elem).bind' fun σ4 size _ hl4 e=>?_;subst e;refine(Ar _ _ ((hx2.mono av).mono hl4)).bind' fun σ5 cs cs' cv hc=>?_;exact SR.pure (VR.int _ _)
     | slice l c ha =>
      dsimp only;refine(Ga hx2).bind' fun σ3 n _ av e=>?_;subst e;refine(B2 elem).bind' fun σ4 size _ hl4 e=>?_;subst e;refine(Ar _ _ ((hx2.mono av).mono hl4)).bind' fun σ5 cs cs' cv hc=>?_;refine(Gy (((ha.mono av).mono hl4).mono cv) hc.list 0).bind' fun _ _ _ _ _=>?_;exact SR.pure (VR.int _ _)
     | slz q =>
      dsimp only;refine(Ga hx2).bind' fun σ3 n _ av e=>?_;subst e;refine(B2 elem).bind' fun σ4 size _ hl4 e=>?_;subst e;refine(Ar _ _ ((hx2.mono av).mono hl4)).bind' fun σ5 cs cs' cv hc=>?_;refine(Lj q (by simpa using hc.size)).bind' fun _ _ _ _ _=>?_;exact SR.pure (VR.int _ _)
     | _=>exact .halt
    | _=>exact .halt
theorem Aqs {v v' x x':Value} (h:VR ρ v v') (hx:VR ρ x x'):SR P VR ρ (Builtin.min2 v x) (Builtin.min2 v' x'):=by
 cases h<;>cases hx<;>first|exact .halt|exact SR.pure (VR.int _ _)
theorem Amo:∀ {l l':List Value} {σ:Bn} {x x':Value},LsR σ l l'->VR σ x x'->SR P VR σ (l.foldlM Builtin.min2 x) (l'.foldlM Builtin.min2 x')
 | _,_,_,_,_,.nil,h=>SR.pure h
 | _,_,_,_,_,.cons hv k,h=>by
  rw[List.foldlM_cons,List.foldlM_cons];exact(Aqs h hv).bind' fun σ2 a b hl2 q=>Amo (k.mono hl2) q
theorem Aqr (ts:Array TypeId) (t:TypeId) {as as':Array Value} (h:Cx ρ as as'):SR P VR ρ (Builtin.min_ ts t as) (Builtin.min_ ts t as'):=by
 unfold Builtin.min_;have:=h.list;generalize as.toList=l at *;generalize as'.toList=l' at *;cases this with
 | nil=>exact .halt
 | cons hv k=>exact Amo k hv
def Fl (P:Program) (s:Sem Value):Prop:=F5 P s\/∃v,s=.pure v/\∀ρ,VR ρ v v
theorem Fl.sr {s:Sem Value} (h:Fl P s):SR P VR ρ s s:=by
 rcases h with h|⟨v,rfl,h⟩
 ·exact .of_dead h
 ·exact SR.pure (h ρ)
theorem Mz (k:IntKind) (n:Int):Fl P (pure (.int k n)):=.inr ⟨_,rfl,fun _=>.int _ _⟩
theorem Zv (b:Bool):Fl P (pure (.bool b)):=.inr ⟨_,rfl,fun _=>.bool _⟩
theorem Wy (op:BinOp) (k:IntKind) (x:Int) (yk:IntKind) (y:Int):Fl P (Op.shift op k x yk y):=by
 unfold Op.shift;split
 ·exact .inl (Ao _)
 ·dsimp only;split<;>first|exact Mz _ _|exact .inl (.halt _)
theorem Wz (op:BinOp) (k:IntKind) (x y:Int):Fl P (Op.intArith op k x y):=by
 unfold Op.intArith;split<;>first|exact Mz _ _|exact .inl (.halt _)
theorem Aop (op:BinOp) (k:IntKind) (x y:Int):Fl P (Op.intDiv op k x y):=by
 unfold Op.intDiv;split
 ·exact .inl (Ao _)
 ·split<;>first|exact Mz _ _|exact .inl (.halt _)
theorem Zw (op:BinOp) (k:IntKind) (x y:Int):Fl P (Op.intBits op k x y):=by
 unfold Op.intBits;dsimp only;split<;>first|exact Mz _ _|exact .inl (.halt _)
theorem Aoq (op:BinOp) (x y:Int):Fl P (Op.intCmp op x y):=by
 unfold Op.intCmp;split<;>first|exact Zv _|exact .inl (.halt _)
theorem Io (op:BinOp) (t:TypeId) (k k':IntKind) (a b:Int):Fl P (binOp op t (.int k a) (.int k' b)):=by
 cases op
 case shl =>
  simp only[binOp];exact Wy _ _ _ _ _
 case shr =>
  simp only[binOp];exact Wy _ _ _ _ _
 all_goals
  simp only[binOp];split
  ·exact .inl (.halt _)
  ·first|exact Wz _ _ _ _|exact Aop _ _ _ _|exact Zw _ _ _ _|exact Aoq _ _ _
theorem Ma (a:Addr) (n:Nat):Fi P (Builtin.holdsCells a n):=by
 unfold Builtin.holdsCells;refine .bind (.shape _) fun s=>?_;cases s with
 | none=>exact .pure _
 | some x=>exact .pure _
theorem El (size l n:Nat) (base:Option Addr) (x:Value):Fi P (Builtin.mayShare size l n base x):=by
 unfold Builtin.mayShare;have tail:∀b:Bool,Fi P (if (!b)=true then pure true else match x with
   | .slice (some c) _ _=>do pure (!(<- Builtin.holdsCells c (n * size))||base.any (·.block==c.block))
   | _=>pure false):=fun b=>by
  cases b with
  | false=>exact .pure _
  | true =>
   cases x<;>first
    | exact .pure _
    |(rename_i a l c
      cases a with
      | none=>exact .pure _
      | some b=>exact .bind (Ma _ _) fun b=>.pure _)
 cases base with
 | none=>exact .bind (.pure _) fun b=>tail b
 | some a=>exact .bind (Ma _ _) fun b=>.bind (.frozen _) fun c=>.bind (.pure _) fun b=>tail b
theorem Kl {z z':Array Value} (h:Cx ρ z z') (n:Nat):Cx ρ (Builtin.zeroCells z n) (Builtin.zeroCells z' n):=by
 unfold Builtin.zeroCells;have:=Pj h (n * z.size);rw[<- h.size];rw[<- h.size] at this;exact this
theorem Ex (t:TypeId):SR P (fun _ a b=>a=b/\P.underlying t=some a) ρ (underlying t) (underlying t):=by
 refine SR.program ?_;show SR P _ ρ (match P.underlying t with|some d=>pure d|none=>stuck "no such type") (match P.underlying t with|some d=>pure d|none=>stuck "no such type");cases hu:P.underlying t with
 | none=>exact .halt
 | some d=>exact SR.pure (X:=fun _ a b=>a=b/\some d=some a) ⟨rfl,rfl⟩
theorem Ai1 (ts:Array TypeId) (t:TypeId) (hok:∀u,ts[0]?=some u->Mr P u=true) (hz:∀u,ts[1]?=some u->∀k,P.underlying u≠some (.int k)) {as as':Array Value} (h:Cx ρ as as'):SR P VR ρ (Builtin.append_ ts t as) (Builtin.append_ ts t as'):=by
 unfold Builtin.append_;rcases h.get 0 with⟨e1,e2⟩|⟨v,v',e1,e2,hv⟩
 ·rw[e1,e2];cases ts[0]?<;>exact .halt
 ·rcases h.get 1 with⟨f1,f2⟩|⟨x,x',f1,f2,hx⟩
  ·rw[e1,e2,f1,f2];cases ts[0]?<;>exact .halt
  ·rw[e1,e2,f1,f2];cases hu:ts[0]? with
   | none=>exact .halt
   | some u =>
    dsimp only;refine Aam (hok u hu) (fun σ elem hl hzz=>?_) fun σ d hd=>?_
    ·have h2:=hv.mono hl;have hx2:=hx.mono hl;cases h2 with
     | snil l c =>
      dsimp only;refine(B2 elem).bind' fun σ2 size _ hl2 e=>?_;subst e;cases hu1:ts[1]? with
      | none =>
        dsimp only;refine SR.pureBind ?_;have hx3:=hx2.mono hl2;simp only[Bool.false_eq_true,if_false,Bool.not_false,if_true,false_or];refine(Ga hx3).bind' fun σ4 n _ hl4 e=>?_;subst e;split
        ·refine(Ar size n (hx3.mono hl4)).bind' fun σ5 new new' cv hn=>?_
         ·exact SR.pure (VR.snil _ _)
        ·refine(Ba elem).bind' fun σ5 i _ cv e=>?_;subst e;split
         ·exact .of_dead (.left (Ao _))
         ·refine(Ba elem).bind' fun σ6 i2 _ fu e=>?_;subst e;split
          ·exact .of_dead (.left (.bind (El _ _ _ _ _) fun b=>.ite (.bind (.mark _) fun _=>.halt _) (.halt _)))
          ·refine SR.bind' (X:=B5) (SR.choose fun n=>SR.pure (X:=B5) rfl) fun σ7 nc _ ku e=>?_;subst e;refine(Ba elem).bind' fun σ8 i3 _ jh e=>?_;subst e;refine(Fq _).bind' fun σ9 _ _ lg _=>?_;have m9:=((((hx3.mono hl4).mono cv).mono fu).mono ku).mono (Bn.le_trans jh lg);refine(Ar size l (VR.snil _ _)).bind' fun σ10 old old' ez ho=>?_;refine(Ar size n (m9.mono ez)).bind' fun σ11 new new' ey hn=>?_;refine(Cs hzz).bind' fun σ12 z z' hl12 hz1=>?_;refine(Dh elem (Cx.append (Cx.append ((ho.mono ey).mono hl12) (hn.mono hl12)) (Kl hz1.cells _))).bind' fun _ _ _ _ hr=>?_;exact SR.pure (VR.slice _ _ hr)
      | some u1 =>
        dsimp only;refine SR.bind' (Ex u1) fun σ3 d _ av e=>?_;obtain⟨rfl,hd⟩:=e;have hx3:=(hx2.mono hl2).mono av;cases d<;>first
         | exact absurd hd (hz u1 hu1 _)
         | skip
        all_goals
         refine SR.pureBind ?_;simp only[Bool.false_eq_true,if_false,Bool.not_false,if_true,false_or];refine(Ga hx3).bind' fun σ4 n _ hl4 e=>?_;subst e;split
         ·refine(Ar size n (hx3.mono hl4)).bind' fun σ5 new new' cv hn=>?_
          ·exact SR.pure (VR.snil _ _)
         ·refine(Ba elem).bind' fun σ5 i _ cv e=>?_;subst e;split
          ·exact .of_dead (.left (Ao _))
          ·refine(Ba elem).bind' fun σ6 i2 _ fu e=>?_;subst e;split
           ·exact .of_dead (.left (.bind (El _ _ _ _ _) fun b=>.ite (.bind (.mark _) fun _=>.halt _) (.halt _)))
           ·refine SR.bind' (X:=B5) (SR.choose fun n=>SR.pure (X:=B5) rfl) fun σ7 nc _ ku e=>?_;subst e;refine(Ba elem).bind' fun σ8 i3 _ jh e=>?_;subst e;refine(Fq _).bind' fun σ9 _ _ lg _=>?_;have m9:=((((hx3.mono hl4).mono cv).mono fu).mono ku).mono (Bn.le_trans jh lg);refine(Ar size l (VR.snil _ _)).bind' fun σ10 old old' ez ho=>?_;refine(Ar size n (m9.mono ez)).bind' fun σ11 new new' ey hn=>?_;refine(Cs hzz).bind' fun σ12 z z' hl12 hz1=>?_;refine(Dh elem (Cx.append (Cx.append ((ho.mono ey).mono hl12) (hn.mono hl12)) (Kl hz1.cells _))).bind' fun _ _ _ _ hr=>?_;exact SR.pure (VR.slice _ _ hr)
     | slice l c ha =>
      dsimp only;refine(B2 elem).bind' fun σ2 size _ hl2 e=>?_;subst e;cases hu1:ts[1]? with
      | none =>
        dsimp only;refine SR.pureBind ?_;have hx3:=hx2.mono hl2;have y5:=(ha.mono hl2);simp only[Bool.false_eq_true,if_false,Bool.not_false,if_true,false_or];refine(Ga hx3).bind' fun σ4 n _ hl4 e=>?_;subst e;split
        ·refine(Ar size n (hx3.mono hl4)).bind' fun σ5 new new' cv hn=>?_
         ·refine(Gy ((((y5.mono hl4).mono cv)).add _) hn.list 0).bind' fun _ _ _ fu _=>?_;exact SR.pure (VR.slice _ _ (((y5.mono hl4).mono cv).mono fu))
        ·refine(Ba elem).bind' fun σ5 i _ cv e=>?_;subst e;split
         ·exact .of_dead (.left (Ao _))
         ·refine(Ba elem).bind' fun σ6 i2 _ fu e=>?_;subst e;split
          ·exact .of_dead (.left (.bind (El _ _ _ _ _) fun b=>.ite (.bind (.mark _) fun _=>.halt _) (.halt _)))
          ·refine SR.bind' (X:=B5) (SR.choose fun n=>SR.pure (X:=B5) rfl) fun σ7 nc _ ku e=>?_;subst e;refine(Ba elem).bind' fun σ8 i3 _ jh e=>?_;subst e;refine(Fq _).bind' fun σ9 _ _ lg _=>?_;have m9:=((((hx3.mono hl4).mono cv).mono fu).mono ku).mono (Bn.le_trans jh lg);have ha9:=((((y5.mono hl4).mono cv).mono fu).mono ku).mono (Bn.le_trans jh lg);refine(Ar size l (VR.slice _ _ ha9)).bind' fun σ10 old old' ez ho=>?_;refine(Ar size n (m9.mono ez)).bind' fun σ11 new new' ey hn=>?_;refine(Cs hzz).bind' fun σ12 z z' hl12 hz1=>?_;refine(Dh elem (Cx.append (Cx.append ((ho.mono ey).mono hl12) (hn.mono hl12)) (Kl hz1.cells _))).bind' fun _ _ _ _ hr=>?_;exact SR.pure (VR.slice _ _ hr)
      | some u1 =>
        dsimp only;refine SR.bind' (Ex u1) fun σ3 d _ av e=>?_;obtain⟨rfl,hd⟩:=e;have hx3:=(hx2.mono hl2).mono av;have y5:=((ha.mono hl2).mono av);cases d<;>first
         | exact absurd hd (hz u1 hu1 _)
         | skip
        all_goals
         refine SR.pureBind ?_;simp only[Bool.false_eq_true,if_false,Bool.not_false,if_true,false_or];refine(Ga hx3).bind' fun σ4 n _ hl4 e=>?_;subst e;split
         ·refine(Ar size n (hx3.mono hl4)).bind' fun σ5 new new' cv hn=>?_
          ·refine(Gy ((((y5.mono hl4).mono cv)).add _) hn.list 0).bind' fun _ _ _ fu _=>?_;exact SR.pure (VR.slice _ _ (((y5.mono hl4).mono cv).mono fu))
         ·refine(Ba elem).bind' fun σ5 i _ cv e=>?_;subst e;split
          ·exact .of_dead (.left (Ao _))
          ·refine(Ba elem).bind' fun σ6 i2 _ fu e=>?_;subst e;split
           ·exact .of_dead (.left (.bind (El _ _ _ _ _) fun b=>.ite (.bind (.mark _) fun _=>.halt _) (.halt _)))
           ·refine SR.bind' (X:=B5) (SR.choose fun n=>SR.pure (X:=B5) rfl) fun σ7 nc _ ku e=>?_;subst e;refine(Ba elem).bind' fun σ8 i3 _ jh e=>?_;subst e;refine(Fq _).bind' fun σ9 _ _ lg _=>?_;have m9:=((((hx3.mono hl4).mono cv).mono fu).mono ku).mono (Bn.le_trans jh lg);have ha9:=((((y5.mono hl4).mono cv).mono fu).mono ku).mono (Bn.le_trans jh lg);refine(Ar size l (VR.slice _ _ ha9)).bind' fun σ10 old old' ez ho=>?_;refine(Ar size n (m9.mono ez)).bind' fun σ11 new new' ey hn=>?_;refine(Cs hzz).bind' fun σ12 z z' hl12 hz1=>?_;refine(Dh elem (Cx.append (Cx.append ((ho.mono ey).mono hl12) (hn.mono hl12)) (Kl hz1.cells _))).bind' fun _ _ _ _ hr=>?_;exact SR.pure (VR.slice _ _ hr)
     | slz q =>
      dsimp only;refine(B2 elem).bind' fun σ2 size _ hl2 e=>?_;subst e;cases hu1:ts[1]? with
      | none =>
        dsimp only;refine SR.pureBind ?_;have hx3:=hx2.mono hl2;simp only[Bool.false_eq_true,if_false,Bool.not_false,if_true,false_or];refine(Ga hx3).bind' fun σ4 n _ hl4 e=>?_;subst e;split
        ·refine(Ar size n (hx3.mono hl4)).bind' fun σ5 new new' cv hn=>?_
         ·refine(Lj (by rw[Nat.zero_mul];exact q) (by simpa using hn.size)).bind' fun _ _ _ fu _=>?_;exact SR.pure (by rename_i hq;have hn0:n=0:=(by omega);subst hn0;exact VR.slz q)
        ·refine(Ba elem).bind' fun σ5 i _ cv e=>?_;subst e;split
         ·exact .of_dead (.left (Ao _))
         ·refine(Ba elem).bind' fun σ6 i2 _ fu e=>?_;subst e;split
          ·exact .of_dead (.left (.bind (El _ _ _ _ _) fun b=>.ite (.bind (.mark _) fun _=>.halt _) (.halt _)))
          ·refine SR.bind' (X:=B5) (SR.choose fun n=>SR.pure (X:=B5) rfl) fun σ7 nc _ ku e=>?_;subst e;refine(Ba elem).bind' fun σ8 i3 _ jh e=>?_;subst e;refine(Fq _).bind' fun σ9 _ _ lg _=>?_;have m9:=((((hx3.mono hl4).mono cv).mono fu).mono ku).mono (Bn.le_trans jh lg);refine(Ar size 0 (VR.slz q)).bind' fun σ10 old old' ez ho=>?_;refine(Ar size n (m9.mono ez)).bind' fun σ11 new new' ey hn=>?_;refine(Cs hzz).bind' fun σ12 z z' hl12 hz1=>?_;refine(Dh elem (Cx.append (Cx.append ((ho.mono ey).mono hl12) (hn.mono hl12)) (Kl hz1.cells _))).bind' fun _ _ _ _ hr=>?_;exact SR.pure (VR.slice _ _ hr)
      | some u1 =>
        dsimp only;refine SR.bind' (Ex u1) fun σ3 d _ av e=>?_;obtain⟨rfl,hd⟩:=e;have hx3:=(hx2.mono hl2).mono av;cases d<;>first
         | exact absurd hd (hz u1 hu1 _)
         | skip
        all_goals
         refine SR.pureBind ?_;simp only[Bool.false_eq_true,if_false,Bool.not_false,if_true,false_or];refine(Ga hx3).bind' fun σ4 n _ hl4 e=>?_;subst e;split
         ·refine(Ar size n (hx3.mono hl4)).bind' fun σ5 new new' cv hn=>?_
          ·refine(Lj (by rw[Nat.zero_mul];exact q) (by simpa using hn.size)).bind' fun _ _ _ fu _=>?_;exact SR.pure (by rename_i hq;have hn0:n=0:=(by omega);subst hn0;exact VR.slz q)
         ·refine(Ba elem).bind' fun σ5 i _ cv e=>?_;subst e;split
          ·exact .of_dead (.left (Ao _))
          ·refine(Ba elem).bind' fun σ6 i2 _ fu e=>?_;subst e;split
           ·exact .of_dead (.left (.bind (El _ _ _ _ _) fun b=>.ite (.bind (.mark _) fun _=>.halt _) (.halt _)))
           ·refine SR.bind' (X:=B5) (SR.choose fun n=>SR.pure (X:=B5) rfl) fun σ7 nc _ ku e=>?_;subst e;refine(Ba elem).bind' fun σ8 i3 _ jh e=>?_;subst e;refine(Fq _).bind' fun σ9 _ _ lg _=>?_;have m9:=((((hx3.mono hl4).mono cv).mono fu).mono ku).mono (Bn.le_trans jh lg);refine(Ar size 0 (VR.slz q)).bind' fun σ10 old old' ez ho=>?_;refine(Ar size n (m9.mono ez)).bind' fun σ11 new new' ey hn=>?_;refine(Cs hzz).bind' fun σ12 z z' hl12 hz1=>?_;refine(Dh elem (Cx.append (Cx.append ((ho.mono ey).mono hl12) (hn.mono hl12)) (Kl hz1.cells _))).bind' fun _ _ _ _ hr=>?_;exact SR.pure (VR.slice _ _ hr)
     | _=>exact .halt
    ·cases d with
     | slice e=>exact(hd e rfl).elim
     | _=>exact .halt
end
end Go.Proofs.YtbicafgmfgdckaaGreatDoor
