/- Operations at alike values are alike: the instructions. For any program. Operations at alike values are alike: literals, slices' makers, the built-in functions. For any program. -/
import Derived.Test.YtbicafgmfgdckaaDoorMgAc
import Derived.Laws.Sem
namespace Go.Proofs.YtbicafgmfgdckaaDoor
open Go

section
variable {P:Program} {ρ:Ren}
theorem sr_alloc {t:TypeId} (h:okTy P t=true):SR P VR ρ (Instr.alloc t true (.tuple #[])) (Instr.alloc t true (.tuple #[])):=by
 unfold Instr.alloc
 refine(sr_zeroValue h).bind' fun σ z z' _ hz=>?_
 exact(sr_newRow t hz.cells).bind' fun _ _ _ _ ha=>.pure (.ptr ha)
theorem sr_box (t:TypeId) {v v':Value} (h:VR ρ v v'):SR P VR ρ (Instr.box t v) (Instr.box t v'):=by
 unfold Instr.box
 exact(sr_newRow t h.cells).bind' fun _ _ _ _ ha=>.pure (.ptr ha)
theorem sr_loadAt (t:TypeId) {v v':Value} (h:VR ρ v v'):SR P VR ρ (Instr.loadAt t v) (Instr.loadAt t v'):=by
 unfold Instr.loadAt
 exact(sr_sureAddr h).bind' fun _ _ _ _ ha=>sr_loadVar t ha
theorem sr_storeAt (t:TypeId) {v v' x x':Value} (h:VR ρ v v') (hx:VR ρ x x'):SR P Same ρ (Instr.storeAt t v x) (Instr.storeAt t v' x'):=by
 unfold Instr.storeAt
 exact(sr_sureAddr h).bind' fun _ _ _ hl ha=>sr_storeVar t ha (hx.mono hl)
def okField (P:Program) (s:TypeId) (f:Nat):Bool:=match P.underlying s with
 | some (.struct fields)=>(match fields[f]? with
  | some d=>(match P.info? d.type with|some i=>i.size != 0|none=>true)
  | none=>true)
 | _=>true
theorem sr_fieldAt {s:TypeId} {f:Nat} (hok:okField P s f=true) {v v':Value} (h:VR ρ v v'):SR P VR ρ (Instr.fieldAt s v f) (Instr.fieldAt s v' f):=by
 unfold Instr.fieldAt
 refine SR.bind' (X:=fun _ a b=>a=b/\P.underlying s=some a) ?_ fun σ d _ hl e=>?_
 ·refine SR.program ?_
  show SR P _ ρ (match P.underlying s with|some d=>pure d|none=>stuck "no such type") (match P.underlying s with|some d=>pure d|none=>stuck "no such type")
  cases hu:P.underlying s with
  | none=>exact .halt
  | some d=>exact SR.pure (X:=fun _ a b=>a=b/\some d=some a) ⟨rfl,rfl⟩
 ·obtain⟨rfl,hu⟩:=e
  cases d with
  | struct fields =>
   unfold okField at hok
   rw[hu] at hok
   dsimp only at hok ⊢
   cases hf:fields[f]? with
   | none=>exact .halt
   | some d =>
    rw[hf] at hok
    dsimp only at hok ⊢
    refine(sr_sureAddr (h.mono hl)).bind' fun σ2 a a' _ ha=>?_
    refine SR.bind' (X:=AR) ?_ fun _ _ _ _ q=>.pure (.ptr q)
    unfold fieldPlace
    refine SR.bind' (X:=fun _ a b=>a=b/\a≠0) ?_ fun σ3 n _ hl3 e=>?_
    ·refine SR.program ?_
     show SR P _ σ2 ((match P.info? d.type with|some i=>pure i|none=>stuck "no such type":Sem TypeInfo).bind _) ((match P.info? d.type with|some i=>pure i|none=>stuck "no such type":Sem TypeInfo).bind _)
     cases hi:P.info? d.type with
     | none=>exact .halt
     | some i =>
      rw[hi] at hok
      exact SR.pure (X:=fun _ a b=>a=b/\a≠0) ⟨rfl,by simpa using hok⟩
    ·obtain⟨rfl,hn⟩:=e
     rw[if_neg hn,if_neg hn]
     exact .pure ((ha.mono hl3).add _)
  | _=>exact .halt
theorem sr_indexAt (t:TypeId) {v v' x x':Value} (h:VR ρ v v') (hx:VR ρ x x'):SR P VR ρ (Instr.indexAt t v x) (Instr.indexAt t v' x'):=by
 unfold Instr.indexAt
 refine(sr_asIntOf hx).bind' fun σ ki _ hl e=>?_
 subst e
 obtain⟨k,i⟩:=ki
 dsimp only
 have h1:=h.mono hl
 refine(sr_underlying t).bind' fun σ2 d _ hl2 e=>?_
 subst e
 have h2:=h1.mono hl2
 cases d with
 | array len elem =>
  dsimp only
  refine(sr_sureAddr h2).bind' fun σ4 a a' hl4 ha=>?_
  refine SR.pureBind ?_
  refine(sr_underlying t).bind' fun σ3 d3 _ hl3 e=>?_
  subst e
  dsimp only
  split
  ·refine(sr_sizeOf elem).bind' fun _ n _ hl4 e=>?_
   subst e
   exact .pure (.ptr (((ha.mono hl3).mono hl4).add _))
  ·exact .of_dead (.ite (.halt _) (dead_bounds _ _ _ _))
 | slice elem =>
  cases h2<;>first
   | exact .halt
   | exact .of_dead (.left (.halt _))
   |(refine SR.pureBind ?_
     refine(sr_underlying t).bind' fun σ3 d3 _ hl3 e=>?_
     subst e
     exact .of_dead (dead_bounds _ _ _ _))
   |(refine SR.pureBind ?_
     refine(sr_underlying t).bind' fun σ3 d3 _ hl3 e=>?_
     subst e
     dsimp only
     split
     ·rename_i hq
      exact absurd hq (by omega)
     ·exact .of_dead (.ite (.halt _) (dead_bounds _ _ _ _)))
   |(rename_i ha
     refine SR.pureBind ?_
     refine(sr_underlying t).bind' fun σ3 d3 _ hl3 e=>?_
     subst e
     dsimp only
     split
     ·refine(sr_sizeOf elem).bind' fun _ n _ hl4 e=>?_
      subst e
      exact .pure (.ptr (((ha.mono hl3).mono hl4).add _))
     ·exact .of_dead (.ite (.halt _) (dead_bounds _ _ _ _)))
 | _=>exact .of_dead (.left (.halt _))
theorem sr_sliceBound {ρ0:Ren} {v v':Value} (h:VR ρ0 v v') (y:Nat) (c:BoundsCode):SR P Same ρ (Instr.sliceBound v y c) (Instr.sliceBound v' y c):=by
 unfold Instr.sliceBound
 refine(sr_asIntOf h).bind' fun σ ki _ hl e=>?_
 subst e
 obtain⟨k,i⟩:=ki
 dsimp only
 split
 ·exact SR.pure (X:=Same) rfl
 ·exact .of_dead (dead_bounds _ _ _ _)
inductive VO (ρ:Ren):Option Value->Option Value->Prop
 | none:VO ρ none none
 | some {v v':Value} (h:VR ρ v v'):VO ρ (some v) (some v')
theorem VO.mono {σ:Ren} (h:ρ.le σ) {v v':Option Value} (k:VO ρ v v'):VO σ v v':=by
 cases k with
 | none=>exact .none
 | some q=>exact .some (q.mono h)
theorem sr_sliceBounds (b:Bool) (len cap:Nat) {l l' h h' m m':Option Value} (hl:VO ρ l l') (hh:VO ρ h h') (hm:VO ρ m m'):SR P Same ρ (Instr.sliceBounds b len cap l h m) (Instr.sliceBounds b len cap l' h' m'):=by
 unfold Instr.sliceBounds
 cases hm with
 | none =>
  dsimp only
  refine SR.pureBind ?_
  cases hh with
  | none =>
   dsimp only
   refine SR.pureBind ?_
   cases hl with
   | none=>exact SR.pure (X:=Same) rfl
   | some ql =>
    dsimp only
    refine(sr_sliceBound ql _ _).bind' fun _ _ _ _ e=>?_
    subst e
    exact SR.pure (X:=Same) rfl
  | some qh =>
   dsimp only
   refine(sr_sliceBound qh _ _).bind' fun _ _ _ _ e=>?_
   subst e
   cases hl with
   | none=>exact SR.pure (X:=Same) rfl
   | some ql =>
    dsimp only
    refine(sr_sliceBound ql _ _).bind' fun _ _ _ _ e=>?_
    subst e
    exact SR.pure (X:=Same) rfl
 | some qm =>
  dsimp only
  refine(sr_sliceBound qm _ _).bind' fun _ _ _ _ e=>?_
  subst e
  cases hh with
  | none =>
   dsimp only
   exact .of_dead (.left (.halt _))
  | some qh =>
   dsimp only
   refine(sr_sliceBound qh _ _).bind' fun _ _ _ _ e=>?_
   subst e
   cases hl with
   | none=>exact SR.pure (X:=Same) rfl
   | some ql =>
    dsimp only
    refine(sr_sliceBound ql _ _).bind' fun _ _ _ _ e=>?_
    subst e
    exact SR.pure (X:=Same) rfl
theorem sr_sliceBound0 {ρ0:Ren} {v v':Value} (h:VR ρ0 v v') (c:BoundsCode):SR P (fun _ a b=>a=0/\b=0) ρ (Instr.sliceBound v 0 c) (Instr.sliceBound v' 0 c):=by
 unfold Instr.sliceBound
 refine(sr_asIntOf h).bind' fun σ ki _ hl e=>?_
 subst e
 obtain⟨k,i⟩:=ki
 dsimp only
 split
 ·rename_i q
  have:i.toNat=0:=by omega
  exact SR.pure (X:=fun _ a b=>a=0/\b=0) ⟨this,this⟩
 ·exact .of_dead (dead_bounds _ _ _ _)
theorem sr_sliceBounds0 (b:Bool) {l l' h h' m m':Option Value} (hl:VO ρ l l') (hh:VO ρ h h') (hm:VO ρ m m'):SR P (fun _ a b=>a=(0,0,0)/\b=(0,0,0)) ρ (Instr.sliceBounds b 0 0 l h m) (Instr.sliceBounds b 0 0 l' h' m'):=by
 have fin:∀σ,SR P (fun _ a b=>a=(0,0,0)/\b=(0,0,0)) σ (pure (0,0,0):Sem (Nat × Nat × Nat)) (pure (0,0,0)):=fun σ=>SR.pure (X:=fun _ a b=>a=(0,0,0)/\b=(0,0,0)) ⟨rfl,rfl⟩
 unfold Instr.sliceBounds
 cases hm with
 | none =>
  dsimp only
  refine SR.pureBind ?_
  cases hh with
  | none =>
   dsimp only
   refine SR.pureBind ?_
   cases hl with
   | none=>exact fin _
   | some ql =>
    dsimp only
    refine(sr_sliceBound0 ql _).bind' fun _ _ _ _ e=>?_
    obtain⟨rfl,rfl⟩:=e
    exact fin _
  | some qh =>
   dsimp only
   refine(sr_sliceBound0 qh _).bind' fun _ _ _ _ e=>?_
   obtain⟨rfl,rfl⟩:=e
   cases hl with
   | none=>exact fin _
   | some ql =>
    dsimp only
    refine(sr_sliceBound0 ql _).bind' fun _ _ _ _ e=>?_
    obtain⟨rfl,rfl⟩:=e
    exact fin _
 | some qm =>
  dsimp only
  refine(sr_sliceBound0 qm _).bind' fun _ _ _ _ e=>?_
  obtain⟨rfl,rfl⟩:=e
  cases hh with
  | none =>
   dsimp only
   exact .of_dead (.left (.halt _))
  | some qh =>
   dsimp only
   refine(sr_sliceBound0 qh _).bind' fun _ _ _ _ e=>?_
   obtain⟨rfl,rfl⟩:=e
   cases hl with
   | none=>exact fin _
   | some ql =>
    dsimp only
    refine(sr_sliceBound0 ql _).bind' fun _ _ _ _ e=>?_
    obtain⟨rfl,rfl⟩:=e
    exact fin _
theorem sr_asAddr {v v':Value} (h:VR ρ v v'):SR P AR ρ (asAddr v) (asAddr v'):=by
 cases h with
 | pnil=>exact .of_dead (by show Dead P (runtimePanic .nilDeref:Sem Addr);exact dead_runtimePanic _)
 | ptr q=>exact .pure q
 | _=>exact .halt
theorem ar_if {a a':Addr} (h:AR ρ a a') (c:Prop) [Decidable c] (n:Nat):AR ρ (if c then a else a.add n) (if c then a' else a'.add n):=by
 split
 ·exact h
 ·exact h.add n
theorem sr_sliceAt (t:TypeId) {v v':Value} {l l' h h' m m':Option Value} (hv:VR ρ v v') (hl:VO ρ l l') (hh:VO ρ h h') (hm:VO ρ m m'):SR P VR ρ (Instr.sliceAt t v l h m) (Instr.sliceAt t v' l' h' m'):=by
 unfold Instr.sliceAt
 refine(sr_underlying t).bind' fun σ d _ k e=>?_
 subst e
 have hv1:=hv.mono k
 have hl1:=hl.mono k
 have hh1:=hh.mono k
 have hm1:=hm.mono k
 have other:SR P VR σ (Instr.slice t v l h m) (Instr.slice t v' l' h' m'):=by
  unfold Instr.slice
  refine(sr_underlying t).bind' fun σ2 d2 _ k2 e=>?_
  subst e
  have hv2:=hv1.mono k2
  have hl2:=hl1.mono k2
  have hh2:=hh1.mono k2
  have hm2:=hm1.mono k2
  cases d2 with
  | slice elem =>
   cases hv2 with
   | snil len cap =>
    refine(sr_sliceBounds true len cap hl2 hh2 hm2).bind' fun σ3 r _ k3 e=>?_
    subst e
    obtain⟨l1,h1,m1⟩:=r
    dsimp only
    refine(sr_sizeOf elem).bind' fun σ4 n _ k4 e=>?_
    subst e
    have e:(if m1=l1 then (none:Option Addr) else Option.map (fun x:Addr=>x.add (l1 * n)) none)=none:=by split<;>rfl
    rw[e]
    exact .pure (.snil _ _)
   | slice len cap q =>
    refine(sr_sliceBounds true len cap hl2 hh2 hm2).bind' fun σ3 r _ k3 e=>?_
    subst e
    obtain⟨l1,h1,m1⟩:=r
    dsimp only
    refine(sr_sizeOf elem).bind' fun σ4 n _ k4 e=>?_
    subst e
    have e:∀x:Addr,(if m1=l1 then some x else Option.map (fun x:Addr=>x.add (l1 * n)) (some x))=some (if m1=l1 then x else x.add (l1 * n)):=fun x=>by split<;>rfl
    rw[e,e]
    exact .pure (.slice _ _ (ar_if ((q.mono k3).mono k4) _ _))
   | slz q =>
    refine(sr_sliceBounds0 true hl2 hh2 hm2).bind' fun σ3 r r' k3 e=>?_
    obtain⟨rfl,rfl⟩:=e
    dsimp only
    refine(sr_sizeOf elem).bind' fun σ4 n _ k4 e=>?_
    subst e
    exact .pure (.slz q)
   | _=>exact .halt
  | pointer arr =>
   refine SR.bind' (sr_asAddr hv2) fun τ a a' kt ha=>?_
   refine(sr_underlying arr).bind' fun σ3 d3 _ k3 e=>?_
   subst e
   cases d3 with
   | array n elem =>
    dsimp only
    refine(sr_sliceBounds false n n ((hl2.mono kt).mono k3) ((hh2.mono kt).mono k3) ((hm2.mono kt).mono k3)).bind' fun σ4 r _ k4 e=>?_
    subst e
    obtain⟨l1,h1,m1⟩:=r
    dsimp only
    refine(sr_sizeOf elem).bind' fun σ5 n _ k5 e=>?_
    subst e
    exact .pure (.slice _ _ (ar_if (((ha.mono k3).mono k4).mono k5) _ _))
   | _=>exact .halt
  | string=>cases hv2<;>exact .halt
  | _=>exact .halt
 cases d with
 | array n elem =>
  dsimp only
  refine(sr_sureAddr hv1).bind' fun σ2 a a' k2 ha=>?_
  refine(sr_sliceBounds false n n (hl1.mono k2) (hh1.mono k2) (hm1.mono k2)).bind' fun σ3 r _ k3 e=>?_
  subst e
  obtain⟨l1,h1,m1⟩:=r
  dsimp only
  refine(sr_sizeOf elem).bind' fun σ4 n _ k4 e=>?_
  subst e
  exact .pure (.slice _ _ (ar_if ((ha.mono k3).mono k4) _ _))
 | _=>exact other
end
end Go.Proofs.YtbicafgmfgdckaaDoor
namespace Go.Proofs.YtbicafgmfgdckaaDoor
open Go

section
variable {P:Program} {ρ:Ren}
inductive PsR (ρ:Ren):List (Nat × Value)->List (Nat × Value)->Prop
 | nil:PsR ρ [] []
 | cons {i:Nat} {v v':Value} {l l':List (Nat × Value)} (h:VR ρ v v') (k:PsR ρ l l'):PsR ρ ((i,v)::l) ((i,v')::l')
theorem PsR.mono {σ:Ren} (h:ρ.le σ) {l l':List (Nat × Value)} (k:PsR ρ l l'):PsR σ l l':=by
 induction k with
 | nil=>exact .nil
 | cons q _ ih=>exact .cons (q.mono h) ih
theorem LsR.mono {σ:Ren} (h:ρ.le σ) {l l':List Value} (k:LsR ρ l l'):LsR σ l l':=by
 induction k with
 | nil=>exact .nil
 | cons q _ ih=>exact .cons (q.mono h) ih
theorem LsR.array {l l':List Value} (k:LsR ρ l l'):VsR ρ l.toArray l'.toArray:=by
 have hl:l.length=l'.length:=by
  induction k with
  | nil=>rfl
  | cons _ _ ih=>simp[ih]
 refine⟨by simpa using hl,fun i h1 h2=>?_⟩
 simp only[List.getElem_toArray]
 simp only[List.size_toArray] at h1 h2
 induction k generalizing i with
 | nil=>simp at h1
 | cons q _ ih =>
  cases i with
  | zero=>exact q
  | succ i=>exact ih (by simpa using hl) i (by simpa using h1) (by simpa using h2) (by simpa using h1) (by simpa using h2)
theorem fill_foldl (off:Nat):∀ {l l':List Value},LsR ρ l l'->∀(n:Nat) {cs cs':Array Value},VsR ρ cs cs' ->
  VsR ρ ((l.zipIdx n).foldl (fun cs (x:Value × Nat)=>cs.setIfInBounds (off+x.2) x.1) cs) ((l'.zipIdx n).foldl (fun cs (x:Value × Nat)=>cs.setIfInBounds (off+x.2) x.1) cs')
 | _,_,.nil,n,_,_,hc=>hc
 | _,_,.cons h k,n,_,_,hc=>by
  rw[List.zipIdx_cons,List.zipIdx_cons,List.foldl_cons,List.foldl_cons]
  exact fill_foldl off k (n+1) (hc.set (off+n) h)
theorem foldl_zip (off:Nat) (ds cs:Array Value):ds.zipIdx.foldl (fun cs (c,j)=>cs.setIfInBounds (off+j) c) cs=(ds.toList.zipIdx 0).foldl (fun cs (x:Value × Nat)=>cs.setIfInBounds (off+x.2) x.1) cs:=by
 rw[<- Array.foldl_toList]
 congr 1
 simp
theorem fill_R (place:Nat->Option (Nat × Nat)) {l l':List (Nat × Value)} (k:PsR ρ l l'):∀ {cs cs':Array Value},VsR ρ cs cs' ->
  (Instr.fill place cs l=none/\Instr.fill place cs' l'=none)\/∃ds ds',Instr.fill place cs l=some ds/\Instr.fill place cs' l'=some ds'/\VsR ρ ds ds':=by
 induction k with
 | nil=>intro cs cs' hc;exact .inr ⟨cs,cs',rfl,rfl,hc⟩
 | @cons i v v' l l' hv _ ih =>
  intro cs cs' hc
  unfold Instr.fill
  have h1:=hv.cells
  cases place i with
  | none=>exact .inl ⟨rfl,rfl⟩
  | some os =>
   obtain⟨off,size⟩:=os
   dsimp only
   rw[<- h1.size,<- hc.size]
   split
   ·exact .inl ⟨rfl,rfl⟩
   ·refine ih ?_
    rw[foldl_zip,foldl_zip]
    exact fill_foldl off h1.list 0 hc
theorem sr_mapM {α:Type} (f:Field->Sem α) (hf:∀σ x,SR P Same σ (f x) (f x)):∀(l:List Field) (σ:Ren),SR P Same σ (l.mapM f) (l.mapM f)
 | [],σ=>by rw[List.mapM_nil];exact SR.pure (X:=Same) rfl
 | x::l,σ=>by
  rw[List.mapM_cons]
  refine(hf σ x).bind' fun σ2 a _ _ e=>?_
  subst e
  refine(sr_mapM f hf l σ2).bind' fun σ3 as _ _ e=>?_
  subst e
  exact SR.pure (X:=Same) rfl
theorem sr_build {t:TypeId} (hz:okTy P t=true) {parts parts':Array (Nat × Value)} (h:PsR ρ parts.toList parts'.toList):SR P VR ρ (Instr.build t parts) (Instr.build t parts'):=by
 unfold Instr.build
 refine(sr_zeroValue hz).bind' fun σ z z' hl hzz=>?_
 dsimp only
 refine(sr_underlying t).bind' fun σ2 d _ hl2 e=>?_
 subst e
 have h2:=(h.mono hl).mono hl2
 have hc:=hzz.cells.mono hl2
 cases d with
 | struct fields =>
  dsimp only
  refine SR.bind' (X:=Same) ?_ fun σ3 places _ hl3 e=>?_
  ·rw[Array.mapM_eq_mapM_toList]
   refine SR.bind' (X:=Same) (sr_mapM _ (fun σ f=>(sr_sizeOf f.type).bind' fun _ n _ _ e=>by subst e;exact SR.pure (X:=Same) rfl) _ _) fun _ l _ _ e=>?_
   subst e
   exact SR.pure (X:=Same) rfl
  ·subst e
   rcases fill_R (places[·]?) (h2.mono hl3) (hc.mono hl3) with⟨e1,e2⟩|⟨ds,ds',e1,e2,hd⟩
   ·rw[e1,e2];exact .halt
   ·rw[e1,e2];exact SR.pure (VR.agg hd.size hd.at_)
 | array n elem =>
  dsimp only
  refine(sr_sizeOf elem).bind' fun σ3 n _ hl3 e=>?_
  subst e
  rcases fill_R (fun i=>some (i * n,n)) (h2.mono hl3) (hc.mono hl3) with⟨e1,e2⟩|⟨ds,ds',e1,e2,hd⟩
  ·rw[e1,e2];exact .halt
  ·rw[e1,e2];exact SR.pure (VR.agg hd.size hd.at_)
 | _=>exact .halt
theorem vsr_rep {z z':Array Value} (h:VsR ρ z z') (n:Nat):VsR ρ ((Array.range n).map (z[· % z.size]!)) ((Array.range n).map (z'[· % z'.size]!)):=by
 refine⟨by simp,fun i h1 h2=>?_⟩
 simp only[Array.getElem_map,Array.getElem_range]
 have e:=h.size
 by_cases h0:z.size=0
 ·rw[h0] at e
  have e1:z=#[]:=Array.eq_empty_of_size_eq_zero h0
  have e2:z'=#[]:=Array.eq_empty_of_size_eq_zero e.symm
  subst e1 e2
  exact .bool false
 ·have hi:i % z.size < z.size:=Nat.mod_lt _ (by omega)
  rw[<- e,getElem!_pos z _ hi,getElem!_pos z' _ (by omega)]
  exact h.at_ _ hi (by omega)
def okElem (P:Program) (t:TypeId):Bool:=match P.underlying t with
 | some (.slice e)=>okTy P e
 | _=>true
theorem sr_elem {γ δ:Type} {Y:Ren->γ->δ->Prop} {t:TypeId} (hok:okElem P t=true) {f:TypeDesc->Sem γ} {f':TypeDesc->Sem δ} (h:∀σ e,ρ.le σ->okTy P e=true->SR P Y σ (f (.slice e)) (f' (.slice e))) (h2:∀σ d,(∀e,d≠.slice e)->SR P Y σ (f d) (f' d)) :
  SR P Y ρ (underlying t >>= f) (underlying t >>= f'):=by
 refine SR.bind' (X:=fun _ a b=>a=b/\P.underlying t=some a) ?_ fun σ d _ hl e=>?_
 ·refine SR.program ?_
  show SR P _ ρ (match P.underlying t with|some d=>pure d|none=>stuck "no such type") (match P.underlying t with|some d=>pure d|none=>stuck "no such type")
  cases hu:P.underlying t with
  | none=>exact .halt
  | some d=>exact SR.pure (X:=fun _ a b=>a=b/\some d=some a) ⟨rfl,rfl⟩
 ·obtain⟨rfl,hu⟩:=e
  unfold okElem at hok
  rw[hu] at hok
  cases d with
  | slice e=>exact h σ e hl hok
  | _=>exact h2 σ _ (fun e q=>by cases q)
theorem sr_buildSlice {t:TypeId} (hok:okElem P t=true) (len:Nat) {parts parts':Array (Nat × Value)} (h:PsR ρ parts.toList parts'.toList):SR P VR ρ (Instr.buildSlice t len parts) (Instr.buildSlice t len parts'):=by
 unfold Instr.buildSlice
 refine sr_elem hok (fun σ elem hl hz=>?_) fun σ d hd=>?_
 ·dsimp only
  refine(sr_sizeOf elem).bind' fun σ2 size _ hl2 e=>?_
  subst e
  split
  ·exact .of_dead (.left (.halt _))
  ·split
   ·refine SR.pureBind ?_
    rcases fill_R (fun i=>some (i * size,size)) ((h.mono hl).mono hl2) (vsr_rep VsR.empty (len * size)) with⟨e1,e2⟩|⟨ds,ds',e1,e2,hd⟩
    ·rw[e1,e2];exact .halt
    ·rw[e1,e2]
     exact(sr_newRow elem hd).bind' fun _ _ _ _ ha=>SR.pure (VR.slice _ _ ha)
   ·refine(sr_zeroValue hz).bind' fun σ3 z z' hl3 hzz=>?_
    refine SR.pureBind ?_
    rcases fill_R (fun i=>some (i * size,size)) (((h.mono hl).mono hl2).mono hl3) (vsr_rep hzz.cells (len * size)) with⟨e1,e2⟩|⟨ds,ds',e1,e2,hd⟩
    ·rw[e1,e2];exact .halt
    ·rw[e1,e2]
     exact(sr_newRow elem hd).bind' fun _ _ _ _ ha=>SR.pure (VR.slice _ _ ha)
 ·cases d with
  | slice e=>exact(hd e rfl).elim
  | _=>exact .halt
theorem sr_makeSlice {t:TypeId} (hok:okElem P t=true) {v v' x x':Value} (h:VR ρ v v') (hx:VR ρ x x'):SR P VR ρ (Instr.makeSlice t v x) (Instr.makeSlice t v' x'):=by
 unfold Instr.makeSlice
 refine sr_elem hok (fun σ elem hl hz=>?_) fun σ d hd=>?_
 ·dsimp only
  refine(sr_asInt h).bind' fun σ2 a _ hl2 e=>?_
  subst e
  refine(sr_asInt hx).bind' fun σ3 b _ hl3 e=>?_
  subst e
  refine(sr_typeInfo elem).bind' fun σ4 i _ hl4 e=>?_
  subst e
  split
  ·exact .of_dead (.ite (.left (dead_runtimePanic _)) (.ite (.left (dead_runtimePanic _)) (.bind (.choose _) fun _=>.left (dead_runtimePanic _))))
  ·refine(sr_askRoom _).bind' fun σ5 _ _ hl5 _=>?_
   refine(sr_sizeOf elem).bind' fun σ6 size _ hl6 e=>?_
   subst e
   split
   ·refine SR.pureBind ?_
    exact(sr_newRow elem (vsr_rep VsR.empty _)).bind' fun _ _ _ _ ha=>SR.pure (VR.slice _ _ ha)
   ·refine(sr_zeroValue hz).bind' fun σ7 z z' hl7 hzz=>?_
    refine SR.pureBind ?_
    exact(sr_newRow elem (vsr_rep hzz.cells _)).bind' fun _ _ _ _ ha=>SR.pure (VR.slice _ _ ha)
 ·cases d with
  | slice e=>exact(hd e rfl).elim
  | _=>exact .halt
theorem sr_part (t:TypeId) {cs cs':Array Value} (h:VsR ρ cs cs') (off:Nat):SR P VR ρ (part t cs off) (part t cs' off):=by
 unfold part
 refine(sr_isAgg t).bind' fun σ b _ hl e=>?_
 subst e
 have h1:=h.mono hl
 cases b with
 | true =>
  refine(sr_sizeOf t).bind' fun σ2 n _ hl2 e=>?_
  subst e
  have h2:=h1.mono hl2
  refine SR.pure (VR.agg (by simp[h2.size]) fun i q1 q2=>?_)
  simp only[Array.getElem_extract]
  exact h2.at_ _ _ _
 | false =>
  rcases h1.get off with⟨e1,e2⟩|⟨v,v',e1,e2,hv⟩
  ·simp only[e1,e2];exact .halt
  ·simp only[e1,e2];exact SR.pure hv
theorem sr_index (t:TypeId) {v v' x x':Value} (h:VR ρ v v') (hx:VR ρ x x'):SR P VR ρ (Instr.index t v x) (Instr.index t v' x'):=by
 unfold Instr.index
 refine(sr_asIntOf hx).bind' fun σ ki _ hl e=>?_
 subst e
 obtain⟨k,i⟩:=ki
 refine(sr_underlying t).bind' fun σ2 d _ hl2 e=>?_
 subst e
 have h2:=(h.mono hl).mono hl2
 cases d with
 | array len elem =>
  cases h2 with
  | agg hs hh =>
   dsimp only
   split
   ·refine(sr_sizeOf elem).bind' fun σ3 n _ hl3 e=>?_
    subst e
    exact sr_part elem (VsR.mono hl3 ⟨hs,hh⟩) _
   ·exact .of_dead (dead_bounds _ _ _ _)
  | _=>exact .halt
 | string=>cases h2<;>exact .halt
 | _=>exact .halt
theorem sr_extract {v v':Value} (h:VR ρ v v') (i:Nat):SR P VR ρ (Instr.extract v i) (Instr.extract v' i):=by
 unfold Instr.extract
 cases h with
 | tuple hs hh =>
  rcases VsR.get (⟨hs,hh⟩:VsR ρ _ _) i with⟨e1,e2⟩|⟨u,u',e1,e2,hv⟩
  ·simp only[e1,e2];exact .halt
  ·simp only[e1,e2];exact SR.pure hv
 | _=>exact .halt
theorem sr_lenOf {v v':Value} {ρ0:Ren} (h:VR ρ0 v v'):SR P Same ρ (Builtin.lenOf v) (Builtin.lenOf v'):=by
 cases h<;>first|exact .halt|exact SR.pure (X:=Same) rfl
theorem sr_loadVoid {a a':Addr} (q:a.spot.isSome=true) (n:Nat):SR P VsR ρ (loadCells a n) (loadCells a' n):=by
 cases n with
 | zero=>exact SR.pure (X:=VsR) VsR.empty
 | succ n=>exact SR.loadVoid q
theorem sr_storeVoid {a a':Addr} (q:a.spot.isSome=true) {l l':List Value} (h:l.length=l'.length):SR P Same ρ (storeCells a l 0) (storeCells a' l' 0):=by
 cases l with
 | nil =>
  cases l' with
  | nil=>exact SR.pure (X:=Same) rfl
  | cons _ _=>simp at h
 | cons v l=>exact SR.storeVoid q
theorem sr_firstCells (size n:Nat) {v v':Value} (h:VR ρ v v'):SR P VsR ρ (Builtin.firstCells size n v) (Builtin.firstCells size n v'):=by
 cases h with
 | slice l c ha=>exact sr_loadCells ha _
 | snil l c=>exact SR.pure (X:=VsR) VsR.empty
 | slz q=>exact sr_loadVoid q _
 | _=>exact .halt
theorem sr_len (ts:Array TypeId) (t:TypeId) {as as':Array Value} (h:VsR ρ as as'):SR P VR ρ (Builtin.len_ ts t as) (Builtin.len_ ts t as'):=by
 unfold Builtin.len_
 rcases h.get 0 with⟨e1,e2⟩|⟨v,v',e1,e2,hv⟩
 ·rw[e1,e2]
  cases ts[0]?<;>exact .halt
 ·rw[e1,e2]
  cases ts[0]? with
  | none=>exact .halt
  | some u =>
   dsimp only
   refine(sr_underlying u).bind' fun σ2 d _ hl2 e=>?_
   subst e
   have h2:=hv.mono hl2
   cases d with
   | string=>cases h2<;>first|exact .halt|exact SR.pure (VR.int _ _)
   | array n e=>exact SR.pure (VR.int _ _)
   | pointer arr =>
    dsimp only
    refine(sr_underlying arr).bind' fun σ3 d3 _ hl3 e=>?_
    subst e
    cases d3 with
    | array n e=>exact SR.pure (VR.int _ _)
    | _=>exact .halt
   | slice e=>cases h2<;>first|exact .halt|exact SR.pure (VR.int _ _)
   | map k e=>cases h2<;>exact .halt
   | chan d e=>cases h2<;>exact .halt
   | _=>exact .halt
theorem sr_cap (ts:Array TypeId) (t:TypeId) {as as':Array Value} (h:VsR ρ as as'):SR P VR ρ (Builtin.cap_ ts t as) (Builtin.cap_ ts t as'):=by
 unfold Builtin.cap_
 rcases h.get 0 with⟨e1,e2⟩|⟨v,v',e1,e2,hv⟩
 ·rw[e1,e2]
  cases ts[0]?<;>exact .halt
 ·rw[e1,e2]
  cases ts[0]? with
  | none=>exact .halt
  | some u =>
   dsimp only
   refine(sr_underlying u).bind' fun σ2 d _ hl2 e=>?_
   subst e
   have h2:=hv.mono hl2
   cases d with
   | array n e=>exact SR.pure (VR.int _ _)
   | pointer arr =>
    dsimp only
    refine(sr_underlying arr).bind' fun σ3 d3 _ hl3 e=>?_
    subst e
    cases d3 with
    | array n e=>exact SR.pure (VR.int _ _)
    | _=>exact .halt
   | slice e=>cases h2<;>first|exact .halt|exact SR.pure (VR.int _ _)
   | chan d e=>cases h2<;>exact .halt
   | _=>exact .halt
theorem sr_copy (ts:Array TypeId) (t:TypeId) {as as':Array Value} (h:VsR ρ as as'):SR P VR ρ (Builtin.copy_ ts t as) (Builtin.copy_ ts t as'):=by
 unfold Builtin.copy_
 rcases h.get 0 with⟨e1,e2⟩|⟨v,v',e1,e2,hv⟩
 ·rw[e1,e2]
  cases ts[0]?<;>exact .halt
 ·rcases h.get 1 with⟨f1,f2⟩|⟨x,x',f1,f2,hx⟩
  ·rw[e1,e2,f1,f2]
   cases ts[0]?<;>exact .halt
  ·rw[e1,e2,f1,f2]
   cases ts[0]? with
   | none=>exact .halt
   | some u =>
    dsimp only
    refine(sr_underlying u).bind' fun σ2 d _ hl2 e=>?_
    subst e
    have h2:=hv.mono hl2
    have hx2:=hx.mono hl2
    cases d with
    | slice elem =>
     cases h2 with
     | snil l c =>
      dsimp only
      refine(sr_lenOf hx2).bind' fun σ3 n _ hl3 e=>?_
      subst e
      refine(sr_sizeOf elem).bind' fun σ4 size _ hl4 e=>?_
      subst e
      refine(sr_firstCells _ _ ((hx2.mono hl3).mono hl4)).bind' fun σ5 cs cs' hl5 hc=>?_
      exact SR.pure (VR.int _ _)
     | slice l c ha =>
      dsimp only
      refine(sr_lenOf hx2).bind' fun σ3 n _ hl3 e=>?_
      subst e
      refine(sr_sizeOf elem).bind' fun σ4 size _ hl4 e=>?_
      subst e
      refine(sr_firstCells _ _ ((hx2.mono hl3).mono hl4)).bind' fun σ5 cs cs' hl5 hc=>?_
      refine(sr_storeCells (((ha.mono hl3).mono hl4).mono hl5) hc.list 0).bind' fun _ _ _ _ _=>?_
      exact SR.pure (VR.int _ _)
     | slz q =>
      dsimp only
      refine(sr_lenOf hx2).bind' fun σ3 n _ hl3 e=>?_
      subst e
      refine(sr_sizeOf elem).bind' fun σ4 size _ hl4 e=>?_
      subst e
      refine(sr_firstCells _ _ ((hx2.mono hl3).mono hl4)).bind' fun σ5 cs cs' hl5 hc=>?_
      refine(sr_storeVoid q (by simpa using hc.size)).bind' fun _ _ _ _ _=>?_
      exact SR.pure (VR.int _ _)
     | _=>exact .halt
    | _=>exact .halt
theorem sr_min2 {v v' x x':Value} (h:VR ρ v v') (hx:VR ρ x x'):SR P VR ρ (Builtin.min2 v x) (Builtin.min2 v' x'):=by
 cases h<;>cases hx<;>first|exact .halt|exact SR.pure (VR.int _ _)
theorem sr_min:∀ {l l':List Value} {σ:Ren} {x x':Value},LsR σ l l'->VR σ x x'->SR P VR σ (l.foldlM Builtin.min2 x) (l'.foldlM Builtin.min2 x')
 | _,_,_,_,_,.nil,h=>SR.pure h
 | _,_,_,_,_,.cons hv k,h=>by
  rw[List.foldlM_cons,List.foldlM_cons]
  exact(sr_min2 h hv).bind' fun σ2 a b hl2 q=>sr_min (k.mono hl2) q
theorem sr_min_ (ts:Array TypeId) (t:TypeId) {as as':Array Value} (h:VsR ρ as as'):SR P VR ρ (Builtin.min_ ts t as) (Builtin.min_ ts t as'):=by
 unfold Builtin.min_
 have:=h.list
 generalize as.toList=l at *
 generalize as'.toList=l' at *
 cases this with
 | nil=>exact .halt
 | cons hv k=>exact sr_min k hv
def IntLike (P:Program) (s:Sem Value):Prop:=Dead P s\/∃v,s=.pure v/\∀ρ,VR ρ v v
theorem IntLike.sr {s:Sem Value} (h:IntLike P s):SR P VR ρ s s:=by
 rcases h with h|⟨v,rfl,h⟩
 ·exact .of_dead h
 ·exact SR.pure (h ρ)
theorem like_int (k:IntKind) (n:Int):IntLike P (pure (.int k n)):=.inr ⟨_,rfl,fun _=>.int _ _⟩
theorem like_bool (b:Bool):IntLike P (pure (.bool b)):=.inr ⟨_,rfl,fun _=>.bool _⟩
theorem like_shift (op:BinOp) (k:IntKind) (x:Int) (yk:IntKind) (y:Int):IntLike P (Op.shift op k x yk y):=by
 unfold Op.shift
 split
 ·exact .inl (dead_runtimePanic _)
 ·dsimp only
  split<;>first|exact like_int _ _|exact .inl (.halt _)
theorem like_arith (op:BinOp) (k:IntKind) (x y:Int):IntLike P (Op.intArith op k x y):=by
 unfold Op.intArith
 split<;>first|exact like_int _ _|exact .inl (.halt _)
theorem like_div (op:BinOp) (k:IntKind) (x y:Int):IntLike P (Op.intDiv op k x y):=by
 unfold Op.intDiv
 split
 ·exact .inl (dead_runtimePanic _)
 ·split<;>first|exact like_int _ _|exact .inl (.halt _)
theorem like_bits (op:BinOp) (k:IntKind) (x y:Int):IntLike P (Op.intBits op k x y):=by
 unfold Op.intBits
 dsimp only
 split<;>first|exact like_int _ _|exact .inl (.halt _)
theorem like_cmp (op:BinOp) (x y:Int):IntLike P (Op.intCmp op x y):=by
 unfold Op.intCmp
 split<;>first|exact like_bool _|exact .inl (.halt _)
theorem like_binOp_int (op:BinOp) (t:TypeId) (k k':IntKind) (a b:Int):IntLike P (binOp op t (.int k a) (.int k' b)):=by
 cases op
 case shl =>
  simp only[binOp]
  exact like_shift _ _ _ _ _
 case shr =>
  simp only[binOp]
  exact like_shift _ _ _ _ _
 all_goals
  simp only[binOp]
  split
  ·exact .inl (.halt _)
  ·first|exact like_arith _ _ _ _|exact like_div _ _ _ _|exact like_bits _ _ _ _|exact like_cmp _ _ _
theorem tame_holdsCells (a:Addr) (n:Nat):Tame P (Builtin.holdsCells a n):=by
 unfold Builtin.holdsCells
 refine .bind (.shape _) fun s=>?_
 cases s with
 | none=>exact .pure _
 | some x=>exact .pure _
theorem tame_mayShare (size l n:Nat) (base:Option Addr) (x:Value):Tame P (Builtin.mayShare size l n base x):=by
 unfold Builtin.mayShare
 have tail:∀b:Bool,Tame P (if (!b)=true then pure true else match x with
   | .slice (some c) _ _=>do pure (!(<- Builtin.holdsCells c (n * size))||base.any (·.block==c.block))
   | _=>pure false):=fun b=>by
  cases b with
  | false=>exact .pure _
  | true =>
   cases x<;>first
    | exact .pure _
    |(rename_i a l c
      cases a with
      | none=>exact .pure _
      | some b=>exact .bind (tame_holdsCells _ _) fun b=>.pure _)
 cases base with
 | none=>exact .bind (.pure _) fun b=>tail b
 | some a=>exact .bind (tame_holdsCells _ _) fun b=>.bind (.frozen _) fun c=>.bind (.pure _) fun b=>tail b
theorem vsr_zero {z z':Array Value} (h:VsR ρ z z') (n:Nat):VsR ρ (Builtin.zeroCells z n) (Builtin.zeroCells z' n):=by
 unfold Builtin.zeroCells
 have:=vsr_rep h (n * z.size)
 rw[<- h.size]
 rw[<- h.size] at this
 exact this
theorem sr_underlying' (t:TypeId):SR P (fun _ a b=>a=b/\P.underlying t=some a) ρ (underlying t) (underlying t):=by
 refine SR.program ?_
 show SR P _ ρ (match P.underlying t with|some d=>pure d|none=>stuck "no such type") (match P.underlying t with|some d=>pure d|none=>stuck "no such type")
 cases hu:P.underlying t with
 | none=>exact .halt
 | some d=>exact SR.pure (X:=fun _ a b=>a=b/\some d=some a) ⟨rfl,rfl⟩
set_option maxHeartbeats 1000000 in
theorem sr_append (ts:Array TypeId) (t:TypeId) (hok:∀u,ts[0]?=some u->okElem P u=true) (hz:∀u,ts[1]?=some u->∀k,P.underlying u≠some (.int k)) {as as':Array Value} (h:VsR ρ as as'):SR P VR ρ (Builtin.append_ ts t as) (Builtin.append_ ts t as'):=by
 unfold Builtin.append_
 rcases h.get 0 with⟨e1,e2⟩|⟨v,v',e1,e2,hv⟩
 ·rw[e1,e2]
  cases ts[0]?<;>exact .halt
 ·rcases h.get 1 with⟨f1,f2⟩|⟨x,x',f1,f2,hx⟩
  ·rw[e1,e2,f1,f2]
   cases ts[0]?<;>exact .halt
  ·rw[e1,e2,f1,f2]
   cases hu:ts[0]? with
   | none=>exact .halt
   | some u =>
    dsimp only
    refine sr_elem (hok u hu) (fun σ elem hl hzz=>?_) fun σ d hd=>?_
    ·have h2:=hv.mono hl
     have hx2:=hx.mono hl
     cases h2 with
     | snil l c =>
      dsimp only
      refine(sr_sizeOf elem).bind' fun σ2 size _ hl2 e=>?_
      subst e
      cases hu1:ts[1]? with
      | none =>
        dsimp only
        refine SR.pureBind ?_
        have hx3:=hx2.mono hl2
        simp only[Bool.false_eq_true,if_false,Bool.not_false,if_true,false_or]
        refine(sr_lenOf hx3).bind' fun σ4 n _ hl4 e=>?_
        subst e
        split
        ·refine(sr_firstCells size n (hx3.mono hl4)).bind' fun σ5 new new' hl5 hn=>?_
         ·exact SR.pure (VR.snil _ _)
        ·refine(sr_typeInfo elem).bind' fun σ5 i _ hl5 e=>?_
         subst e
         split
         ·exact .of_dead (.left (dead_runtimePanic _))
         ·refine(sr_typeInfo elem).bind' fun σ6 i2 _ hl6 e=>?_
          subst e
          split
          ·exact .of_dead (.left (.bind (tame_mayShare _ _ _ _ _) fun b=>.ite (.bind (.mark _) fun _=>.halt _) (.halt _)))
          ·refine SR.bind' (X:=Same) (SR.choose fun n=>SR.pure (X:=Same) rfl) fun σ7 nc _ hl7 e=>?_
           subst e
           refine(sr_typeInfo elem).bind' fun σ8 i3 _ hl8 e=>?_
           subst e
           refine(sr_askRoom _).bind' fun σ9 _ _ hl9 _=>?_
           have hx9:=((((hx3.mono hl4).mono hl5).mono hl6).mono hl7).mono (Ren.le_trans hl8 hl9)
           refine(sr_firstCells size l (VR.snil _ _)).bind' fun σ10 old old' hl10 ho=>?_
           refine(sr_firstCells size n (hx9.mono hl10)).bind' fun σ11 new new' hl11 hn=>?_
           refine(sr_zeroValue hzz).bind' fun σ12 z z' hl12 hz1=>?_
           refine(sr_newRow elem (VsR.append (VsR.append ((ho.mono hl11).mono hl12) (hn.mono hl12)) (vsr_zero hz1.cells _))).bind' fun _ _ _ _ hr=>?_
           exact SR.pure (VR.slice _ _ hr)
      | some u1 =>
        dsimp only
        refine SR.bind' (sr_underlying' u1) fun σ3 d _ hl3 e=>?_
        obtain⟨rfl,hd⟩:=e
        have hx3:=(hx2.mono hl2).mono hl3
        cases d<;>first
         | exact absurd hd (hz u1 hu1 _)
         | skip
        all_goals
         refine SR.pureBind ?_
         simp only[Bool.false_eq_true,if_false,Bool.not_false,if_true,false_or]
         refine(sr_lenOf hx3).bind' fun σ4 n _ hl4 e=>?_
         subst e
         split
         ·refine(sr_firstCells size n (hx3.mono hl4)).bind' fun σ5 new new' hl5 hn=>?_
          ·exact SR.pure (VR.snil _ _)
         ·refine(sr_typeInfo elem).bind' fun σ5 i _ hl5 e=>?_
          subst e
          split
          ·exact .of_dead (.left (dead_runtimePanic _))
          ·refine(sr_typeInfo elem).bind' fun σ6 i2 _ hl6 e=>?_
           subst e
           split
           ·exact .of_dead (.left (.bind (tame_mayShare _ _ _ _ _) fun b=>.ite (.bind (.mark _) fun _=>.halt _) (.halt _)))
           ·refine SR.bind' (X:=Same) (SR.choose fun n=>SR.pure (X:=Same) rfl) fun σ7 nc _ hl7 e=>?_
            subst e
            refine(sr_typeInfo elem).bind' fun σ8 i3 _ hl8 e=>?_
            subst e
            refine(sr_askRoom _).bind' fun σ9 _ _ hl9 _=>?_
            have hx9:=((((hx3.mono hl4).mono hl5).mono hl6).mono hl7).mono (Ren.le_trans hl8 hl9)
            refine(sr_firstCells size l (VR.snil _ _)).bind' fun σ10 old old' hl10 ho=>?_
            refine(sr_firstCells size n (hx9.mono hl10)).bind' fun σ11 new new' hl11 hn=>?_
            refine(sr_zeroValue hzz).bind' fun σ12 z z' hl12 hz1=>?_
            refine(sr_newRow elem (VsR.append (VsR.append ((ho.mono hl11).mono hl12) (hn.mono hl12)) (vsr_zero hz1.cells _))).bind' fun _ _ _ _ hr=>?_
            exact SR.pure (VR.slice _ _ hr)
     | slice l c ha =>
      dsimp only
      refine(sr_sizeOf elem).bind' fun σ2 size _ hl2 e=>?_
      subst e
      cases hu1:ts[1]? with
      | none =>
        dsimp only
        refine SR.pureBind ?_
        have hx3:=hx2.mono hl2
        have ha3:=(ha.mono hl2)
        simp only[Bool.false_eq_true,if_false,Bool.not_false,if_true,false_or]
        refine(sr_lenOf hx3).bind' fun σ4 n _ hl4 e=>?_
        subst e
        split
        ·refine(sr_firstCells size n (hx3.mono hl4)).bind' fun σ5 new new' hl5 hn=>?_
         ·refine(sr_storeCells ((((ha3.mono hl4).mono hl5)).add _) hn.list 0).bind' fun _ _ _ hl6 _=>?_
          exact SR.pure (VR.slice _ _ (((ha3.mono hl4).mono hl5).mono hl6))
        ·refine(sr_typeInfo elem).bind' fun σ5 i _ hl5 e=>?_
         subst e
         split
         ·exact .of_dead (.left (dead_runtimePanic _))
         ·refine(sr_typeInfo elem).bind' fun σ6 i2 _ hl6 e=>?_
          subst e
          split
          ·exact .of_dead (.left (.bind (tame_mayShare _ _ _ _ _) fun b=>.ite (.bind (.mark _) fun _=>.halt _) (.halt _)))
          ·refine SR.bind' (X:=Same) (SR.choose fun n=>SR.pure (X:=Same) rfl) fun σ7 nc _ hl7 e=>?_
           subst e
           refine(sr_typeInfo elem).bind' fun σ8 i3 _ hl8 e=>?_
           subst e
           refine(sr_askRoom _).bind' fun σ9 _ _ hl9 _=>?_
           have hx9:=((((hx3.mono hl4).mono hl5).mono hl6).mono hl7).mono (Ren.le_trans hl8 hl9)
           have ha9:=((((ha3.mono hl4).mono hl5).mono hl6).mono hl7).mono (Ren.le_trans hl8 hl9)
           refine(sr_firstCells size l (VR.slice _ _ ha9)).bind' fun σ10 old old' hl10 ho=>?_
           refine(sr_firstCells size n (hx9.mono hl10)).bind' fun σ11 new new' hl11 hn=>?_
           refine(sr_zeroValue hzz).bind' fun σ12 z z' hl12 hz1=>?_
           refine(sr_newRow elem (VsR.append (VsR.append ((ho.mono hl11).mono hl12) (hn.mono hl12)) (vsr_zero hz1.cells _))).bind' fun _ _ _ _ hr=>?_
           exact SR.pure (VR.slice _ _ hr)
      | some u1 =>
        dsimp only
        refine SR.bind' (sr_underlying' u1) fun σ3 d _ hl3 e=>?_
        obtain⟨rfl,hd⟩:=e
        have hx3:=(hx2.mono hl2).mono hl3
        have ha3:=((ha.mono hl2).mono hl3)
        cases d<;>first
         | exact absurd hd (hz u1 hu1 _)
         | skip
        all_goals
         refine SR.pureBind ?_
         simp only[Bool.false_eq_true,if_false,Bool.not_false,if_true,false_or]
         refine(sr_lenOf hx3).bind' fun σ4 n _ hl4 e=>?_
         subst e
         split
         ·refine(sr_firstCells size n (hx3.mono hl4)).bind' fun σ5 new new' hl5 hn=>?_
          ·refine(sr_storeCells ((((ha3.mono hl4).mono hl5)).add _) hn.list 0).bind' fun _ _ _ hl6 _=>?_
           exact SR.pure (VR.slice _ _ (((ha3.mono hl4).mono hl5).mono hl6))
         ·refine(sr_typeInfo elem).bind' fun σ5 i _ hl5 e=>?_
          subst e
          split
          ·exact .of_dead (.left (dead_runtimePanic _))
          ·refine(sr_typeInfo elem).bind' fun σ6 i2 _ hl6 e=>?_
           subst e
           split
           ·exact .of_dead (.left (.bind (tame_mayShare _ _ _ _ _) fun b=>.ite (.bind (.mark _) fun _=>.halt _) (.halt _)))
           ·refine SR.bind' (X:=Same) (SR.choose fun n=>SR.pure (X:=Same) rfl) fun σ7 nc _ hl7 e=>?_
            subst e
            refine(sr_typeInfo elem).bind' fun σ8 i3 _ hl8 e=>?_
            subst e
            refine(sr_askRoom _).bind' fun σ9 _ _ hl9 _=>?_
            have hx9:=((((hx3.mono hl4).mono hl5).mono hl6).mono hl7).mono (Ren.le_trans hl8 hl9)
            have ha9:=((((ha3.mono hl4).mono hl5).mono hl6).mono hl7).mono (Ren.le_trans hl8 hl9)
            refine(sr_firstCells size l (VR.slice _ _ ha9)).bind' fun σ10 old old' hl10 ho=>?_
            refine(sr_firstCells size n (hx9.mono hl10)).bind' fun σ11 new new' hl11 hn=>?_
            refine(sr_zeroValue hzz).bind' fun σ12 z z' hl12 hz1=>?_
            refine(sr_newRow elem (VsR.append (VsR.append ((ho.mono hl11).mono hl12) (hn.mono hl12)) (vsr_zero hz1.cells _))).bind' fun _ _ _ _ hr=>?_
            exact SR.pure (VR.slice _ _ hr)
     | slz q =>
      dsimp only
      refine(sr_sizeOf elem).bind' fun σ2 size _ hl2 e=>?_
      subst e
      cases hu1:ts[1]? with
      | none =>
        dsimp only
        refine SR.pureBind ?_
        have hx3:=hx2.mono hl2
        simp only[Bool.false_eq_true,if_false,Bool.not_false,if_true,false_or]
        refine(sr_lenOf hx3).bind' fun σ4 n _ hl4 e=>?_
        subst e
        split
        ·refine(sr_firstCells size n (hx3.mono hl4)).bind' fun σ5 new new' hl5 hn=>?_
         ·refine(sr_storeVoid (by rw[Nat.zero_mul];exact q) (by simpa using hn.size)).bind' fun _ _ _ hl6 _=>?_
          exact SR.pure (by rename_i hq;have hn0:n=0:=(by omega);subst hn0;exact VR.slz q)
        ·refine(sr_typeInfo elem).bind' fun σ5 i _ hl5 e=>?_
         subst e
         split
         ·exact .of_dead (.left (dead_runtimePanic _))
         ·refine(sr_typeInfo elem).bind' fun σ6 i2 _ hl6 e=>?_
          subst e
          split
          ·exact .of_dead (.left (.bind (tame_mayShare _ _ _ _ _) fun b=>.ite (.bind (.mark _) fun _=>.halt _) (.halt _)))
          ·refine SR.bind' (X:=Same) (SR.choose fun n=>SR.pure (X:=Same) rfl) fun σ7 nc _ hl7 e=>?_
           subst e
           refine(sr_typeInfo elem).bind' fun σ8 i3 _ hl8 e=>?_
           subst e
           refine(sr_askRoom _).bind' fun σ9 _ _ hl9 _=>?_
           have hx9:=((((hx3.mono hl4).mono hl5).mono hl6).mono hl7).mono (Ren.le_trans hl8 hl9)
           refine(sr_firstCells size 0 (VR.slz q)).bind' fun σ10 old old' hl10 ho=>?_
           refine(sr_firstCells size n (hx9.mono hl10)).bind' fun σ11 new new' hl11 hn=>?_
           refine(sr_zeroValue hzz).bind' fun σ12 z z' hl12 hz1=>?_
           refine(sr_newRow elem (VsR.append (VsR.append ((ho.mono hl11).mono hl12) (hn.mono hl12)) (vsr_zero hz1.cells _))).bind' fun _ _ _ _ hr=>?_
           exact SR.pure (VR.slice _ _ hr)
      | some u1 =>
        dsimp only
        refine SR.bind' (sr_underlying' u1) fun σ3 d _ hl3 e=>?_
        obtain⟨rfl,hd⟩:=e
        have hx3:=(hx2.mono hl2).mono hl3
        cases d<;>first
         | exact absurd hd (hz u1 hu1 _)
         | skip
        all_goals
         refine SR.pureBind ?_
         simp only[Bool.false_eq_true,if_false,Bool.not_false,if_true,false_or]
         refine(sr_lenOf hx3).bind' fun σ4 n _ hl4 e=>?_
         subst e
         split
         ·refine(sr_firstCells size n (hx3.mono hl4)).bind' fun σ5 new new' hl5 hn=>?_
          ·refine(sr_storeVoid (by rw[Nat.zero_mul];exact q) (by simpa using hn.size)).bind' fun _ _ _ hl6 _=>?_
           exact SR.pure (by rename_i hq;have hn0:n=0:=(by omega);subst hn0;exact VR.slz q)
         ·refine(sr_typeInfo elem).bind' fun σ5 i _ hl5 e=>?_
          subst e
          split
          ·exact .of_dead (.left (dead_runtimePanic _))
          ·refine(sr_typeInfo elem).bind' fun σ6 i2 _ hl6 e=>?_
           subst e
           split
           ·exact .of_dead (.left (.bind (tame_mayShare _ _ _ _ _) fun b=>.ite (.bind (.mark _) fun _=>.halt _) (.halt _)))
           ·refine SR.bind' (X:=Same) (SR.choose fun n=>SR.pure (X:=Same) rfl) fun σ7 nc _ hl7 e=>?_
            subst e
            refine(sr_typeInfo elem).bind' fun σ8 i3 _ hl8 e=>?_
            subst e
            refine(sr_askRoom _).bind' fun σ9 _ _ hl9 _=>?_
            have hx9:=((((hx3.mono hl4).mono hl5).mono hl6).mono hl7).mono (Ren.le_trans hl8 hl9)
            refine(sr_firstCells size 0 (VR.slz q)).bind' fun σ10 old old' hl10 ho=>?_
            refine(sr_firstCells size n (hx9.mono hl10)).bind' fun σ11 new new' hl11 hn=>?_
            refine(sr_zeroValue hzz).bind' fun σ12 z z' hl12 hz1=>?_
            refine(sr_newRow elem (VsR.append (VsR.append ((ho.mono hl11).mono hl12) (hn.mono hl12)) (vsr_zero hz1.cells _))).bind' fun _ _ _ _ hr=>?_
            exact SR.pure (VR.slice _ _ hr)
     | _=>exact .halt
    ·cases d with
     | slice e=>exact(hd e rfl).elim
     | _=>exact .halt
end
end Go.Proofs.YtbicafgmfgdckaaDoor
