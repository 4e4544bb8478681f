/- Operations at alike values are alike: arithmetic, whatever the operands. For any program. Equality of two values of an integer type, alike. For any program. Operations at alike values are alike: whole operations. For any program. -/
import Derived.Test.YtbicafgmfgdckaaDoorMgAd
namespace Go.Proofs.YtbicafgmfgdckaaDoor
open Go

section
variable {P:Program} {ρ:Ren}
def Ok (P:Program) (ρ:Ren):Prop:=∀a b,ρ a b->a < P.globals.size->a=b
abbrev Stay {α:Type} (ρ:Ren) (X:Ren->α->α->Prop):Ren->α->α->Prop:=fun σ a b=>σ=ρ/\X σ a b
theorem sr_numberAt {r r':Nat} (h:ρ r r'):SR P (fun σ a b=>σ=ρ/\((a=none/\b=none)\/∃p q l,a=some (p,l)/\b=some (q,l)/\AR ρ p q)) ρ (numberAt r) (numberAt r'):=by
 unfold numberAt
 refine SR.bind' (X:=Stay ρ Same) (SR.shape h fun s=>SR.pure ⟨rfl,rfl⟩) fun σ s _ _ e=>?_
 obtain⟨rfl,rfl⟩:=e
 cases s with
 | some x=>exact SR.pure ⟨rfl,.inl ⟨rfl,rfl⟩⟩
 | none=>exact SR.getObj h fun a a' l ha=>SR.pure ⟨rfl,.inr ⟨a,a',l,rfl,rfl,ha⟩⟩
theorem sr_viewAt {r r':Nat} (h:ρ r r'):SR P (fun σ a b=>σ=ρ/\a=none/\b=none) ρ (viewAt r) (viewAt r'):=by
 unfold viewAt
 refine SR.bind' (X:=Stay ρ Same) (SR.shape h fun s=>SR.pure ⟨rfl,rfl⟩) fun σ s _ _ e=>?_
 obtain⟨rfl,rfl⟩:=e
 cases s with
 | some x=>exact SR.pure ⟨rfl,rfl,rfl⟩
 | none=>exact SR.getObj h fun a a' l ha=>SR.pure ⟨rfl,rfl,rfl⟩
theorem sr_behind {a a':Addr} (h:AR ρ a a'):SR P (fun σ x y=>σ=ρ/\AR ρ x.1 y.1/\x.2=y.2) ρ (behindNumber a) (behindNumber a'):=by
 unfold behindNumber
 refine(sr_numberAt h.block).bind' fun σ x y _ e=>?_
 obtain⟨rfl,e⟩:=e
 rcases e with⟨rfl,rfl⟩|⟨p,q,l,rfl,rfl,ha⟩
 ·exact SR.pure ⟨rfl,h,rfl⟩
 ·exact SR.pure ⟨rfl,ha,rfl⟩
theorem sr_asNumber {a a':Addr} (h:AR ρ a a') (l:Bool):SR P VR ρ (asNumber a l) (asNumber a' l):=by
 unfold asNumber
 exact SR.number h fun r r' _=>SR.pure (VR.ptr ⟨.inr ⟨rfl,rfl⟩,rfl,rfl⟩)
theorem sr_unsafeAddX {X:Ren->Value->Value->Prop} (hX:∀σ a a',AR σ a a'->X σ (.pointer (some a)) (.pointer (some a'))) {v v' x x':Value} (t:TypeId) (h:VR ρ v v') (hx:VR ρ x x'):SR P X ρ (Builtin.unsafeAdd_ #[] t #[v,x]) (Builtin.unsafeAdd_ #[] t #[v',x']):=by
 unfold Builtin.unsafeAdd_
 cases h with
 | pnil =>
  dsimp only
  refine(sr_asInt hx).bind' fun σ n _ hl e=>?_
  subst e
  split
  ·exact .halt
  ·split
   ·exact .of_dead (.left (.halt _))
   ·exact .halt
 | @ptr a a' ha =>
  dsimp only
  refine(sr_asInt hx).bind' fun σ n _ hl e=>?_
  subst e
  have ha1:=ha.mono hl
  split
  ·refine(sr_viewAt ha1.block).bind' fun σ2 q q' _ e=>?_
   obtain⟨rfl,rfl,rfl⟩:=e
   exact SR.pure (hX _ _ _ ha1)
  ·split
   ·exact .of_dead (.left (.halt _))
   ·refine SR.bind' (X:=Stay σ Same) (SR.shape ha1.block fun s=>SR.pure ⟨rfl,rfl⟩) fun σ2 s _ _ e=>?_
    obtain⟨rfl,rfl⟩:=e
    cases s with
    | none=>exact .halt
    | some ec =>
     obtain⟨e,cells⟩:=ec
     dsimp only
     refine SR.bind' (X:=fun σ a b=>σ=σ2/\a=P/\b=P) (SR.program (SR.pure ⟨rfl,rfl,rfl⟩)) fun σ3 p p' _ e3=>?_
     obtain⟨rfl,e1,e2⟩:=e3
     rw[e1,e2]
     rw[<- ha1.off]
     cases cellAtBytes P P.depth e (cells / P.cellsOf e) a.off n with
     | none=>exact .halt
     | some off=>exact SR.pure (hX _ _ _ ⟨ha1.block,rfl,ha1.spot⟩)
 | _=>exact .halt
theorem sr_unsafeAdd {v v' x x':Value} (t:TypeId) (h:VR ρ v v') (hx:VR ρ x x'):SR P VR ρ (Builtin.unsafeAdd_ #[] t #[v,x]) (Builtin.unsafeAdd_ #[] t #[v',x']):=sr_unsafeAddX (fun _ _ _ q=>VR.ptr q) t h hx
theorem sr_byteOf {a a':Addr} (h:AR ρ a a'):SR P (Stay ρ Same) ρ (byteOf a) (byteOf a'):=by
 unfold byteOf
 rw[<- h.spot]
 cases hs:a.spot with
 | some s=>exact SR.pure ⟨rfl,rfl⟩
 | none =>
  dsimp only
  refine SR.bind' (X:=fun σ a b=>σ=ρ/\a=P/\b=P) (SR.program (SR.pure ⟨rfl,rfl,rfl⟩)) fun σ3 p p' _ e3=>?_
  obtain⟨rfl,e1,e2⟩:=e3
  rw[e1,e2]
  unfold noView
  refine SR.bind' (X:=fun σ (_ _:Unit)=>σ=σ3) ?_ fun σ4 _ _ _ e=>?_
  ·refine(sr_viewAt h.block).bind' fun σ2 q q' _ e=>?_
   obtain⟨rfl,rfl,rfl⟩:=e
   exact SR.pure rfl
  ·subst e
   refine SR.bind' (X:=Stay σ4 Same) (SR.shape h.block fun s=>SR.pure ⟨rfl,rfl⟩) fun σ2 s _ _ e=>?_
   obtain⟨rfl,rfl⟩:=e
   rw[<- h.off]
   cases s with
   | none=>exact .halt
   | some ec =>
    obtain⟨e,cells⟩:=ec
    dsimp only
    split
    ·exact SR.pure ⟨rfl,rfl⟩
    ·cases byteOfCell P P.depth e (a.off % P.cellsOf e) with
     | none=>exact .halt
     | some b=>exact SR.pure ⟨rfl,rfl⟩
theorem sr_twoPlaces (hρ:Ok P ρ) {a a' b b':Addr} (h:AR ρ a a') (k:AR ρ b b'):SR P (Stay ρ Same) ρ (Op.twoPlaces a b) (Op.twoPlaces a' b'):=by
 unfold Op.twoPlaces
 refine SR.bind' (X:=fun σ a b=>σ=ρ/\a=P/\b=P) (SR.program (SR.pure ⟨rfl,rfl,rfl⟩)) fun σ3 p p' _ e3=>?_
 obtain⟨rfl,e1,e2⟩:=e3
 rw[e1,e2]
 by_cases hc:(a.block != b.block||decide (a.block>=P.globals.size))=true
 ·rw[if_pos hc]
  exact .of_dead (.left (.halt _))
 ·rw[if_neg hc]
  simp only[Bool.or_eq_true,bne_iff_ne,ne_eq,decide_eq_true_eq,not_or,Decidable.not_not] at hc
  obtain⟨h1,h2⟩:=hc
  have g1:=hρ _ _ h.block (by omega)
  have g2:=hρ _ _ k.block (by omega)
  rw[if_neg (by simp only[Bool.or_eq_true,bne_iff_ne,ne_eq,decide_eq_true_eq,not_or,Decidable.not_not];omega)]
  refine(sr_byteOf h).bind' fun σ x y _ e=>?_
  obtain⟨rfl,rfl⟩:=e
  refine(sr_byteOf k).bind' fun σ x y _ e=>?_
  obtain⟨rfl,rfl⟩:=e
  exact SR.pure ⟨rfl,rfl⟩
theorem sr_addrSub (hρ:Ok P ρ) (k:IntKind) {a a' b b':Addr} (h:AR ρ a a') (q:AR ρ b b'):SR P VR ρ (Op.addrSub k a b) (Op.addrSub k a' b'):=by
 unfold Op.addrSub
 refine(sr_twoPlaces hρ h q).bind' fun σ x y _ e=>?_
 obtain⟨rfl,rfl⟩:=e
 exact SR.pure (VR.int _ _)
theorem sr_addrCmp (hρ:Ok P ρ) (op:BinOp) {a a' b b':Addr} (h:AR ρ a a') (q:AR ρ b b'):SR P VR ρ (Op.addrCmp op a b) (Op.addrCmp op a' b'):=by
 unfold Op.addrCmp
 refine(sr_twoPlaces hρ h q).bind' fun σ x y _ e=>?_
 obtain⟨rfl,rfl⟩:=e
 cases op<;>first|exact SR.pure (VR.bool _) | exact .halt
theorem sr_addrMod (k:IntKind) {a a':Addr} (h:AR ρ a a') (n:Int):SR P VR ρ (Op.addrMod k a n) (Op.addrMod k a' n):=by
 unfold Op.addrMod
 refine SR.bind' (X:=Stay ρ Same) (SR.shape h.block fun s=>SR.pure ⟨rfl,rfl⟩) fun σ2 s _ _ e=>?_
 obtain⟨rfl,rfl⟩:=e
 cases s with
 | none=>exact .halt
 | some ec =>
  obtain⟨e,cells⟩:=ec
  dsimp only
  refine(sr_typeInfo e).bind' fun σ3 i _ hl e=>?_
  subst e
  split
  ·exact .of_dead (.left (.halt _))
  ·refine(sr_byteOf (h.mono hl)).bind' fun σ x y _ e=>?_
   obtain⟨rfl,rfl⟩:=e
   exact SR.pure (VR.int _ _)
theorem sr_movedNumber (t:TypeId) {v v' x x':Value} (h:VR ρ v v') (hx:VR ρ x x'):SR P VR ρ (movedNumber t v x) (movedNumber t v' x'):=by
 unfold movedNumber
 refine(sr_underlying t).bind' fun σ d _ hl e=>?_
 subst e
 have h1:=h.mono hl
 have hx1:=hx.mono hl
 have tail:SR P VR σ (do
   let .pointer (some n):=v|Builtin.unsafeAdd_ #[] t #[v,x]
   let (a,lost) <- behindNumber n
   match <- Builtin.unsafeAdd_ #[] t #[.pointer (some a),x] with
   | .pointer (some b)=>asNumber b lost
   | v=>pure v) (do
   let .pointer (some n):=v' | Builtin.unsafeAdd_ #[] t #[v',x']
   let (a,lost) <- behindNumber n
   match <- Builtin.unsafeAdd_ #[] t #[.pointer (some a),x'] with
   | .pointer (some b)=>asNumber b lost
   | v=>pure v):=by
  cases h1 with
  | @ptr n n' hn =>
   dsimp only
   refine(sr_behind hn).bind' fun σ2 y y' _ e=>?_
   obtain⟨rfl,ha,hb⟩:=e
   obtain⟨a,l⟩:=y
   obtain⟨a',l'⟩:=y'
   dsimp only at ha hb ⊢
   subst hb
   refine(sr_unsafeAddX (X:=fun σ r r'=>∃a a',r=.pointer (some a)/\r'=.pointer (some a')/\AR σ a a') (fun _ _ _ q=>⟨_,_,rfl,rfl,q⟩) t (VR.ptr ha) hx1).bind' fun σ3 r r' _ hr=>?_
   obtain⟨_,_,rfl,rfl,q⟩:=hr
   exact sr_asNumber q l
  | pnil=>exact sr_unsafeAdd t VR.pnil hx1
  | bool b=>exact sr_unsafeAdd t (VR.bool b) hx1
  | int k n=>exact sr_unsafeAdd t (VR.int k n) hx1
  | snil l c=>exact sr_unsafeAdd t (VR.snil l c) hx1
  | slice l c q=>exact sr_unsafeAdd t (VR.slice l c q) hx1
  | slz q=>exact sr_unsafeAdd t (VR.slz q) hx1
  | func f hs q=>exact sr_unsafeAdd t (VR.func f hs q) hx1
  | nilFunc=>exact sr_unsafeAdd t VR.nilFunc hx1
  | nilIface v' q=>exact .of_dead (by unfold Builtin.unsafeAdd_;exact .halt _)
  | agg hs q=>exact sr_unsafeAdd t (VR.agg hs q) hx1
  | tuple hs q=>exact sr_unsafeAdd t (VR.tuple hs q) hx1
 cases d<;>first|exact tail|exact .of_dead (.left (.halt _))
theorem sr_movedPointer (t:TypeId) {v v' x x':Value} (h:VR ρ v v') (hx:VR ρ x x'):SR P VR ρ (movedPointer t v x) (movedPointer t v' x'):=by
 unfold movedPointer
 have other:=sr_unsafeAdd (P:=P) t h hx
 cases h with
 | @ptr a a' ha =>
  dsimp only
  refine(sr_numberAt ha.block).bind' fun σ y y' _ e=>?_
  obtain⟨rfl,e⟩:=e
  rcases e with⟨rfl,rfl⟩|⟨p,q,l,rfl,rfl,_⟩
  ·exact other
  ·exact .of_dead (.left (.halt _))
 | nilIface v' q=>exact .of_dead (.halt _)
 | _=>exact other
set_option maxHeartbeats 1000000 in
theorem sr_binOp (hρ:Ok P ρ) (op:BinOp) (t:TypeId) (h1:op≠.eql) (h2:op≠.neq) {v v' x x':Value} (h:VR ρ v v') (hx:VR ρ x x'):SR P VR ρ (binOp op t v x) (binOp op t v' x'):=by
 cases h with
 | int k n =>
  cases hx with
  | int k' m=>exact(like_binOp_int op t k k' n m).sr
  | @ptr a a' ha =>
   cases op<;>first
    | exact absurd rfl h1
    | exact absurd rfl h2
    | exact .halt
    | exact sr_movedNumber t (VR.ptr ha) (VR.int k n)
    |(refine(sr_behind ha).bind' fun σ y y' _ e=>?_
      obtain⟨rfl,ha,_⟩:=e
      exact sr_addrMod k ha _)
  | pnil=>cases op<;>first|exact absurd rfl h1|exact absurd rfl h2|exact .halt|exact sr_movedNumber t VR.pnil (VR.int k n)
  | _=>cases op<;>first|exact absurd rfl h1|exact absurd rfl h2|exact .halt
 | pnil =>
  cases hx with
  | int k n =>
   cases op<;>first
    | exact absurd rfl h1
    | exact absurd rfl h2
    | exact .halt
    | exact sr_movedNumber t VR.pnil (VR.int k (-n))
    |(refine(sr_underlying t).bind' fun σ d _ hl e=>?_
      subst e
      cases d<;>first|exact sr_movedNumber t VR.pnil (VR.int k n) | exact sr_movedPointer t VR.pnil (VR.int k n))
  | _=>cases op<;>first|exact absurd rfl h1|exact absurd rfl h2|exact .halt
 | @ptr a a' ha =>
  cases hx with
  | int k n =>
   cases op<;>first
    | exact absurd rfl h1
    | exact absurd rfl h2
    | exact .halt
    | exact sr_movedNumber t (VR.ptr ha) (VR.int k (-n))
    |(refine(sr_behind ha).bind' fun σ y y' _ e=>?_
      obtain⟨rfl,ha,_⟩:=e
      exact sr_addrMod k ha _)
    |(refine(sr_underlying t).bind' fun σ d _ hl e=>?_
      subst e
      cases d<;>first|exact sr_movedNumber t (VR.ptr (ha.mono hl)) (VR.int k n) | exact sr_movedPointer t (VR.ptr (ha.mono hl)) (VR.int k n))
  | @ptr b b' hb =>
   cases op<;>first
    | exact absurd rfl h1
    | exact absurd rfl h2
    | exact .halt
    |(refine(sr_behind ha).bind' fun σ y y' _ e=>?_
      obtain⟨rfl,ha,_⟩:=e
      refine(sr_behind hb).bind' fun σ z z' _ e=>?_
      obtain⟨rfl,hb,_⟩:=e
      first|exact sr_addrSub hρ _ ha hb|exact sr_addrCmp hρ _ ha hb)
  | _=>cases op<;>first|exact absurd rfl h1|exact absurd rfl h2|exact .halt
 | _=>cases hx<;>(cases op<;>first|exact absurd rfl h1|exact absurd rfl h2|exact .halt)
end
end Go.Proofs.YtbicafgmfgdckaaDoor
namespace Go.Proofs.YtbicafgmfgdckaaDoor
open Go Go.RowKit
section
variable {P:Program} {ρ:Ren}
def plainT (P:Program) (t:TypeId):Bool:=match P.info? t with
 | some i=>(match i.desc with | .named s _=>s != "sync.copyChecker" | _=>true)
 | none=>true
theorem dead_typeInfo {α:Type} {t:TypeId} {f:TypeInfo->Sem α} (h:∀i,P.info? t=some i->Dead P (f i)):Dead P (typeInfo t >>= f):=fun w es=>by
 cases hi:P.info? t with
 | none =>
  refine⟨.stuck "no such type",w,es,?_,rfl⟩
  show ((match P.info? t with|some d=>pure d|none=>stuck "no such type":Sem TypeInfo).bind f).runT P w es=_
  rw[hi]
  rfl
 | some i =>
  obtain⟨h',w',es',e,q⟩:=h i hi w es
  refine⟨h',w',es',?_,q⟩
  rw[<- e]
  show ((match P.info? t with|some d=>pure d|none=>stuck "no such type":Sem TypeInfo).bind f).runT P w es=_
  rw[hi]
  rfl
theorem sr_equal_ptr (hρ:Ok P ρ) {t:TypeId} (hp:plainT P t=true) {a a' b b':Addr} (h:AR ρ a a') (k:AR ρ b b'):SR P (Stay ρ Same) ρ (do
   let (a,b):=((<- behindNumber a).1,(<- behindNumber b).1)
   if a.block==b.block&&a.block < (<- program).globals.size then return (<- byteOf a)==(<- byteOf b)
   let .named "sync.copyChecker" _:=(<- typeInfo t).desc|unsupported .addressObserved
   if a==b then pure true else unsupported .addressObserved) (do
   let (a,b):=((<- behindNumber a').1,(<- behindNumber b').1)
   if a.block==b.block&&a.block < (<- program).globals.size then return (<- byteOf a)==(<- byteOf b)
   let .named "sync.copyChecker" _:=(<- typeInfo t).desc|unsupported .addressObserved
   if a==b then pure true else unsupported .addressObserved):=by
 refine(sr_behind h).bind' fun σ x x' _ e=>?_
 obtain⟨rfl,ha,_⟩:=e
 refine(sr_behind k).bind' fun σ y y' _ e=>?_
 obtain⟨rfl,hb,_⟩:=e
 dsimp only
 refine SR.bind' (X:=fun σ2 a b=>σ2=σ/\a=P/\b=P) (SR.program (SR.pure ⟨rfl,rfl,rfl⟩)) fun σ3 p p' _ e3=>?_
 obtain⟨rfl,e1,e2⟩:=e3
 rw[e1,e2]
 by_cases hc:(x.1.block==y.1.block&&decide (x.1.block < P.globals.size))=true
 ·rw[if_pos hc]
  simp only[Bool.and_eq_true,beq_iff_eq,decide_eq_true_eq] at hc
  have g1:=hρ _ _ ha.block hc.2
  have g2:=hρ _ _ hb.block (by omega)
  rw[if_pos (by simp only[Bool.and_eq_true,beq_iff_eq,decide_eq_true_eq];omega)]
  refine(sr_byteOf ha).bind' fun σ x y _ e=>?_
  obtain⟨rfl,rfl⟩:=e
  refine(sr_byteOf hb).bind' fun σ x y _ e=>?_
  obtain⟨rfl,rfl⟩:=e
  exact SR.pure ⟨rfl,rfl⟩
 ·rw[if_neg hc]
  refine .of_dead (dead_typeInfo fun i hi=>?_)
  unfold plainT at hp
  rw[hi] at hp
  dsimp only at hp
  split
  ·rename_i hd
   rw[hd] at hp
   simp at hp
  ·exact .halt _
theorem sr_underlyingS (t:TypeId):SR P (fun σ a b=>σ=ρ/\a=b/\P.underlying t=some a) ρ (underlying t) (underlying t):=by
 refine SR.program ?_
 show SR P _ ρ (match P.underlying t with|some d=>pure d|none=>stuck "no such type") (match P.underlying t with|some d=>pure d|none=>stuck "no such type")
 cases hu:P.underlying t with
 | none=>exact .halt
 | some d=>exact SR.pure (X:=fun σ a b=>σ=ρ/\a=b/\some d=some a) ⟨rfl,rfl,rfl⟩
theorem sr_equalIn_int (hρ:Ok P ρ) {t:TypeId} {k:IntKind} (hu:P.underlying t=some (.int k)) (hp:plainT P t=true) (d:Nat) {v v' x x':Value} (h:VR ρ v v') (hx:VR ρ x x'):SR P (Stay ρ Same) ρ (Op.equalIn (d+1) t v x) (Op.equalIn (d+1) t v' x'):=by
 unfold Op.equalIn
 refine(sr_underlyingS t).bind' fun σ dd _ hl e=>?_
 obtain⟨rfl,rfl,e⟩:=e
 rw[hu] at e
 obtain rfl:=Option.some.inj e
 cases h with
 | int k1 n1 =>
  cases hx with
  | int k2 n2 =>
   dsimp only
   split<;>first|exact SR.pure ⟨rfl,rfl⟩|exact .halt
  | ptr q=>rcases n1 with(_|n1) | n1<;>first|exact SR.pure ⟨rfl,rfl⟩|exact .halt
  | _=>rcases n1 with(_|n1) | n1<;>exact .halt
 | ptr q =>
  cases hx with
  | int k2 n2=>rcases n2 with(_|n2) | n2<;>first|exact SR.pure ⟨rfl,rfl⟩|exact .halt
  | ptr q2=>exact sr_equal_ptr hρ hp q q2
  | _=>exact .halt
 | _=>cases hx<;>exact .halt
theorem sr_isAggS (t:TypeId):SR P (Stay ρ Same) ρ (isAgg t) (isAgg t):=by
 unfold isAgg
 refine(sr_underlyingS t).bind' fun σ d d' _ q=>?_
 obtain⟨rfl,rfl,_⟩:=q
 cases d<;>exact SR.pure ⟨rfl,rfl⟩
theorem sr_sizeOfS (t:TypeId):SR P (Stay ρ Same) ρ (sizeOf t) (sizeOf t):=by
 unfold sizeOf typeInfo
 refine SR.bind' (X:=Stay ρ Same) ?_ fun σ2 n _ _ q=>?_
 ·refine SR.program ?_
  show SR P _ ρ (match P.info? t with|some d=>pure d|none=>stuck "no such type") (match P.info? t with|some d=>pure d|none=>stuck "no such type")
  cases P.info? t with
  | none=>exact .halt
  | some d=>exact SR.pure ⟨rfl,rfl⟩
 ·obtain⟨rfl,rfl⟩:=q
  exact SR.pure ⟨rfl,rfl⟩
theorem sr_partS (t:TypeId) {cs cs':Array Value} (h:VsR ρ cs cs') (off:Nat):SR P (Stay ρ VR) ρ (part t cs off) (part t cs' off):=by
 unfold part
 refine(sr_isAggS t).bind' fun σ b _ hl e=>?_
 obtain⟨rfl,rfl⟩:=e
 cases b with
 | true =>
  refine(sr_sizeOfS t).bind' fun σ2 n _ hl2 e=>?_
  obtain⟨rfl,rfl⟩:=e
  refine SR.pure ⟨rfl,VR.agg (by simp[h.size]) fun i q1 q2=>?_⟩
  simp only[Array.getElem_extract]
  exact h.at_ _ _ _
 | false =>
  rcases h.get off with⟨e1,e2⟩|⟨v,v',e1,e2,hv⟩
  ·simp only[e1,e2];exact .halt
  ·simp only[e1,e2];exact SR.pure ⟨rfl,hv⟩
theorem sr_forIn {α β:Type} {f f':α->β->Sem (ForInStep β)}:∀(l:List α) (_:∀i∈l,∀b,SR P (Stay ρ Same) ρ (f i b) (f' i b)) (b:β),SR P (Stay ρ Same) ρ (forIn l b f) (forIn l b f'):=by
 intro l
 induction l with
 | nil =>
  intro _ b
  rw[List.forIn_nil,List.forIn_nil]
  exact SR.pure ⟨rfl,rfl⟩
 | cons i l ih =>
  intro hf b
  rw[List.forIn_cons,List.forIn_cons]
  refine(hf i (by simp) b).bind' fun σ r _ _ q=>?_
  obtain⟨rfl,rfl⟩:=q
  cases r with
  | done b=>exact SR.pure ⟨rfl,rfl⟩
  | yield b=>exact ih (fun j hj=>hf j (by simp[hj])) b
def gT (P:Program):Nat->TypeId->Bool
 | 0,_=>false
 | d+1,t=>match P.underlying t with
  | some (.int _)=>plainT P t
  | some (.array _ e)=>gT P d e
  | some (.struct fs)=>!P.stoodInHeld t&&fs.toList.all fun f=>gT P d f.type
  | _=>false
theorem sr_equalIn_g:∀(n:Nat) (D:Nat) {ρ:Ren} (_:Ok P ρ) {t:TypeId} (_:gT P n t=true) (_:n<=D) {v v' x x':Value} (_:VR ρ v v') (_:VR ρ x x'),SR P (Stay ρ Same) ρ (Op.equalIn D t v x) (Op.equalIn D t v' x')
 | 0,_,_,_,_,h,_,_,_,_,_,_,_=>by cases h
 | n+1,0,_,_,_,_,hd,_,_,_,_,_,_=>by omega
 | n+1,D+1,ρ,hρ,t,ht,hd,v,v',x,x',h,hx=>by
  unfold gT at ht
  split at ht
  ·rename_i k hu
   exact sr_equalIn_int hρ hu ht D h hx
  ·rename_i len e hu
   unfold Op.equalIn
   refine(sr_underlyingS t).bind' fun σ dd _ hl q=>?_
   obtain⟨rfl,rfl,q⟩:=q
   rw[hu] at q
   obtain rfl:=Option.some.inj q
   cases h with
   | agg hs1 h1 =>
    cases hx with
    | agg hs2 h2 =>
     dsimp only
     refine(sr_sizeOfS e).bind' fun σ2 n _ _ q=>?_
     obtain⟨rfl,rfl⟩:=q
     refine SR.bind' (X:=Stay σ2 Same) ?_ fun σ3 r _ _ q=>?_
     ·simp only[Std.Legacy.Range.forIn_eq_forIn_range']
      refine sr_forIn _ (fun i _ b=>?_) _
      refine(sr_partS e ⟨hs1,h1⟩ (i * n)).bind' fun σ4 y y' _ q=>?_
      obtain⟨rfl,hy⟩:=q
      refine(sr_partS e ⟨hs2,h2⟩ (i * n)).bind' fun σ5 z z' _ q=>?_
      obtain⟨rfl,hz⟩:=q
      refine(sr_equalIn_g _ D hρ ht (by omega) hy hz).bind' fun σ6 b1 _ _ q=>?_
      obtain⟨rfl,rfl⟩:=q
      split<;>exact SR.pure ⟨rfl,rfl⟩
     ·obtain⟨rfl,rfl⟩:=q
      split<;>exact SR.pure ⟨rfl,rfl⟩
    | _=>exact .halt
   | _=>cases hx<;>exact .halt
  ·rename_i fs hu
   rw[Bool.and_eq_true,Bool.not_eq_true',List.all_eq_true] at ht
   unfold Op.equalIn
   refine(sr_underlyingS t).bind' fun σ dd _ hl q=>?_
   obtain⟨rfl,rfl,q⟩:=q
   rw[hu] at q
   obtain rfl:=Option.some.inj q
   cases h with
   | agg hs1 h1 =>
    cases hx with
    | agg hs2 h2 =>
     dsimp only
     refine SR.bind' (X:=fun σ2 a b=>σ2=σ/\a=P/\b=P) (SR.program (SR.pure ⟨rfl,rfl,rfl⟩)) fun σ3 p p' _ e3=>?_
     obtain⟨rfl,e1,e2⟩:=e3
     rw[e1,e2,ht.1]
     simp only[Bool.false_eq_true,if_false]
     refine SR.bind' (X:=Stay σ3 Same) ?_ fun σ4 r _ _ q=>?_
     ·rw[<- Array.forIn_toList,<- Array.forIn_toList]
      refine sr_forIn _ (fun f hf b=>?_) _
      split
      ·refine(sr_partS f.type ⟨hs1,h1⟩ f.offset).bind' fun σ4 y y' _ q=>?_
       obtain⟨rfl,hy⟩:=q
       refine(sr_partS f.type ⟨hs2,h2⟩ f.offset).bind' fun σ5 z z' _ q=>?_
       obtain⟨rfl,hz⟩:=q
       refine(sr_equalIn_g _ D hρ (ht.2 f hf) (by omega) hy hz).bind' fun σ6 b1 _ _ q=>?_
       obtain⟨rfl,rfl⟩:=q
       split<;>exact SR.pure ⟨rfl,rfl⟩
      ·exact SR.pure ⟨rfl,rfl⟩
     ·obtain⟨rfl,rfl⟩:=q
      split<;>exact SR.pure ⟨rfl,rfl⟩
    | _=>exact .halt
   | _=>cases hx<;>exact .halt
  ·cases ht
def eqTy (P:Program) (t:TypeId):Bool:=gT P 6 t
theorem sr_equal_ty (hρ:Ok P ρ) {t:TypeId} (ht:eqTy P t=true) {v v' x x':Value} (h:VR ρ v v') (hx:VR ρ x x'):SR P (Stay ρ Same) ρ (Op.equal t v x) (Op.equal t v' x') :=
 sr_equalIn_g 6 Op.maxDepth hρ ht (by decide) h hx
theorem eqTy_form {t:TypeId} (ht:eqTy P t=true):(∃k,P.underlying t=some (.int k))\/(∃l e,P.underlying t=some (.array l e))\/∃fs,P.underlying t=some (.struct fs):=by
 unfold eqTy gT at ht
 split at ht
 ·exact .inl ⟨_,by assumption⟩
 ·exact .inr (.inl ⟨_,_,by assumption⟩)
 ·exact .inr (.inr ⟨_,by assumption⟩)
 ·cases ht
theorem dead_underlying {α:Type} {t:TypeId} {f:TypeDesc->Sem α} (h:∀d,P.underlying t=some d->Dead P (f d)):Dead P (underlying t >>= f):=fun w es=>by
 cases hi:P.underlying t with
 | none =>
  refine⟨.stuck "no such type",w,es,?_,rfl⟩
  show ((match P.underlying t with|some d=>pure d|none=>stuck "no such type":Sem TypeDesc).bind f).runT P w es=_
  rw[hi]
  rfl
 | some d =>
  obtain⟨h',w',es',e,q⟩:=h d hi w es
  refine⟨h',w',es',?_,q⟩
  rw[<- e]
  show ((match P.underlying t with|some d=>pure d|none=>stuck "no such type":Sem TypeDesc).bind f).runT P w es=_
  rw[hi]
  rfl
theorem dead_eq_left {t:TypeId} (ht:eqTy P t=true) (c:Value):Dead P (Op.equal t .nilIface c):=by
 unfold Op.equal Op.maxDepth Op.equalIn
 refine dead_underlying fun d hd=>?_
 rcases eqTy_form ht with⟨k,e⟩|⟨l,e1,e⟩|⟨fs,e⟩<;>(rw[hd] at e;obtain rfl:=Option.some.inj e;first | (exact .halt _) | (cases c<;>exact .halt _))
theorem dead_eq_right {t:TypeId} (ht:eqTy P t=true) {v v':Value} (h:VR ρ v v'):Dead P (Op.equal t v .nilIface):=by
 unfold Op.equal Op.maxDepth Op.equalIn
 refine dead_underlying fun d hd=>?_
 rcases eqTy_form ht with⟨k,e⟩|⟨l,e1,e⟩|⟨fs,e⟩<;>(rw[hd] at e;obtain rfl:=Option.some.inj e;cases h<;>first|exact .halt _ | (rename_i n;rcases n with(_|n) | n<;>exact .halt _))
theorem sr_binEq (hρ:Ok P ρ) {op:BinOp} {t:TypeId} (ht:eqTy P t=true) (hop:op=.eql\/op=.neq) {v v' x x':Value} (h:VR ρ v v') (hx:VR ρ x x'):SR P VR ρ (binOp op t v x) (binOp op t v' x'):=by
 have two:∀ {s s':Sem Bool} (f:Bool->Bool),SR P (Stay ρ Same) ρ s s'->SR P VR ρ (do pure (.bool (f (<- s)))) (do pure (.bool (f (<- s')))):=fun f q=>q.bind' fun _ b _ _ e=>by
  obtain⟨rfl,rfl⟩:=e
  exact SR.pure (VR.bool _)
 have he:=sr_equal_ty hρ ht h hx
 have dead:∀ {a c:Value},(binOp .eql t a c=(do pure (.bool (<- Op.equal t a c)))/\binOp .neq t a c=(do pure (.bool (!(<- Op.equal t a c)))))->Dead P (Op.equal t a c)->Dead P (binOp op t a c):=fun e q=>by
  rcases hop with rfl|rfl
  ·rw[e.1];exact .left q
  ·rw[e.2];exact .left q
 have same:∀ {a c a' c':Value},(binOp .eql t a c=(do pure (.bool (<- Op.equal t a c)))/\binOp .neq t a c=(do pure (.bool (!(<- Op.equal t a c)))))->(binOp .eql t a' c'=(do pure (.bool (<- Op.equal t a' c')))/\binOp .neq t a' c'=(do pure (.bool (!(<- Op.equal t a' c'))))) ->
   SR P (Stay ρ Same) ρ (Op.equal t a c) (Op.equal t a' c')->SR P VR ρ (binOp op t a c) (binOp op t a' c'):=fun e e' q=>by
  rcases hop with rfl|rfl
  ·rw[e.1,e'.1];exact two id q
  ·rw[e.2,e'.2];exact two (fun b=>!b) q
 cases h with
 | nilIface _ q=>exact .of_dead (dead ⟨rfl,rfl⟩ (dead_eq_left ht _))
 | int k n =>
  cases hx with
  | int k' n'=>exact(like_binOp_int op t k k' n n').sr
  | nilIface _ q=>exact .of_dead (dead ⟨rfl,rfl⟩ (dead_eq_right ht (VR.int (ρ:=ρ) k n)))
  | _=>exact same ⟨rfl,rfl⟩ ⟨rfl,rfl⟩ he
 | _ =>
  cases hx with
  | nilIface _ q=>exact .of_dead (dead ⟨rfl,rfl⟩ (dead_eq_right (ρ:=ρ) ht (by first|exact .bool _|exact .pnil|exact .ptr (by assumption) | exact .snil _ _|exact .slice _ _ (by assumption) | exact .slz (a':=default) (by assumption) | exact .nilFunc|exact .func _ (by assumption) (by assumption) | exact .agg (by assumption) (by assumption) | exact .tuple (by assumption) (by assumption))))
  | _=>exact same ⟨rfl,rfl⟩ ⟨rfl,rfl⟩ he
theorem tame_unsupported {α:Type} (u:Unsupported) (hu:dull (.unsupported u)=true):Tame P (unsupported u:Sem α):=fun w es h' w' es' e=>by
 cases e;exact hu
theorem tame_underlying' (t:TypeId):Tame P (underlying t):=by
 refine .bind .program fun p=>?_
 split<;>first|exact .pure _|exact .stuck _
theorem tame_eqGuardIn_nil (t:TypeId):Tame P (Op.eqGuardIn Op.maxDepth t .nilIface .nilIface):=by
 unfold Op.maxDepth Op.eqGuardIn
 refine .bind (tame_underlying' t) fun d=>?_
 cases d<;>exact .pure _
theorem tame_guard_nil (op:BinOp) (t:TypeId) (ox oy:Operand):Tame P (eqGuard op t ox oy .nilIface .nilIface):=by
 have key:Tame P (do if <- Op.eqGuardIn Op.maxDepth t .nilIface .nilIface then unsupported (.noEntry "binop/eql: two nil values of an interface type with methods, neither of them the literal nil"):Sem Unit):=by
  refine .bind (tame_eqGuardIn_nil t) fun b=>?_
  cases b with
  | true=>exact tame_unsupported _ rfl
  | false=>exact .pure _
 unfold eqGuard
 cases op<;>first|exact .pure _ | (dsimp only;cases ox<;>cases oy<;>first|exact .pure _|exact key)
theorem dead_bin {op:BinOp} {t:TypeId} (ht:eqTy P t=true) (hop:op=.eql\/op=.neq) {v v' x x':Value} (h:VR ρ v v') (hx:VR ρ x x') (hn:v=.nilIface\/x=.nilIface):Dead P (binOp op t v x):=by
 have dead:∀ {a c:Value},(binOp .eql t a c=(do pure (.bool (<- Op.equal t a c)))/\binOp .neq t a c=(do pure (.bool (!(<- Op.equal t a c)))))->Dead P (Op.equal t a c)->Dead P (binOp op t a c):=fun e q=>by
  rcases hop with rfl|rfl
  ·rw[e.1];exact .left q
  ·rw[e.2];exact .left q
 rcases hn with rfl|rfl
 ·exact dead ⟨rfl,rfl⟩ (dead_eq_left ht _)
 ·have q:=dead_eq_right ht h
  cases h<;>exact dead ⟨rfl,rfl⟩ q
theorem tame_guard {op:BinOp} {t:TypeId} (ox oy:Operand) {v v' x x':Value} (h:VR ρ v v') (hx:VR ρ x x') (hn:v=.nilIface\/x=.nilIface):Tame P (eqGuard op t ox oy v x):=by
 rcases hn with rfl|rfl
 ·cases hx<;>first|exact tame_guard_nil op t ox oy | (unfold eqGuard;cases op<;>exact .pure _)
 ·cases h<;>first|exact tame_guard_nil op t ox oy | (unfold eqGuard;cases op<;>exact .pure _)
theorem sr_eqOp (hρ:Ok P ρ) {op:BinOp} {t:TypeId} (ht:eqTy P t=true) (hgd:P.eqGuardType P.depth t=false) (hop:op=.eql\/op=.neq) (ox oy:Operand) {v v' x x':Value} (h:VR ρ v v') (hx:VR ρ x x') :
  SR P VR ρ (eqGuard op t ox oy v x >>= fun _=>binOp op t v x) (eqGuard op t ox oy v' x' >>= fun _=>binOp op t v' x'):=by
 by_cases hn:v=.nilIface\/x=.nilIface
 ·exact .of_dead (.bind (tame_guard ox oy h hx hn) fun _=>dead_bin ht hop h hx hn)
 have hb:=sr_binEq hρ ht hop h hx
 refine SR.bind' (X:=Stay ρ Same) ?_ fun σ _ _ _ q=>?_
 ·cases h with
  | nilIface=>exact absurd (.inl rfl) hn
  | agg hs1 h1 =>
   cases hx with
   | nilIface=>exact absurd (.inr rfl) hn
   | agg hs2 h2 =>
    unfold eqGuard
    rcases hop with rfl|rfl <;>
    ·dsimp only
     refine SR.bind' (X:=fun σ a b=>σ=ρ/\a=P/\b=P) (SR.program (SR.pure ⟨rfl,rfl,rfl⟩)) fun σ3 p p' _ e3=>?_
     obtain⟨rfl,e1,e2⟩:=e3
     rw[e1,e2]
     refine SR.bind' (X:=fun σ a b=>σ=σ3/\a=P/\b=P) (SR.program (SR.pure ⟨rfl,rfl,rfl⟩)) fun σ4 p p' _ e3=>?_
     obtain⟨rfl,e1,e2⟩:=e3
     rw[e1,e2,hgd]
     exact SR.pure ⟨rfl,rfl⟩
   | _=>rcases hop with rfl|rfl<;>exact SR.pure ⟨rfl,rfl⟩
  | _=>cases hx<;>first|exact absurd (.inr rfl) hn | (rcases hop with rfl|rfl<;>exact SR.pure ⟨rfl,rfl⟩)
 ·obtain⟨rfl,_⟩:=q
  exact hb
end
end Go.Proofs.YtbicafgmfgdckaaDoor
namespace Go.Proofs.YtbicafgmfgdckaaDoor
open Go

inductive NR (fs:List Nat) (ρ:Ren):Next->Next->Prop
 | value {v v':Value} (h:VR ρ v v'):NR fs ρ (.value v) (.value v')
 | skip:NR fs ρ .skip .skip
 | enter (f:FuncId) {as as':Array Value} (hf:fs.contains f=true) (h:VsR ρ as as'):NR fs ρ (.enter f as) (.enter f as')
def okTo (fs:List Nat):Op->Bool
 | .call c=>(match c.callee with | .value (.func f)=>fs.contains f|_=>true)
 | _=>true
def okX (G:Nat->Bool):Operand->Bool
 | .tmp _=>true
 | .const v=>pureC v
 | .global g=>G g
 | .func _=>true
def okEq:Operand->Bool
 | .const (.int _ _) | .const (.pointer none) | .const (.slice none _ _)=>true
 | _=>false
def isIntT (P:Program) (t:TypeId):Bool:=match P.underlying t with
 | some (.int _)=>true
 | _=>false
def okFn (P:Program) (f:FuncId):Bool:=match P.funcs[f]? with
 | some fn=>fn.body.isSome&&fn.name != "runtime.NumGoroutine"
 | none=>false
def okCall (P:Program) (G:Nat->Bool) (c:Call):Bool:=c.args.all (okX G)&&(match c.callee with
 | .value (.func f)=>okFn P f
 | .builtin .len | .builtin .cap | .builtin .copy | .builtin .min=>true
 | .builtin .append=>(match c.argTypes[0]? with|some u=>okElem P u|none=>true)&&(match c.argTypes[1]? with|some u=>!isIntT P u|none=>true)
 | _=>false)
def okO (G:Nat->Bool):Option Operand->Bool
 | none=>true
 | some x=>okX G x
def okOp (P:Program) (G:Nat->Bool):Op->Bool
 | .move x | .assign x=>okX G x
 | .pick c a b=>okX G c&&okX G a&&okX G b
 | .alloc t=>okTy P t
 | .box _ x=>okX G x
 | .build t parts=>okTy P t&&parts.toList.all fun p=>okX G p.2
 | .buildSlice t _ parts=>okElem P t&&parts.toList.all fun p=>okX G p.2
 | .load _ a=>okX G a
 | .store _ a x=>okX G a&&okX G x
 | .nilCheck x=>okX G x
 | .binOp op t x y _=>okX G x&&okX G y&&(match op with | .eql | .neq=>okEq y||(eqTy P t&&!P.eqGuardType P.depth t) | .add | .sub | .mul | .quo | .rem | .and | .or | .xor | .andNot | .shl | .shr | .lss | .leq | .gtr | .geq=>true)
 | .unOp _ _ x=>okX G x
 | .convert s d x=>okX G x&&isIntT P s&&isIntT P d
 | .makeSlice t l c=>okElem P t&&okX G l&&okX G c
 | .slice _ x l h m=>okX G x&&okO G l&&okO G h&&okO G m
 | .fieldAddr s x f=>okX G x&&okField P s f
 | .indexAddr _ x i | .index _ x i=>okX G x&&okX G i
 | .extract x _=>okX G x
 | .call c=>okCall P G c
 | _=>false
section
variable {P:Program} {ρ:Ren} {G:Nat->Bool} {fs:List Nat}
structure EvalR (G:Nat->Bool) (ρ:Ren) (ev ev':Operand->Value):Prop where
 at_:∀x,okX G x=true->VR ρ (ev x) (ev' x)
 const:∀v,ev (.const v)=v/\ev' (.const v)=v
 func:∀f,ev (.func f)=.func (.func f) #[] #[]/\ev' (.func f)=.func (.func f) #[] #[]
theorem sr_value {s s':Sem Value} (h:SR P VR ρ s s'):SR P (NR fs) ρ (s >>= fun v=>pure (.value v)) (s' >>= fun v=>pure (.value v)) :=
 h.bind' fun _ _ _ _ hv=>SR.pure (NR.value hv)
theorem vsr_map {cs:Array Operand} {ev ev':Operand->Value} (h:EvalR G ρ ev ev') (hc:cs.all (okX G)=true):VsR ρ (cs.map ev) (cs.map ev'):=by
 refine⟨by simp,fun i h1 h2=>?_⟩
 simp only[Array.size_map] at h1
 simp only[Array.getElem_map]
 rw[Array.all_eq_true] at hc
 exact h.at_ _ (hc i h1)
theorem psr_map {parts:Array (Nat × Operand)} {ev ev':Operand->Value} (h:EvalR G ρ ev ev') (hc:(parts.toList.all fun p=>okX G p.2)=true):PsR ρ (parts.map fun(i,x)=>(i,ev x)).toList (parts.map fun(i,x)=>(i,ev' x)).toList:=by
 rw[Array.toList_map,Array.toList_map]
 generalize parts.toList=l at *
 induction l with
 | nil=>exact .nil
 | cons p l ih =>
  simp only[List.all_cons,Bool.and_eq_true] at hc
  exact .cons (h.at_ _ hc.1) (ih hc.2)
theorem vo_map {x:Option Operand} {ev ev':Operand->Value} (h:EvalR G ρ ev ev') (hc:okO G x=true):VO ρ (x.map ev) (x.map ev'):=by
 cases x with
 | none=>exact .none
 | some x=>exact .some (h.at_ x hc)
theorem like_un (op:UnOp) (k:IntKind) (n:Int):IntLike P (Op.unary op (.int k n)):=by
 cases op<;>first|exact .inl (.halt _) | (simp only[Op.unary];first|exact like_arith _ _ _ _|exact like_bits _ _ _ _)
theorem like_unb (op:UnOp) (b:Bool):IntLike P (Op.unary op (.bool b)):=by
 cases op<;>first|exact .inl (.halt _) | exact like_bool _
theorem sr_convert {s d:TypeId} (h1:isIntT P s=true) (h2:isIntT P d=true) {v v':Value} (h:VR ρ v v'):SR P VR ρ (convert s d v) (convert s d v'):=by
 unfold isIntT at h1 h2
 unfold convert
 refine(sr_underlying' s).bind' fun σ a _ hl e=>?_
 obtain⟨rfl,e1⟩:=e
 refine(sr_underlying' d).bind' fun σ2 b _ hl2 e=>?_
 obtain⟨rfl,e2⟩:=e
 rw[e1] at h1
 rw[e2] at h2
 cases a<;>first | (cases h1;done) | skip
 cases b<;>first | (cases h2;done) | skip
 cases h<;>first|exact .halt|exact(like_int _ _).sr
theorem sr_equal {t:TypeId} {v v' c:Value} (h:VR ρ v v') (hc:(∃k n,c=.int k n)\/c=.pointer none\/∃l k,c=.slice none l k):SR P Same ρ (Op.equal t v c) (Op.equal t v' c):=by
 unfold Op.equal Op.maxDepth Op.equalIn
 refine(sr_underlying t).bind' fun σ d _ hl e=>?_
 subst e
 rcases hc with⟨k,n,rfl⟩|rfl|⟨l,k,rfl⟩
 ·rcases n with(_|n) | n<;>cases d<;>(cases h<;>first|exact .halt | (dsimp only;split<;>first|exact .halt|exact SR.pure (X:=Same) rfl) | exact SR.pure (X:=Same) rfl)
 ·cases d<;>(cases h<;>first|exact .halt|exact SR.pure (X:=Same) rfl)
 ·cases d<;>(cases h<;>first|exact .halt|exact SR.pure (X:=Same) rfl)
theorem tame_underlying (t:TypeId):Tame P (underlying t):=by
 refine .bind .program fun p=>?_
 split<;>first|exact .pure _|exact .stuck _
theorem dead_equal {t:TypeId} {c:Value} (hc:(∃k n,c=.int k n)\/c=.pointer none\/∃l k,c=.slice none l k):Dead P (Op.equal t .nilIface c):=by
 unfold Op.equal Op.maxDepth Op.equalIn
 refine Dead.bind (tame_underlying t) fun d=>?_
 rcases hc with⟨k,n,rfl⟩|rfl|⟨l,k,rfl⟩
 ·rcases n with(_|n) | n<;>cases d<;>exact .halt _
 ·cases d<;>exact .halt _
 ·cases d<;>exact .halt _
theorem sr_exec (hρ:Ok P ρ) {o:Oper} {ev ev':Operand->Value} (hok:okOp P G o.op=true) (hto:okTo fs o.op=true) (h:EvalR G ρ ev ev'):SR P (NR fs) ρ (execOp ev o) (execOp ev' o):=by
 unfold execOp
 cases ho:o.op with
 | move x=>rw[ho] at hok;exact SR.pure (NR.value (h.at_ x hok))
 | assign x=>rw[ho] at hok;exact SR.pure (NR.value (h.at_ x hok))
 | pick c a b =>
  rw[ho] at hok
  simp only[okOp,Bool.and_eq_true] at hok
  dsimp only
  refine(sr_asBool (h.at_ c hok.1.1)).bind' fun σ t _ hl e=>?_
  subst e
  cases t with
  | true=>exact SR.pure (NR.value ((h.at_ a hok.1.2).mono hl))
  | false=>exact SR.pure (NR.value ((h.at_ b hok.2).mono hl))
 | alloc t=>rw[ho] at hok;exact sr_value (sr_alloc hok)
 | box t x=>rw[ho] at hok;exact sr_value (sr_box t (h.at_ x hok))
 | build t parts =>
  rw[ho] at hok
  simp only[okOp,Bool.and_eq_true] at hok
  exact sr_value (sr_build hok.1 (psr_map h hok.2))
 | buildSlice t n parts =>
  rw[ho] at hok
  simp only[okOp,Bool.and_eq_true] at hok
  exact sr_value (sr_buildSlice hok.1 n (psr_map h hok.2))
 | load t a=>rw[ho] at hok;exact sr_value (sr_loadAt t (h.at_ a hok))
 | store t a x =>
  rw[ho] at hok
  simp only[okOp,Bool.and_eq_true] at hok
  exact(sr_storeAt t (h.at_ a hok.1) (h.at_ x hok.2)).bind' fun _ _ _ _ _=>SR.pure NR.skip
 | nilCheck x =>
  rw[ho] at hok
  have hx:=h.at_ x hok
  dsimp only
  generalize ev x=v at *
  generalize ev' x=v' at *
  cases hx with
  | pnil=>exact .of_dead (dead_runtimePanic _)
  | nilFunc=>exact .of_dead (dead_runtimePanic _)
  | nilIface=>exact .of_dead (dead_runtimePanic _)
  | bool b=>exact SR.pure (NR.value (.bool b))
  | int k n=>exact SR.pure (NR.value (.int k n))
  | ptr q=>exact SR.pure (NR.value (.ptr q))
  | snil l c=>exact SR.pure (NR.value (.snil l c))
  | slice l c q=>exact SR.pure (NR.value (.slice l c q))
  | slz q=>exact SR.pure (NR.value (.slz q))
  | func f hs q=>exact SR.pure (NR.value (.func f hs q))
  | agg hs q=>exact SR.pure (NR.value (.agg hs q))
  | tuple hs q=>exact SR.pure (NR.value (.tuple hs q))
 | binOp op t x y r =>
  rw[ho] at hok
  simp only[okOp,Bool.and_eq_true] at hok
  refine sr_value ?_
  have hx:=h.at_ x hok.1.1
  have hy:=h.at_ y hok.1.2
  have hcy:=h.const
  by_cases hop:op=.eql\/op=.neq
  ·have hor:(okEq y||(eqTy P t&&!P.eqGuardType P.depth t))=true:=by rcases hop with rfl|rfl<;>exact hok.2
   by_cases hyt:(eqTy P t&&!P.eqGuardType P.depth t)=true
   ·rw[Bool.and_eq_true,Bool.not_eq_true'] at hyt
    exact sr_eqOp hρ hyt.1 hyt.2 hop x y hx hy
   have hyc:okEq y=true:=by
    rw[Bool.or_eq_true] at hor
    exact hor.resolve_right hyt
   obtain⟨c,rfl,hc⟩:∃c,y=.const c/\((∃k n,c=.int k n)\/c=.pointer none\/∃l k,c=.slice none l k):=by
    unfold okEq at hyc
    split at hyc
    ·exact⟨_,rfl,.inl ⟨_,_,rfl⟩⟩
    ·exact⟨_,rfl,.inr (.inl rfl)⟩
    ·exact⟨_,rfl,.inr (.inr ⟨_,_,rfl⟩)⟩
    ·cases hyc
   rw[(hcy c).1,(hcy c).2]
   generalize ev x=v at *
   generalize ev' x=v' at *
   have hg:∀a:Value,eqGuard op t x (.const c) a c=pure ():=fun a=>by
    unfold eqGuard
    rcases hc with⟨k,n,rfl⟩|rfl|⟨l,k,rfl⟩<;>(rcases hop with rfl|rfl<;>(cases a<;>rfl))
   rw[hg,hg]
   refine SR.pureBind ?_
   have heq:=fun σ (q:VR σ v v')=>sr_equal (P:=P) (ρ:=σ) (t:=t) q hc
   have two:∀ {s s':Sem Bool} (f:Bool->Bool),SR P Same ρ s s'->SR P VR ρ (do pure (.bool (f (<- s)))) (do pure (.bool (f (<- s')))):=fun f q=>q.bind' fun _ b _ _ e=>by
    subst e
    exact SR.pure (VR.bool _)
   by_cases hnil:v=.nilIface
   ·subst hnil
    refine .of_dead ?_
    have e1:binOp .eql t .nilIface c=(do pure (.bool (<- Op.equal t .nilIface c)))/\binOp .neq t .nilIface c=(do pure (.bool (!(<- Op.equal t .nilIface c)))):=by
     rcases hc with⟨k,n,rfl⟩|rfl|⟨l,k,rfl⟩<;>exact⟨rfl,rfl⟩
    rcases hop with rfl|rfl
    ·rw[e1.1];exact .left (dead_equal hc)
    ·rw[e1.2];exact .left (dead_equal hc)
   by_cases hi:∃k n k' n',v=.int k n/\c=.int k' n'
   ·obtain⟨k,n,k',n',rfl,rfl⟩:=hi
    cases hx
    exact(like_binOp_int op t k k' n n').sr
   ·have he:∀a:Value,(∀k n k' n',¬(a=.int k n/\c=.int k' n'))->binOp .eql t a c=(do pure (.bool (<- Op.equal t a c)))/\binOp .neq t a c=(do pure (.bool (!(<- Op.equal t a c)))):=fun a ha=>by
     rcases hc with⟨k,n,rfl⟩|rfl|⟨l,k,rfl⟩<;>(cases a<;>first|exact⟨rfl,rfl⟩|exact(ha _ _ _ _ ⟨rfl,rfl⟩).elim)
    have hi':∀k n k' n',¬(v=.int k n/\c=.int k' n'):=fun k n k' n' q=>hi ⟨k,n,k',n',q⟩
    have hi2:∀k n k' n',¬(v'=.int k n/\c=.int k' n'):=fun k n k' n' q=>by
     obtain⟨e1,e2⟩:=q
     subst e1
     cases hx with
     | int=>exact hi ⟨_,_,_,_,rfl,e2⟩
     | nilIface=>exact hnil rfl
    rcases hop with rfl|rfl
    ·rw[(he v hi').1,(he v' hi2).1]
     exact two id (heq ρ hx)
    ·rw[(he v hi').2,(he v' hi2).2]
     exact two (fun b=>!b) (heq ρ hx)
  ·have hg:∀a b:Value,eqGuard op t x y a b=pure ():=fun a b=>by
    unfold eqGuard
    cases op<;>first|rfl|exact absurd (Or.inl rfl) hop|exact absurd (Or.inr rfl) hop
   rw[hg,hg]
   refine SR.pureBind ?_
   generalize ev x=v at *
   generalize ev' x=v' at *
   generalize ev y=u at *
   generalize ev' y=u' at *
   exact sr_binOp hρ op t (fun e=>hop (.inl e)) (fun e=>hop (.inr e)) hx hy
 | unOp op t x =>
  rw[ho] at hok
  refine sr_value ?_
  have hx:=h.at_ x hok
  generalize ev x=v at *
  generalize ev' x=v' at *
  cases op<;>(cases hx<;>first|exact .halt|exact(like_un _ _ _).sr|exact(like_unb _ _).sr)
 | convert s d x =>
  rw[ho] at hok
  simp only[okOp,Bool.and_eq_true] at hok
  exact sr_value (sr_convert hok.1.2 hok.2 (h.at_ x hok.1.1))
 | makeSlice t l c =>
  rw[ho] at hok
  simp only[okOp,Bool.and_eq_true] at hok
  exact sr_value (sr_makeSlice hok.1.1 (h.at_ l hok.1.2) (h.at_ c hok.2))
 | slice t x l hh m =>
  rw[ho] at hok
  simp only[okOp,Bool.and_eq_true] at hok
  exact sr_value (sr_sliceAt t (h.at_ x hok.1.1.1) (vo_map h hok.1.1.2) (vo_map h hok.1.2) (vo_map h hok.2))
 | fieldAddr s x f =>
  rw[ho] at hok
  simp only[okOp,Bool.and_eq_true] at hok
  exact sr_value (sr_fieldAt hok.2 (h.at_ x hok.1))
 | indexAddr t x i =>
  rw[ho] at hok
  simp only[okOp,Bool.and_eq_true] at hok
  exact sr_value (sr_indexAt t (h.at_ x hok.1) (h.at_ i hok.2))
 | index t x i =>
  rw[ho] at hok
  simp only[okOp,Bool.and_eq_true] at hok
  exact sr_value (sr_index t (h.at_ x hok.1) (h.at_ i hok.2))
 | extract x i=>rw[ho] at hok;exact sr_value (sr_extract (h.at_ x hok) i)
 | call c =>
  rw[ho] at hok hto
  simp only[okOp,okCall,Bool.and_eq_true] at hok
  obtain⟨ha,hc⟩:=hok
  have hv:=vsr_map h ha
  dsimp only
  unfold resolve
  cases hcal:c.callee with
  | builtin b =>
   rw[hcal] at hc
   refine SR.pureBind ?_
   cases b<;>first | (cases hc;done) | skip
   ·simp only[Bool.and_eq_true] at hc
    refine sr_value (sr_append _ _ (fun u hu=>?_) (fun u hu k hk=>?_) hv)
    ·have:=hc.1
     rw[hu] at this
     exact this
    ·have:=hc.2
     rw[hu] at this
     have h2:isIntT P u=true:=by unfold isIntT;rw[hk]
     dsimp only at this
     rw[h2] at this
     cases this
   ·exact sr_value (sr_cap _ _ hv)
   ·exact sr_value (sr_copy _ _ hv)
   ·exact sr_value (sr_len _ _ hv)
   ·exact sr_value (sr_min_ _ _ hv)
  | value f =>
   rw[hcal] at hc
   cases f with
   | func f =>
    dsimp only at hc ⊢
    rw[(h.func f).1,(h.func f).2]
    refine SR.pureBind ?_
    show SR P (NR fs) ρ (callFunc f ((#[]++c.args.map ev)++#[])) (callFunc f ((#[]++c.args.map ev')++#[]))
    rw[Array.empty_append,Array.empty_append,Array.append_empty,Array.append_empty]
    unfold callFunc
    refine SR.bind' (X:=fun σ a b=>σ=ρ/\a=P/\b=P) (SR.program (SR.pure ⟨rfl,rfl,rfl⟩)) fun σ3 p p' _ e3=>?_
    obtain⟨rfl,e1,e2⟩:=e3
    rw[e1,e2]
    unfold okFn at hc
    cases hf:P.funcs[f]? with
    | none=>exact .halt
    | some fn =>
     rw[hf] at hc
     simp only[Bool.and_eq_true,bne_iff_ne,ne_eq] at hc
     obtain⟨h1,h2⟩:=hc
     have h3:(fn.name == "runtime.NumGoroutine")=false:=by simpa using h2
     have h4:fn.body.isNone=false:=by
      cases hb:fn.body with
      | none=>rw[hb] at h1;cases h1
      | some b=>rfl
     simp only[h3,h4,Bool.false_eq_true,if_false]
     refine SR.pure (NR.enter f ?_ hv)
     simpa [okTo,hcal] using hto
   | _=>cases hc
  | _=>rw[hcal] at hc;cases hc
 | _=>rw[ho] at hok;cases hok
end
end Go.Proofs.YtbicafgmfgdckaaDoor
