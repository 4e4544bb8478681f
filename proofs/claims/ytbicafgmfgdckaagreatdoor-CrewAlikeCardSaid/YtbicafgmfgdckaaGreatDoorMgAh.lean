/- A piece. -/
import Derived.Test.YtbicafgmfgdckaaGreatDoorMgAg
import Derived.Conc.Own
set_option maxRecDepth 100000
set_option maxHeartbeats 16000000
set_option linter.all false
namespace Go.Proofs.YtbicafgmfgdckaaGreatDoor
open Go
section
variable {P:Program} {ρ:Bn}
def Ok (P:Program) (ρ:Bn):Prop:=∀a b,ρ a b->a < P.globals.size->a=b
abbrev Is {α:Type} (ρ:Bn) (X:Bn->α->α->Prop):Bn->α->α->Prop:=fun σ a b=>σ=ρ/\X σ a b
theorem Tf {r r':Nat} (h:ρ r r'):SR P (fun σ a b=>σ=ρ/\((a=none/\b=none)\/∃p q l,a=some (p,l)/\b=some (q,l)/\AR ρ p q)) ρ (numberAt r) (numberAt r'):=by
 unfold numberAt;refine SR.bind' (X:=Is ρ B5) (SR.shape h fun s=>SR.pure ⟨rfl,rfl⟩) fun σ s _ _ e=>?_;obtain⟨rfl,rfl⟩:=e;cases s with
 | some x=>exact SR.pure ⟨rfl,.inl ⟨rfl,rfl⟩⟩
 | none=>exact SR.getObj h fun a a' l ha=>SR.pure ⟨rfl,.inr ⟨a,a',l,rfl,rfl,ha⟩⟩
theorem Zb {r r':Nat} (h:ρ r r'):SR P (fun σ a b=>σ=ρ/\a=none/\b=none) ρ (viewAt r) (viewAt r'):=by
 unfold viewAt;refine SR.bind' (X:=Is ρ B5) (SR.shape h fun s=>SR.pure ⟨rfl,rfl⟩) fun σ s _ _ e=>?_;obtain⟨rfl,rfl⟩:=e;cases s with
 | some x=>exact SR.pure ⟨rfl,rfl,rfl⟩
 | none=>exact SR.getObj h fun a a' l ha=>SR.pure ⟨rfl,rfl,rfl⟩
theorem Gr {a a':Addr} (h:AR ρ a a'):SR P (fun σ x y=>σ=ρ/\AR ρ x.1 y.1/\x.2=y.2) ρ (behindNumber a) (behindNumber a'):=by
 unfold behindNumber;refine(Tf h.block).bind' fun σ x y _ e=>?_;obtain⟨rfl,e⟩:=e;rcases e with⟨rfl,rfl⟩|⟨p,q,l,rfl,rfl,ha⟩
 ·exact SR.pure ⟨rfl,h,rfl⟩
 ·exact SR.pure ⟨rfl,ha,rfl⟩
theorem Acr {a a':Addr} (h:AR ρ a a') (l:Bool):SR P VR ρ (asNumber a l) (asNumber a' l):=by
 unfold asNumber;exact SR.number h fun r r' _=>SR.pure (VR.ptr ⟨.inr ⟨rfl,rfl⟩,rfl,rfl⟩)
theorem N4 {X:Bn->Value->Value->Prop} (hX:∀σ a a',AR σ a a'->X σ (.pointer (some a)) (.pointer (some a'))) {v v' x x':Value} (t:TypeId) (h:VR ρ v v') (hx:VR ρ x x'):SR P X ρ (Builtin.unsafeAdd_ #[] t #[v,x]) (Builtin.unsafeAdd_ #[] t #[v',x']):=by
 unfold Builtin.unsafeAdd_;cases h with
 | pnil =>
  dsimp only;refine(Ps hx).bind' fun σ n _ hl e=>?_;subst e;split
  ·exact .halt
  ·split
   ·exact .of_dead (.left (.halt _))
   ·exact .halt
 | @ptr a a' ha =>
  dsimp only;refine(Ps hx).bind' fun σ n _ hl e=>?_;subst e;have ha1:=ha.mono hl;split
  ·refine(Zb ha1.block).bind' fun σ2 q q' _ e=>?_;obtain⟨rfl,rfl,rfl⟩:=e;exact SR.pure (hX _ _ _ ha1)
  ·split
   ·exact .of_dead (.left (.halt _))
   ·refine SR.bind' (X:=Is σ B5) (SR.shape ha1.block fun s=>SR.pure ⟨rfl,rfl⟩) fun σ2 s _ _ e=>?_;obtain⟨rfl,rfl⟩:=e;cases s with
    | none=>exact .halt
    | some ec =>
     obtain⟨e,cells⟩:=ec;dsimp only;refine SR.bind' (X:=fun σ a b=>σ=σ2/\a=P/\b=P) (SR.program (SR.pure ⟨rfl,rfl,rfl⟩)) fun σ3 p p' _ e3=>?_;obtain⟨rfl,e1,e2⟩:=e3;rw[e1,e2];rw[<- ha1.off];cases cellAtBytes P P.depth e (cells / P.cellsOf e) a.off n with
     | none=>exact .halt
     | some off=>exact SR.pure (hX _ _ _ ⟨ha1.block,rfl,ha1.spot⟩)
 | _=>exact .halt
theorem Ci {v v' x x':Value} (t:TypeId) (h:VR ρ v v') (hx:VR ρ x x'):SR P VR ρ (Builtin.unsafeAdd_ #[] t #[v,x]) (Builtin.unsafeAdd_ #[] t #[v',x']):=N4 (fun _ _ _ q=>VR.ptr q) t h hx
theorem Kp {a a':Addr} (h:AR ρ a a'):SR P (Is ρ B5) ρ (byteOf a) (byteOf a'):=by
 unfold byteOf;rw[<- h.spot];cases hs:a.spot with
 | some s=>exact SR.pure ⟨rfl,rfl⟩
 | none =>
  dsimp only;refine SR.bind' (X:=fun σ a b=>σ=ρ/\a=P/\b=P) (SR.program (SR.pure ⟨rfl,rfl,rfl⟩)) fun σ3 p p' _ e3=>?_;obtain⟨rfl,e1,e2⟩:=e3;rw[e1,e2];unfold noView;refine SR.bind' (X:=fun σ (_ _:Unit)=>σ=σ3) ?_ fun σ4 _ _ _ e=>?_
  ·refine(Zb h.block).bind' fun σ2 q q' _ e=>?_;obtain⟨rfl,rfl,rfl⟩:=e;exact SR.pure rfl
  ·subst e;refine SR.bind' (X:=Is σ4 B5) (SR.shape h.block fun s=>SR.pure ⟨rfl,rfl⟩) fun σ2 s _ _ e=>?_;obtain⟨rfl,rfl⟩:=e;rw[<- h.off];cases s with
   | none=>exact .halt
   | some ec =>
    obtain⟨e,cells⟩:=ec;dsimp only;split
    ·exact SR.pure ⟨rfl,rfl⟩
    ·cases byteOfCell P P.depth e (a.off % P.cellsOf e) with
     | none=>exact .halt
     | some b=>exact SR.pure ⟨rfl,rfl⟩
theorem Pp (hρ:Ok P ρ) {a a' b b':Addr} (h:AR ρ a a') (k:AR ρ b b'):SR P (Is ρ B5) ρ (Op.twoPlaces a b) (Op.twoPlaces a' b'):=by
 unfold Op.twoPlaces;refine SR.bind' (X:=fun σ a b=>σ=ρ/\a=P/\b=P) (SR.program (SR.pure ⟨rfl,rfl,rfl⟩)) fun σ3 p p' _ e3=>?_;obtain⟨rfl,e1,e2⟩:=e3;rw[e1,e2];by_cases hc:(a.block != b.block||decide (a.block>=P.globals.size))=true
 ·rw[if_pos hc];exact .of_dead (.left (.halt _))
 ·rw[if_neg hc];simp only[Bool.or_eq_true,bne_iff_ne,ne_eq,decide_eq_true_eq,not_or,Decidable.not_not] at hc;obtain⟨h1,h2⟩:=hc;have g1:=hρ _ _ h.block (by omega);have g2:=hρ _ _ k.block (by omega);rw[if_neg (by simp only[Bool.or_eq_true,bne_iff_ne,ne_eq,decide_eq_true_eq,not_or,Decidable.not_not];omega)];refine(Kp h).bind' fun σ x y _ e=>?_;obtain⟨rfl,rfl⟩:=e;refine(Kp k).bind' fun σ x y _ e=>?_;obtain⟨rfl,rfl⟩:=e;exact SR.pure ⟨rfl,rfl⟩
theorem Afe (hρ:Ok P ρ) (k:IntKind) {a a' b b':Addr} (h:AR ρ a a') (q:AR ρ b b'):SR P VR ρ (Op.addrSub k a b) (Op.addrSub k a' b'):=by
 unfold Op.addrSub;refine(Pp hρ h q).bind' fun σ x y _ e=>?_;obtain⟨rfl,rfl⟩:=e;exact SR.pure (VR.int _ _)
theorem Aff (hρ:Ok P ρ) (op:BinOp) {a a' b b':Addr} (h:AR ρ a a') (q:AR ρ b b'):SR P VR ρ (Op.addrCmp op a b) (Op.addrCmp op a' b'):=by
 unfold Op.addrCmp;refine(Pp hρ h q).bind' fun σ x y _ e=>?_;obtain⟨rfl,rfl⟩:=e;cases op<;>first|exact SR.pure (VR.bool _) | exact .halt
theorem V5 (k:IntKind) {a a':Addr} (h:AR ρ a a') (n:Int):SR P VR ρ (Op.addrMod k a n) (Op.addrMod k a' n):=by
 unfold Op.addrMod;refine SR.bind' (X:=Is ρ B5) (SR.shape h.block fun s=>SR.pure ⟨rfl,rfl⟩) fun σ2 s _ _ e=>?_;obtain⟨rfl,rfl⟩:=e;cases s with
 | none=>exact .halt
 | some ec =>
  obtain⟨e,cells⟩:=ec;dsimp only;refine(Ba e).bind' fun σ3 i _ hl e=>?_;subst e;split
  ·exact .of_dead (.left (.halt _))
  ·refine(Kp (h.mono hl)).bind' fun σ x y _ e=>?_;obtain⟨rfl,rfl⟩:=e;exact SR.pure (VR.int _ _)
theorem Dv (t:TypeId) {v v' x x':Value} (h:VR ρ v v') (hx:VR ρ x x'):SR P VR ρ (movedNumber t v x) (movedNumber t v' x'):=by
 unfold movedNumber;refine(Av t).bind' fun σ d _ hl e=>?_;subst e;have h1:=h.mono hl;have hx1:=hx.mono hl;have tail:SR P VR σ (do
   let .pointer (some n):=v|Builtin.unsafeAdd_ #[] t #[v,x]
   let (a,lost) <- behindNumber n
   match <- Builtin.unsafeAdd_ #[] t #[.pointer (some a),x] with
   | .pointer (some b)=>asNumber b lost
   | v=>pure v) (do
   let .pointer (some n):=v' | Builtin.unsafeAdd_ #[] t #[v',x']
   let (a,lost) <- behindNumber n
   match <- Builtin.unsafeAdd_ #[] t #[.pointer (some a),x'] with
   | .pointer (some b)=>asNumber b lost
   | v=>pure v):=by
  cases h1 with
  | @ptr n n' hn =>
   dsimp only;refine(Gr hn).bind' fun σ2 y y' _ e=>?_;obtain⟨rfl,ha,hb⟩:=e;obtain⟨a,l⟩:=y;obtain⟨a',l'⟩:=y';dsimp only at ha hb ⊢;subst hb;refine(N4 (X:=fun σ r r'=>∃a a',r=.pointer (some a)/\r'=.pointer (some a')/\AR σ a a') (fun _ _ _ q=>⟨_,_,rfl,rfl,q⟩) t (VR.ptr ha) hx1).bind' fun σ3 r r' _ hr=>?_;obtain⟨_,_,rfl,rfl,q⟩:=hr;exact Acr q l
  | pnil=>exact Ci t VR.pnil hx1
  | bool b=>exact Ci t (VR.bool b) hx1
  | int k n=>exact Ci t (VR.int k n) hx1
  | snil l c=>exact Ci t (VR.snil l c) hx1
  | slice l c q=>exact Ci t (VR.slice l c q) hx1
  | slz q=>exact Ci t (VR.slz q) hx1
  | func f hs q=>exact Ci t (VR.func f hs q) hx1
  | nilFunc=>exact Ci t VR.nilFunc hx1
  | nilIface v' q=>exact .of_dead (by unfold Builtin.unsafeAdd_;exact .halt _)
  | agg hs q=>exact Ci t (VR.agg hs q) hx1
  | tuple hs q=>exact Ci t (VR.tuple hs q) hx1
 cases d<;>first|exact tail|exact .of_dead (.left (.halt _))
theorem Mb (t:TypeId) {v v' x x':Value} (h:VR ρ v v') (hx:VR ρ x x'):SR P VR ρ (movedPointer t v x) (movedPointer t v' x'):=by
 unfold movedPointer;have other:=Ci (P:=P) t h hx;cases h with
 | @ptr a a' ha =>
  dsimp only;refine(Tf ha.block).bind' fun σ y y' _ e=>?_;obtain⟨rfl,e⟩:=e;rcases e with⟨rfl,rfl⟩|⟨p,q,l,rfl,rfl,_⟩
  ·exact other
  ·exact .of_dead (.left (.halt _))
 | nilIface v' q=>exact .of_dead (.halt _)
 | _=>exact other
theorem Ams (hρ:Ok P ρ) (op:BinOp) (t:TypeId) (h1:op≠.eql) (h2:op≠.neq) {v v' x x':Value} (h:VR ρ v v') (hx:VR ρ x x'):SR P VR ρ (binOp op t v x) (binOp op t v' x'):=by
 cases h with
 | int k n =>
  cases hx with
  | int k' m=>exact(Io op t k k' n m).sr
  | @ptr a a' ha =>
   cases op<;>first
    | exact absurd rfl h1
    | exact absurd rfl h2
    | exact .halt
    | exact Dv t (VR.ptr ha) (VR.int k n)
    |(refine(Gr ha).bind' fun σ y y' _ e=>?_
      obtain⟨rfl,ha,_⟩:=e;exact V5 k ha _)
  | pnil=>cases op<;>first|exact absurd rfl h1|exact absurd rfl h2|exact .halt|exact Dv t VR.pnil (VR.int k n)
  | _=>cases op<;>first|exact absurd rfl h1|exact absurd rfl h2|exact .halt
 | pnil =>
  cases hx with
  | int k n =>
   cases op<;>first
    | exact absurd rfl h1
    | exact absurd rfl h2
    | exact .halt
    | exact Dv t VR.pnil (VR.int k (-n))
    |(refine(Av t).bind' fun σ d _ hl e=>?_
      subst e;cases d<;>first|exact Dv t VR.pnil (VR.int k n) | exact Mb t VR.pnil (VR.int k n))
  | _=>cases op<;>first|exact absurd rfl h1|exact absurd rfl h2|exact .halt
 | @ptr a a' ha =>
  cases hx with
  | int k n =>
   cases op<;>first
    | exact absurd rfl h1
    | exact absurd rfl h2
    | exact .halt
    | exact Dv t (VR.ptr ha) (VR.int k (-n))
    |(refine(Gr ha).bind' fun σ y y' _ e=>?_
      obtain⟨rfl,ha,_⟩:=e;exact V5 k ha _)
    |(refine(Av t).bind' fun σ d _ hl e=>?_
      subst e;cases d<;>first|exact Dv t (VR.ptr (ha.mono hl)) (VR.int k n) | exact Mb t (VR.ptr (ha.mono hl)) (VR.int k n))
  | @ptr b b' hb =>
   cases op<;>first
    | exact absurd rfl h1
    | exact absurd rfl h2
    | exact .halt
    |(refine(Gr ha).bind' fun σ y y' _ e=>?_
      obtain⟨rfl,ha,_⟩:=e;refine(Gr hb).bind' fun σ z z' _ e=>?_;obtain⟨rfl,hb,_⟩:=e
      first|exact Afe hρ _ ha hb|exact Aff hρ _ ha hb)
  | _=>cases op<;>first|exact absurd rfl h1|exact absurd rfl h2|exact .halt
 | _=>cases hx<;>(cases op<;>first|exact absurd rfl h1|exact absurd rfl h2|exact .halt)
end
open Go.RowKit
section
variable {P:Program} {ρ:Bn}
def Aa0 (P:Program) (t:TypeId):Bool:=match P.info? t with
 | some i=>(match i.desc with | .named s _=>s != "sync.copyChecker" | _=>true)
 | none=>true
theorem Yy {α:Type} {t:TypeId} {f:TypeInfo->Sem α} (h:∀i,P.info? t=some i->F5 P (f i)):F5 P (typeInfo t >>= f):=fun w es=>by
 cases hi:P.info? t with
 | none =>
  refine⟨.stuck "no such type",w,es,?_,rfl⟩;show ((match P.info? t with|some d=>pure d|none=>stuck "no such type":Sem TypeInfo).bind f).runT P w es=_;rw[hi];rfl
 | some i =>
  obtain⟨h',w',es',e,q⟩:=h i hi w es;refine⟨h',w',es',?_,q⟩;rw[<- e];show ((match P.info? t with|some d=>pure d|none=>stuck "no such type":Sem TypeInfo).bind f).runT P w es=_;rw[hi];rfl
theorem Aal (hρ:Ok P ρ) {t:TypeId} (hp:Aa0 P t=true) {a a' b b':Addr} (h:AR ρ a a') (k:AR ρ b b'):SR P (Is ρ B5) ρ (do
   let (a,b):=((<- behindNumber a).1,(<- behindNumber b).1)
   if a.block==b.block&&a.block < (<- program).globals.size then return (<- byteOf a)==(<- byteOf b)
   let .named "sync.copyChecker" _:=(<- typeInfo t).desc|unsupported .addressObserved
   if a==b then pure true else unsupported .addressObserved) (do
   let (a,b):=((<- behindNumber a').1,(<- behindNumber b').1)
   if a.block==b.block&&a.block < (<- program).globals.size then return (<- byteOf a)==(<- byteOf b)
   let .named "sync.copyChecker" _:=(<- typeInfo t).desc|unsupported .addressObserved
   if a==b then pure true else unsupported .addressObserved):=by
 refine(Gr h).bind' fun σ x x' _ e=>?_;obtain⟨rfl,ha,_⟩:=e;refine(Gr k).bind' fun σ y y' _ e=>?_;obtain⟨rfl,hb,_⟩:=e;dsimp only;refine SR.bind' (X:=fun σ2 a b=>σ2=σ/\a=P/\b=P) (SR.program (SR.pure ⟨rfl,rfl,rfl⟩)) fun σ3 p p' _ e3=>?_;obtain⟨rfl,e1,e2⟩:=e3;rw[e1,e2];by_cases hc:(x.1.block==y.1.block&&decide (x.1.block < P.globals.size))=true
 ·rw[if_pos hc];simp only[Bool.and_eq_true,beq_iff_eq,decide_eq_true_eq] at hc;have g1:=hρ _ _ ha.block hc.2;have g2:=hρ _ _ hb.block (by omega);rw[if_pos (by simp only[Bool.and_eq_true,beq_iff_eq,decide_eq_true_eq];omega)];refine(Kp ha).bind' fun σ x y _ e=>?_;obtain⟨rfl,rfl⟩:=e;refine(Kp hb).bind' fun σ x y _ e=>?_;obtain⟨rfl,rfl⟩:=e;exact SR.pure ⟨rfl,rfl⟩
 ·rw[if_neg hc];refine .of_dead (Yy fun i hi=>?_);unfold Aa0 at hp;rw[hi] at hp;dsimp only at hp;split
  ·rename_i hd;rw[hd] at hp;simp at hp
  ·exact .halt _
theorem F8 (t:TypeId):SR P (fun σ a b=>σ=ρ/\a=b/\P.underlying t=some a) ρ (underlying t) (underlying t):=by
 refine SR.program ?_;show SR P _ ρ (match P.underlying t with|some d=>pure d|none=>stuck "no such type") (match P.underlying t with|some d=>pure d|none=>stuck "no such type");cases hu:P.underlying t with
 | none=>exact .halt
 | some d=>exact SR.pure (X:=fun σ a b=>σ=ρ/\a=b/\some d=some a) ⟨rfl,rfl,rfl⟩
theorem V4 (hρ:Ok P ρ) {t:TypeId} {k:IntKind} (hu:P.underlying t=some (.int k)) (hp:Aa0 P t=true) (d:Nat) {v v' x x':Value} (h:VR ρ v v') (hx:VR ρ x x'):SR P (Is ρ B5) ρ (Op.equalIn (d+1) t v x) (Op.equalIn (d+1) t v' x'):=by
 unfold Op.equalIn;refine(F8 t).bind' fun σ dd _ hl e=>?_;obtain⟨rfl,rfl,e⟩:=e;rw[hu] at e;obtain rfl:=Option.some.inj e;cases h with
 | int k1 n1 =>
  cases hx with
  | int k2 n2 =>
   dsimp only;split<;>first|exact SR.pure ⟨rfl,rfl⟩|exact .halt
  | ptr q=>rcases n1 with(_|n1) | n1<;>first|exact SR.pure ⟨rfl,rfl⟩|exact .halt
  | _=>rcases n1 with(_|n1) | n1<;>exact .halt
 | ptr q =>
  cases hx with
  | int k2 n2=>rcases n2 with(_|n2) | n2<;>first|exact SR.pure ⟨rfl,rfl⟩|exact .halt
  | ptr q2=>exact Aal hρ hp q q2
  | _=>exact .halt
 | _=>cases hx<;>exact .halt
theorem Aiz (t:TypeId):SR P (Is ρ B5) ρ (isAgg t) (isAgg t):=by
 unfold isAgg;refine(F8 t).bind' fun σ d d' _ q=>?_;obtain⟨rfl,rfl,_⟩:=q;cases d<;>exact SR.pure ⟨rfl,rfl⟩
theorem V2 (t:TypeId):SR P (Is ρ B5) ρ (sizeOf t) (sizeOf t):=by
 unfold sizeOf typeInfo;refine SR.bind' (X:=Is ρ B5) ?_ fun σ2 n _ _ q=>?_
 ·refine SR.program ?_;show SR P _ ρ (match P.info? t with|some d=>pure d|none=>stuck "no such type") (match P.info? t with|some d=>pure d|none=>stuck "no such type");cases P.info? t with
  | none=>exact .halt
  | some d=>exact SR.pure ⟨rfl,rfl⟩
 ·obtain⟨rfl,rfl⟩:=q;exact SR.pure ⟨rfl,rfl⟩
theorem Pq (t:TypeId) {cs cs':Array Value} (h:Cx ρ cs cs') (off:Nat):SR P (Is ρ VR) ρ (part t cs off) (part t cs' off):=by
 unfold part;refine(Aiz t).bind' fun σ b _ hl e=>?_;obtain⟨rfl,rfl⟩:=e;cases b with
 | true =>
  refine(V2 t).bind' fun σ2 n _ hl2 e=>?_;obtain⟨rfl,rfl⟩:=e;refine SR.pure ⟨rfl,VR.agg (by simp[h.size]) fun i q1 q2=>?_⟩;simp only[Array.getElem_extract];exact h.at_ _ _ _
 | false =>
  rcases h.get off with⟨e1,e2⟩|⟨v,v',e1,e2,hv⟩
  ·simp only[e1,e2];exact .halt
  ·simp only[e1,e2];exact SR.pure ⟨rfl,hv⟩
theorem Aco {α β:Type} {f f':α->β->Sem (ForInStep β)}:∀(l:List α) (_:∀i∈l,∀b,SR P (Is ρ B5) ρ (f i b) (f' i b)) (b:β),SR P (Is ρ B5) ρ (forIn l b f) (forIn l b f'):=by
 intro l
 induction l with
 | nil =>
  intro _ b;rw[List.forIn_nil,List.forIn_nil];exact SR.pure ⟨rfl,rfl⟩
 | cons i l ih =>
  intro hf b;rw[List.forIn_cons,List.forIn_cons];refine(hf i (by simp) b).bind' fun σ r _ _ q=>?_;obtain⟨rfl,rfl⟩:=q;cases r with
  | done b=>exact SR.pure ⟨rfl,rfl⟩
  | yield b=>exact ih (fun j hj=>hf j (by simp[hj])) b
def gT (P:Program):Nat->TypeId->Bool
 | 0,_=>false
 | d+1,t=>match P.underlying t with
  | some (.int _)=>Aa0 P t
  | some (.array _ e)=>gT P d e
  | some (.struct fs)=>!P.stoodInHeld t&&fs.toList.all fun f=>gT P d f.type
  | _=>false
theorem Ll:∀(n:Nat) (D:Nat) {ρ:Bn} (_:Ok P ρ) {t:TypeId} (_:gT P n t=true) (_:n<=D) {v v' x x':Value} (_:VR ρ v v') (_:VR ρ x x'),SR P (Is ρ B5) ρ (Op.equalIn D t v x) (Op.equalIn D t v' x')
 | 0,_,_,_,_,h,_,_,_,_,_,_,_=>by cases h
 | n+1,0,_,_,_,_,hd,_,_,_,_,_,_=>by omega
 | n+1,D+1,ρ,hρ,t,ht,hd,v,v',x,x',h,hx=>by
  unfold gT at ht;split at ht
  ·rename_i k hu;exact V4 hρ hu ht D h hx
  ·rename_i len e hu;unfold Op.equalIn;refine(F8 t).bind' fun σ dd _ hl q=>?_;obtain⟨rfl,rfl,q⟩:=q;rw[hu] at q;obtain rfl:=Option.some.inj q;cases h with
   | agg hs1 h1 =>
    cases hx with
    | agg hs2 h2 =>
     dsimp only;refine(V2 e).bind' fun σ2 n _ _ q=>?_;obtain⟨rfl,rfl⟩:=q;refine SR.bind' (X:=Is σ2 B5) ?_ fun σ3 r _ _ q=>?_
     ·simp only[Std.Legacy.Range.forIn_eq_forIn_range'];refine Aco _ (fun i _ b=>?_) _;refine(Pq e ⟨hs1,h1⟩ (i * n)).bind' fun σ4 y y' _ q=>?_;obtain⟨rfl,hy⟩:=q;refine(Pq e ⟨hs2,h2⟩ (i * n)).bind' fun σ5 z z' _ q=>?_;obtain⟨rfl,hz⟩:=q;refine(Ll _ D hρ ht (by omega) hy hz).bind' fun σ6 b1 _ _ q=>?_;obtain⟨rfl,rfl⟩:=q;split<;>exact SR.pure ⟨rfl,rfl⟩
     ·obtain⟨rfl,rfl⟩:=q;split<;>exact SR.pure ⟨rfl,rfl⟩
    | _=>exact .halt
   | _=>cases hx<;>exact .halt
  ·rename_i fs hu;rw[Bool.and_eq_true,Bool.not_eq_true',List.all_eq_true] at ht;unfold Op.equalIn;refine(F8 t).bind' fun σ dd _ hl q=>?_;obtain⟨rfl,rfl,q⟩:=q;rw[hu] at q;obtain rfl:=Option.some.inj q;cases h with
   | agg hs1 h1 =>
    cases hx with
    | agg hs2 h2 =>
     dsimp only;refine SR.bind' (X:=fun σ2 a b=>σ2=σ/\a=P/\b=P) (SR.program (SR.pure ⟨rfl,rfl,rfl⟩)) fun σ3 p p' _ e3=>?_;obtain⟨rfl,e1,e2⟩:=e3;rw[e1,e2,ht.1];simp only[Bool.false_eq_true,if_false];refine SR.bind' (X:=Is σ3 B5) ?_ fun σ4 r _ _ q=>?_
     ·rw[<- Array.forIn_toList,<- Array.forIn_toList];refine Aco _ (fun f hf b=>?_) _;split
      ·refine(Pq f.type ⟨hs1,h1⟩ f.offset).bind' fun σ4 y y' _ q=>?_;obtain⟨rfl,hy⟩:=q;refine(Pq f.type ⟨hs2,h2⟩ f.offset).bind' fun σ5 z z' _ q=>?_;obtain⟨rfl,hz⟩:=q;refine(Ll _ D hρ (ht.2 f hf) (by omega) hy hz).bind' fun σ6 b1 _ _ q=>?_;obtain⟨rfl,rfl⟩:=q;split<;>exact SR.pure ⟨rfl,rfl⟩
      ·exact SR.pure ⟨rfl,rfl⟩
     ·obtain⟨rfl,rfl⟩:=q;split<;>exact SR.pure ⟨rfl,rfl⟩
    | _=>exact .halt
   | _=>cases hx<;>exact .halt
  ·cases ht
def X8 (P:Program) (t:TypeId):Bool:=gT P 6 t
theorem Acp (hρ:Ok P ρ) {t:TypeId} (ht:X8 P t=true) {v v' x x':Value} (h:VR ρ v v') (hx:VR ρ x x'):SR P (Is ρ B5) ρ (Op.equal t v x) (Op.equal t v' x') :=
 Ll 6 Op.maxDepth hρ ht (by decide) h hx
theorem Z8 {t:TypeId} (ht:X8 P t=true):(∃k,P.underlying t=some (.int k))\/(∃l e,P.underlying t=some (.array l e))\/∃fs,P.underlying t=some (.struct fs):=by
 unfold X8 gT at ht;split at ht
 ·exact .inl ⟨_,by assumption⟩
 ·exact .inr (.inl ⟨_,_,by assumption⟩)
 ·exact .inr (.inr ⟨_,by assumption⟩)
 ·cases ht
theorem Me {α:Type} {t:TypeId} {f:TypeDesc->Sem α} (h:∀d,P.underlying t=some d->F5 P (f d)):F5 P (underlying t >>= f):=fun w es=>by
 cases hi:P.underlying t with
 | none =>
  refine⟨.stuck "no such type",w,es,?_,rfl⟩;show ((match P.underlying t with|some d=>pure d|none=>stuck "no such type":Sem TypeDesc).bind f).runT P w es=_;rw[hi];rfl
 | some d =>
  obtain⟨h',w',es',e,q⟩:=h d hi w es;refine⟨h',w',es',?_,q⟩;rw[<- e];show ((match P.underlying t with|some d=>pure d|none=>stuck "no such type":Sem TypeDesc).bind f).runT P w es=_;rw[hi];rfl
theorem Ry {t:TypeId} (ht:X8 P t=true) (c:Value):F5 P (Op.equal t .nilIface c):=by
 unfold Op.equal Op.maxDepth Op.equalIn;refine Me fun d hd=>?_;rcases Z8 ht with⟨k,e⟩|⟨l,e1,e⟩|⟨fs,e⟩<;>(rw[hd] at e;obtain rfl:=Option.some.inj e;first | (exact .halt _) | (cases c<;>exact .halt _))
theorem Kj {t:TypeId} (ht:X8 P t=true) {v v':Value} (h:VR ρ v v'):F5 P (Op.equal t v .nilIface):=by
 unfold Op.equal Op.maxDepth Op.equalIn;refine Me fun d hd=>?_;rcases Z8 ht with⟨k,e⟩|⟨l,e1,e⟩|⟨fs,e⟩<;>(rw[hd] at e;obtain rfl:=Option.some.inj e;cases h<;>first|exact .halt _ | (rename_i n;rcases n with(_|n) | n<;>exact .halt _))
theorem Amt (hρ:Ok P ρ) {op:BinOp} {t:TypeId} (ht:X8 P t=true) (hop:op=.eql\/op=.neq) {v v' x x':Value} (h:VR ρ v v') (hx:VR ρ x x'):SR P VR ρ (binOp op t v x) (binOp op t v' x'):=by
 have two:∀ {s s':Sem Bool} (f:Bool->Bool),SR P (Is ρ B5) ρ s s'->SR P VR ρ (do pure (.bool (f (<- s)))) (do pure (.bool (f (<- s')))):=fun f q=>q.bind' fun _ b _ _ e=>by
  obtain⟨rfl,rfl⟩:=e;exact SR.pure (VR.bool _)
 have he:=Acp hρ ht h hx;have dead:∀ {a c:Value},(binOp .eql t a c=(do pure (.bool (<- Op.equal t a c)))/\binOp .neq t a c=(do pure (.bool (!(<- Op.equal t a c)))))->F5 P (Op.equal t a c)->F5 P (binOp op t a c):=fun e q=>by
  rcases hop with rfl|rfl
  ·rw[e.1];exact .left q
  ·rw[e.2];exact .left q
 have same:∀ {a c a' c':Value},(binOp .eql t a c=(do pure (.bool (<- Op.equal t a c)))/\binOp .neq t a c=(do pure (.bool (!(<- Op.equal t a c)))))->(binOp .eql t a' c'=(do pure (.bool (<- Op.equal t a' c')))/\binOp .neq t a' c'=(do pure (.bool (!(<- Op.equal t a' c'))))) ->
   SR P (Is ρ B5) ρ (Op.equal t a c) (Op.equal t a' c')->SR P VR ρ (binOp op t a c) (binOp op t a' c'):=fun e e' q=>by
  rcases hop with rfl|rfl
  ·rw[e.1,e'.1];exact two id q
  ·rw[e.2,e'.2];exact two (fun b=>!b) q
 cases h with
 | nilIface _ q=>exact .of_dead (dead ⟨rfl,rfl⟩ (Ry ht _))
 | int k n =>
  cases hx with
  | int k' n'=>exact(Io op t k k' n n').sr
  | nilIface _ q=>exact .of_dead (dead ⟨rfl,rfl⟩ (Kj ht (VR.int (ρ:=ρ) k n)))
  | _=>exact same ⟨rfl,rfl⟩ ⟨rfl,rfl⟩ he
 | _ =>
  cases hx with
  | nilIface _ q=>exact .of_dead (dead ⟨rfl,rfl⟩ (Kj (ρ:=ρ) ht (by first|exact .bool _|exact .pnil|exact .ptr (by assumption) | exact .snil _ _|exact .slice _ _ (by assumption) | exact .slz (a':=default) (by assumption) | exact .nilFunc|exact .func _ (by assumption) (by assumption) | exact .agg (by assumption) (by assumption) | exact .tuple (by assumption) (by assumption))))
  | _=>exact same ⟨rfl,rfl⟩ ⟨rfl,rfl⟩ he
theorem Sf {α:Type} (u:Unsupported) (hu:Aef (.unsupported u)=true):Fi P (unsupported u:Sem α):=fun w es h' w' es' e=>by
 cases e;exact hu
theorem Sg (t:TypeId):Fi P (underlying t):=by
 refine .bind .program fun p=>?_;split<;>first|exact .pure _|exact .stuck _
theorem Oj (t:TypeId):Fi P (Op.eqGuardIn Op.maxDepth t .nilIface .nilIface):=by
 unfold Op.maxDepth Op.eqGuardIn;refine .bind (Sg t) fun d=>?_;cases d<;>exact .pure _
theorem Ml (op:BinOp) (t:TypeId) (ox oy:Operand):Fi P (eqGuard op t ox oy .nilIface .nilIface):=by
 have key:Fi P (do if <- Op.eqGuardIn Op.maxDepth t .nilIface .nilIface then unsupported (.noEntry "binop/eql: two nil values of an interface type with methods, neither of them the literal nil"):Sem Unit):=by
  refine .bind (Oj t) fun b=>?_;cases b with
  | true=>exact Sf _ rfl
  | false=>exact .pure _
 unfold eqGuard;cases op<;>first|exact .pure _ | (dsimp only;cases ox<;>cases oy<;>first|exact .pure _|exact key)
theorem Apb {op:BinOp} {t:TypeId} (ht:X8 P t=true) (hop:op=.eql\/op=.neq) {v v' x x':Value} (h:VR ρ v v') (hx:VR ρ x x') (hn:v=.nilIface\/x=.nilIface):F5 P (binOp op t v x):=by
 have dead:∀ {a c:Value},(binOp .eql t a c=(do pure (.bool (<- Op.equal t a c)))/\binOp .neq t a c=(do pure (.bool (!(<- Op.equal t a c)))))->F5 P (Op.equal t a c)->F5 P (binOp op t a c):=fun e q=>by
  rcases hop with rfl|rfl
  ·rw[e.1];exact .left q
  ·rw[e.2];exact .left q
 rcases hn with rfl|rfl
 ·exact dead ⟨rfl,rfl⟩ (Ry ht _)
 ·have q:=Kj ht h;cases h<;>exact dead ⟨rfl,rfl⟩ q
theorem Ae5 {op:BinOp} {t:TypeId} (ox oy:Operand) {v v' x x':Value} (h:VR ρ v v') (hx:VR ρ x x') (hn:v=.nilIface\/x=.nilIface):Fi P (eqGuard op t ox oy v x):=by
 rcases hn with rfl|rfl
 ·cases hx<;>first|exact Ml op t ox oy | (unfold eqGuard;cases op<;>exact .pure _)
 ·cases h<;>first|exact Ml op t ox oy | (unfold eqGuard;cases op<;>exact .pure _)
theorem Aqu (hρ:Ok P ρ) {op:BinOp} {t:TypeId} (ht:X8 P t=true) (hgd:P.eqGuardType P.depth t=false) (hop:op=.eql\/op=.neq) (ox oy:Operand) {v v' x x':Value} (h:VR ρ v v') (hx:VR ρ x x') :
  SR P VR ρ (eqGuard op t ox oy v x >>= fun _=>binOp op t v x) (eqGuard op t ox oy v' x' >>= fun _=>binOp op t v' x'):=by
 by_cases hn:v=.nilIface\/x=.nilIface
 ·exact .of_dead (.bind (Ae5 ox oy h hx hn) fun _=>Apb ht hop h hx hn)
 have hb:=Amt hρ ht hop h hx;refine SR.bind' (X:=Is ρ B5) ?_ fun σ _ _ _ q=>?_
 ·cases h with
  | nilIface=>exact absurd (.inl rfl) hn
  | agg hs1 h1 =>
   cases hx with
   | nilIface=>exact absurd (.inr rfl) hn
   | agg hs2 h2 =>
    unfold eqGuard;rcases hop with rfl|rfl <;>
    ·dsimp only;refine SR.bind' (X:=fun σ a b=>σ=ρ/\a=P/\b=P) (SR.program (SR.pure ⟨rfl,rfl,rfl⟩)) fun σ3 p p' _ e3=>?_;obtain⟨rfl,e1,e2⟩:=e3;rw[e1,e2];refine SR.bind' (X:=fun σ a b=>σ=σ3/\a=P/\b=P) (SR.program (SR.pure ⟨rfl,rfl,rfl⟩)) fun σ4 p p' _ e3=>?_;obtain⟨rfl,e1,e2⟩:=e3;rw[e1,e2,hgd];exact SR.pure ⟨rfl,rfl⟩
   | _=>rcases hop with rfl|rfl<;>exact SR.pure ⟨rfl,rfl⟩
  | _=>cases hx<;>first|exact absurd (.inr rfl) hn | (rcases hop with rfl|rfl<;>exact SR.pure ⟨rfl,rfl⟩)
 ·obtain⟨rfl,_⟩:=q;exact hb
end
inductive NR (fs:List Nat) (ρ:Bn):Next->Next->Prop
 | value {v v':Value} (h:VR ρ v v'):NR fs ρ (.value v) (.value v')
 | skip:NR fs ρ .skip .skip
 | enter (f:FuncId) {as as':Array Value} (hf:fs.contains f=true) (h:Cx ρ as as'):NR fs ρ (.enter f as) (.enter f as')
def Aq8 (fs:List Nat):Op->Bool
 | .call c=>(match c.callee with | .value (.func f)=>fs.contains f|_=>true)
 | _=>true
def R6 (G:Nat->Bool):Operand->Bool
 | .tmp _=>true
 | .const v=>Ahj v
 | .global g=>G g
 | .func _=>true
def Ara:Operand->Bool
 | .const (.int _ _) | .const (.pointer none) | .const (.slice none _ _)=>true
 | _=>false
def M4 (P:Program) (t:TypeId):Bool:=match P.underlying t with
 | some (.int _)=>true
 | _=>false
def Au2 (P:Program) (f:FuncId):Bool:=match P.funcs[f]? with
 | some fn=>fn.body.isSome&&fn.name != "runtime.NumGoroutine"
 | none=>false
def Ani (P:Program) (G:Nat->Bool) (c:Call):Bool:=c.args.all (R6 G)&&(match c.callee with
 | .value (.func f)=>Au2 P f
 | .builtin .len | .builtin .cap | .builtin .copy | .builtin .min=>true
 | .builtin .append=>(match c.argTypes[0]? with|some u=>Mr P u|none=>true)&&(match c.argTypes[1]? with|some u=>!M4 P u|none=>true)
 | _=>false)
def okO (G:Nat->Bool):Option Operand->Bool
 | none=>true
 | some x=>R6 G x
def Ot (P:Program) (G:Nat->Bool):Op->Bool
 | .move x | .assign x=>R6 G x
 | .pick c a b=>R6 G c&&R6 G a&&R6 G b
 | .alloc t=>Adf P t
 | .box _ x=>R6 G x
 | .build t parts=>Adf P t&&parts.toList.all fun p=>R6 G p.2
 | .buildSlice t _ parts=>Mr P t&&parts.toList.all fun p=>R6 G p.2
 | .load _ a=>R6 G a
 | .store _ a x=>R6 G a&&R6 G x
 | .nilCheck x=>R6 G x
 | .binOp op t x y _=>R6 G x&&R6 G y&&(match op with | .eql | .neq=>Ara y||(X8 P t&&!P.eqGuardType P.depth t) | .add | .sub | .mul | .quo | .rem | .and | .or | .xor | .andNot | .shl | .shr | .lss | .leq | .gtr | .geq=>true)
 | .unOp _ _ x=>R6 G x
 | .convert s d x=>R6 G x&&M4 P s&&M4 P d
 | .makeSlice t l c=>Mr P t&&R6 G l&&R6 G c
 | .slice _ x l h m=>R6 G x&&okO G l&&okO G h&&okO G m
 | .fieldAddr s x f=>R6 G x&&Aa3 P s f
 | .indexAddr _ x i | .index _ x i=>R6 G x&&R6 G i
 | .extract x _=>R6 G x
 | .call c=>Ani P G c
 | _=>false
section
variable {P:Program} {ρ:Bn} {G:Nat->Bool} {fs:List Nat}
structure Aes (G:Nat->Bool) (ρ:Bn) (ev ev':Operand->Value):Prop where
 at_:∀x,R6 G x=true->VR ρ (ev x) (ev' x)
 const:∀v,ev (.const v)=v/\ev' (.const v)=v
 func:∀f,ev (.func f)=.func (.func f) #[] #[]/\ev' (.func f)=.func (.func f) #[] #[]
theorem Ch {s s':Sem Value} (h:SR P VR ρ s s'):SR P (NR fs) ρ (s >>= fun v=>pure (.value v)) (s' >>= fun v=>pure (.value v)) :=
 h.bind' fun _ _ _ _ hv=>SR.pure (NR.value hv)
theorem Aqc {cs:Array Operand} {ev ev':Operand->Value} (h:Aes G ρ ev ev') (hc:cs.all (R6 G)=true):Cx ρ (cs.map ev) (cs.map ev'):=by
 refine⟨by simp,fun i h1 h2=>?_⟩;simp only[Array.size_map] at h1;simp only[Array.getElem_map];rw[Array.all_eq_true] at hc;exact h.at_ _ (hc i h1)
theorem Ahk {parts:Array (Nat × Operand)} {ev ev':Operand->Value} (h:Aes G ρ ev ev') (hc:(parts.toList.all fun p=>R6 G p.2)=true):PsR ρ (parts.map fun(i,x)=>(i,ev x)).toList (parts.map fun(i,x)=>(i,ev' x)).toList:=by
 rw[Array.toList_map,Array.toList_map];generalize parts.toList=l at *
 induction l with
 | nil=>exact .nil
 | cons p l ih =>
  simp only[List.all_cons,Bool.and_eq_true] at hc;exact .cons (h.at_ _ hc.1) (ih hc.2)
theorem Ae3 {x:Option Operand} {ev ev':Operand->Value} (h:Aes G ρ ev ev') (hc:okO G x=true):VO ρ (x.map ev) (x.map ev'):=by
 cases x with
 | none=>exact .none
 | some x=>exact .some (h.at_ x hc)
theorem Aru (op:UnOp) (k:IntKind) (n:Int):Fl P (Op.unary op (.int k n)):=by
 cases op<;>first|exact .inl (.halt _) | (simp only[Op.unary];first|exact Wz _ _ _ _|exact Zw _ _ _ _)
theorem Aoo (op:UnOp) (b:Bool):Fl P (Op.unary op (.bool b)):=by
 cases op<;>first|exact .inl (.halt _) | exact Zv _
theorem Afd {s d:TypeId} (h1:M4 P s=true) (h2:M4 P d=true) {v v':Value} (h:VR ρ v v'):SR P VR ρ (convert s d v) (convert s d v'):=by
 unfold M4 at h1 h2;unfold convert;refine(Ex s).bind' fun σ a _ hl e=>?_;obtain⟨rfl,e1⟩:=e;refine(Ex d).bind' fun σ2 b _ hl2 e=>?_;obtain⟨rfl,e2⟩:=e;rw[e1] at h1;rw[e2] at h2;cases a<;>first | (cases h1;done) | skip
 cases b<;>first | (cases h2;done) | skip
 cases h<;>first|exact .halt|exact(Mz _ _).sr
theorem Amq {t:TypeId} {v v' c:Value} (h:VR ρ v v') (hc:(∃k n,c=.int k n)\/c=.pointer none\/∃l k,c=.slice none l k):SR P B5 ρ (Op.equal t v c) (Op.equal t v' c):=by
 unfold Op.equal Op.maxDepth Op.equalIn;refine(Av t).bind' fun σ d _ hl e=>?_;subst e;rcases hc with⟨k,n,rfl⟩|rfl|⟨l,k,rfl⟩
 ·rcases n with(_|n) | n<;>cases d<;>(cases h<;>first|exact .halt | (dsimp only;split<;>first|exact .halt|exact SR.pure (X:=B5) rfl) | exact SR.pure (X:=B5) rfl)
 ·cases d<;>(cases h<;>first|exact .halt|exact SR.pure (X:=B5) rfl)
 ·cases d<;>(cases h<;>first|exact .halt|exact SR.pure (X:=B5) rfl)
theorem T4 (t:TypeId):Fi P (underlying t):=by
 refine .bind .program fun p=>?_;split<;>first|exact .pure _|exact .stuck _
theorem Yc {t:TypeId} {c:Value} (hc:(∃k n,c=.int k n)\/c=.pointer none\/∃l k,c=.slice none l k):F5 P (Op.equal t .nilIface c):=by
 unfold Op.equal Op.maxDepth Op.equalIn;refine F5.bind (T4 t) fun d=>?_;rcases hc with⟨k,n,rfl⟩|rfl|⟨l,k,rfl⟩
 ·rcases n with(_|n) | n<;>cases d<;>exact .halt _
 ·cases d<;>exact .halt _
 ·cases d<;>exact .halt _
theorem Aqt (hρ:Ok P ρ) {o:Oper} {ev ev':Operand->Value} (hok:Ot P G o.op=true) (hto:Aq8 fs o.op=true) (h:Aes G ρ ev ev'):SR P (NR fs) ρ (execOp ev o) (execOp ev' o):=by
 unfold execOp;cases ho:o.op with
 | move x=>rw[ho] at hok;exact SR.pure (NR.value (h.at_ x hok))
 | assign x=>rw[ho] at hok;exact SR.pure (NR.value (h.at_ x hok))
 | pick c a b =>
  rw[ho] at hok;simp only[Ot,Bool.and_eq_true] at hok;dsimp only;refine(Ai0 (h.at_ c hok.1.1)).bind' fun σ t _ hl e=>?_;subst e;cases t with
  | true=>exact SR.pure (NR.value ((h.at_ a hok.1.2).mono hl))
  | false=>exact SR.pure (NR.value ((h.at_ b hok.2).mono hl))
 | alloc t=>rw[ho] at hok;exact Ch (Amu hok)
 | box t x=>rw[ho] at hok;exact Ch (Ato t (h.at_ x hok))
 | build t parts =>
  rw[ho] at hok;simp only[Ot,Bool.and_eq_true] at hok;exact Ch (Amr hok.1 (Ahk h hok.2))
 | buildSlice t n parts =>
  rw[ho] at hok;simp only[Ot,Bool.and_eq_true] at hok;exact Ch (Yq hok.1 n (Ahk h hok.2))
 | load t a=>rw[ho] at hok;exact Ch (Aiy t (h.at_ a hok))
 | store t a x =>
  rw[ho] at hok;simp only[Ot,Bool.and_eq_true] at hok;exact(Ae8 t (h.at_ a hok.1) (h.at_ x hok.2)).bind' fun _ _ _ _ _=>SR.pure NR.skip
 | nilCheck x =>
  rw[ho] at hok;have hx:=h.at_ x hok;dsimp only;generalize ev x=v at *;generalize ev' x=v' at *;cases hx with
  | pnil=>exact .of_dead (Ao _)
  | nilFunc=>exact .of_dead (Ao _)
  | nilIface=>exact .of_dead (Ao _)
  | bool b=>exact SR.pure (NR.value (.bool b))
  | int k n=>exact SR.pure (NR.value (.int k n))
  | ptr q=>exact SR.pure (NR.value (.ptr q))
  | snil l c=>exact SR.pure (NR.value (.snil l c))
  | slice l c q=>exact SR.pure (NR.value (.slice l c q))
  | slz q=>exact SR.pure (NR.value (.slz q))
  | func f hs q=>exact SR.pure (NR.value (.func f hs q))
  | agg hs q=>exact SR.pure (NR.value (.agg hs q))
  | tuple hs q=>exact SR.pure (NR.value (.tuple hs q))
 | binOp op t x y r =>
  rw[ho] at hok;simp only[Ot,Bool.and_eq_true] at hok;refine Ch ?_;have hx:=h.at_ x hok.1.1;have hy:=h.at_ y hok.1.2;have hcy:=h.const;by_cases hop:op=.eql\/op=.neq
  ·have hor:(Ara y||(X8 P t&&!P.eqGuardType P.depth t))=true:=by rcases hop with rfl|rfl<;>exact hok.2
   by_cases hyt:(X8 P t&&!P.eqGuardType P.depth t)=true
   ·rw[Bool.and_eq_true,Bool.not_eq_true'] at hyt;exact Aqu hρ hyt.1 hyt.2 hop x y hx hy
   have hyc:Ara y=true:=by
    rw[Bool.or_eq_true] at hor;exact hor.resolve_right hyt
   obtain⟨c,rfl,hc⟩:∃c,y=.const c/\((∃k n,c=.int k n)\/c=.pointer none\/∃l k,c=.slice none l k):=by
    unfold Ara at hyc;split at hyc
    ·exact⟨_,rfl,.inl ⟨_,_,rfl⟩⟩
    ·exact⟨_,rfl,.inr (.inl rfl)⟩
    ·exact⟨_,rfl,.inr (.inr ⟨_,_,rfl⟩)⟩
    ·cases hyc
   rw[(hcy c).1,(hcy c).2];generalize ev x=v at *;generalize ev' x=v' at *;have hg:∀a:Value,eqGuard op t x (.const c) a c=pure ():=fun a=>by
    unfold eqGuard;rcases hc with⟨k,n,rfl⟩|rfl|⟨l,k,rfl⟩<;>(rcases hop with rfl|rfl<;>(cases a<;>rfl))
   rw[hg,hg];refine SR.pureBind ?_;have heq:=fun σ (q:VR σ v v')=>Amq (P:=P) (ρ:=σ) (t:=t) q hc;have two:∀ {s s':Sem Bool} (f:Bool->Bool),SR P B5 ρ s s'->SR P VR ρ (do pure (.bool (f (<- s)))) (do pure (.bool (f (<- s')))):=fun f q=>q.bind' fun _ b _ _ e=>by
    subst e;exact SR.pure (VR.bool _)
   by_cases hnil:v=.nilIface
   ·subst hnil;refine .of_dead ?_;have e1:binOp .eql t .nilIface c=(do pure (.bool (<- Op.equal t .nilIface c)))/\binOp .neq t .nilIface c=(do pure (.bool (!(<- Op.equal t .nilIface c)))):=by
     rcases hc with⟨k,n,rfl⟩|rfl|⟨l,k,rfl⟩<;>exact⟨rfl,rfl⟩
    rcases hop with rfl|rfl
    ·rw[e1.1];exact .left (Yc hc)
    ·rw[e1.2];exact .left (Yc hc)
   by_cases hi:∃k n k' n',v=.int k n/\c=.int k' n'
   ·obtain⟨k,n,k',n',rfl,rfl⟩:=hi;cases hx;exact(Io op t k k' n n').sr
   ·have he:∀a:Value,(∀k n k' n',¬(a=.int k n/\c=.int k' n'))->binOp .eql t a c=(do pure (.bool (<- Op.equal t a c)))/\binOp .neq t a c=(do pure (.bool (!(<- Op.equal t a c)))):=fun a ha=>by
     rcases hc with⟨k,n,rfl⟩|rfl|⟨l,k,rfl⟩<;>(cases a<;>first|exact⟨rfl,rfl⟩|exact(ha _ _ _ _ ⟨rfl,rfl⟩).elim)
    have hi':∀k n k' n',¬(v=.int k n/\c=.int k' n'):=fun k n k' n' q=>hi ⟨k,n,k',n',q⟩;have hi2:∀k n k' n',¬(v'=.int k n/\c=.int k' n'):=fun k n k' n' q=>by
     obtain⟨e1,e2⟩:=q;subst e1;cases hx with
     | int=>exact hi ⟨_,_,_,_,rfl,e2⟩
     | nilIface=>exact hnil rfl
    rcases hop with rfl|rfl
    ·rw[(he v hi').1,(he v' hi2).1];exact two id (heq ρ hx)
    ·rw[(he v hi').2,(he v' hi2).2];exact two (fun b=>!b) (heq ρ hx)
  ·have hg:∀a b:Value,eqGuard op t x y a b=pure ():=fun a b=>by
    unfold eqGuard;cases op<;>first|rfl|exact absurd (Or.inl rfl) hop|exact absurd (Or.inr rfl) hop
   rw[hg,hg];refine SR.pureBind ?_;generalize ev x=v at *;generalize ev' x=v' at *;generalize ev y=u at *;generalize ev' y=u' at *;exact Ams hρ op t (fun e=>hop (.inl e)) (fun e=>hop (.inr e)) hx hy
 | unOp op t x =>
  rw[ho] at hok;refine Ch ?_;have hx:=h.at_ x hok;generalize ev x=v at *;generalize ev' x=v' at *;cases op<;>(cases hx<;>first|exact .halt|exact(Aru _ _ _).sr|exact(Aoo _ _).sr)
 | convert s d x =>
  rw[ho] at hok;simp only[Ot,Bool.and_eq_true] at hok;exact Ch (Afd hok.1.2 hok.2 (h.at_ x hok.1.1))
 | makeSlice t l c =>
  rw[ho] at hok;simp only[Ot,Bool.and_eq_true] at hok;exact Ch (Aak hok.1.1 (h.at_ l hok.1.2) (h.at_ c hok.2))
 | slice t x l hh m =>
  rw[ho] at hok;simp only[Ot,Bool.and_eq_true] at hok;exact Ch (Ae9 t (h.at_ x hok.1.1.1) (Ae3 h hok.1.1.2) (Ae3 h hok.1.2) (Ae3 h hok.2))
 | fieldAddr s x f =>
  rw[ho] at hok;simp only[Ot,Bool.and_eq_true] at hok;exact Ch (Afb hok.2 (h.at_ x hok.1))
 | indexAddr t x i =>
  rw[ho] at hok;simp only[Ot,Bool.and_eq_true] at hok;exact Ch (Afa t (h.at_ x hok.1) (h.at_ i hok.2))
 | index t x i =>
  rw[ho] at hok;simp only[Ot,Bool.and_eq_true] at hok;exact Ch (Amp t (h.at_ x hok.1) (h.at_ i hok.2))
 | extract x i=>rw[ho] at hok;exact Ch (Afc (h.at_ x hok) i)
 | call c =>
  rw[ho] at hok hto;simp only[Ot,Ani,Bool.and_eq_true] at hok;obtain⟨ha,hc⟩:=hok;have hv:=Aqc h ha;dsimp only;unfold resolve;cases tu:c.callee with
  | builtin b =>
   rw[tu] at hc;refine SR.pureBind ?_;cases b<;>first | (cases hc;done) | skip
   ·simp only[Bool.and_eq_true] at hc;refine Ch (Ai1 _ _ (fun u hu=>?_) (fun u hu k hk=>?_) hv)
    ·have:=hc.1;rw[hu] at this;exact this
    ·have:=hc.2;rw[hu] at this;have h2:M4 P u=true:=by unfold M4;rw[hk]
     dsimp only at this;rw[h2] at this;cases this
   ·exact Ch (Atn _ _ hv)
   ·exact Ch (Aqv _ _ hv)
   ·exact Ch (Atm _ _ hv)
   ·exact Ch (Aqr _ _ hv)
  | value f =>
   rw[tu] at hc;cases f with
   | func f =>
    dsimp only at hc ⊢;rw[(h.func f).1,(h.func f).2];refine SR.pureBind ?_;show SR P (NR fs) ρ (callFunc f ((#[]++c.args.map ev)++#[])) (callFunc f ((#[]++c.args.map ev')++#[]));rw[Array.empty_append,Array.empty_append,Array.append_empty,Array.append_empty];unfold callFunc;refine SR.bind' (X:=fun σ a b=>σ=ρ/\a=P/\b=P) (SR.program (SR.pure ⟨rfl,rfl,rfl⟩)) fun σ3 p p' _ e3=>?_;obtain⟨rfl,e1,e2⟩:=e3;rw[e1,e2];unfold Au2 at hc;cases hf:P.funcs[f]? with
    | none=>exact .halt
    | some fn =>
     rw[hf] at hc;simp only[Bool.and_eq_true,bne_iff_ne,ne_eq] at hc;obtain⟨h1,h2⟩:=hc;have h3:(fn.name == "runtime.NumGoroutine")=false:=by simpa using h2
     have h4:fn.body.isNone=false:=by
      cases hb:fn.body with
      | none=>rw[hb] at h1;cases h1
      | some b=>rfl
     simp only[h3,h4,Bool.false_eq_true,if_false];refine SR.pure (NR.enter f ?_ hv);simpa [Aq8,tu] using hto
   | _=>cases hc
  | _=>rw[tu] at hc;cases hc
 | _=>rw[ho] at hok;cases hok
end
open Go.Conc
def Anh (P:Program) (G:Nat->Bool) (fs:List Nat) (ops:Array Oper):Bool:=ops.all fun o=>Ot P G o.op&&Aq8 fs o.op
def Ee (P:Program) (G:Nat->Bool) (fs:List Nat):Code->Bool
 | .skip | .ret | .label _ | .exit _=>true
 | .seq a b=>Ee P G fs a&&Ee P G fs b
 | .cond c a b=>R6 G c&&Ee P G fs a&&Ee P G fs b
 | .block _ c | .loop c | .scope c=>Ee P G fs c
 | .region _ ops _=>Anh P G fs ops
 | _=>false
def Ls (P:Program) (G:Nat->Bool) (fs:List Nat):Item->Bool
 | .code c | .inLoop c | .inScope c=>Ee P G fs c
 | .inBlock _=>true
 | .inRegion ops _=>Anh P G fs ops
 | _=>false
def Cj (P:Program) (G:Nat->Bool) (fs:List Nat) (f:FuncId):Bool:=match P.funcs[f]? with
 | some fn=>(match fn.body with|some c=>Ee P G fs c|none=>false)&&(P.inits.idxOf? f).isNone
 | none=>false
def Df (P:Program) (f:FuncId):Bool:=match P.funcs[f]? with
 | some _=>(P.inits.idxOf? f).isNone
 | none=>false
theorem Ar0 {P:Program} {G:Nat->Bool} {fs:List Nat} {f:FuncId} (h:Cj P G fs f=true):Df P f=true:=by
 unfold Cj at h;unfold Df;cases hf:P.funcs[f]? with
 | none=>rw[hf] at h;cases h
 | some fn=>rw[hf] at h;simp only[Bool.and_eq_true] at h;exact h.2
structure Bt where
 fn:FuncId
 tmps:Array Value
 todo:List Item
 ret:Bool
def Bt.fr (r:Bt):Frame:={ fn:=r.fn,tmps:=r.tmps,todo:=r.todo,defers:=[],mode:=if r.ret then .returning else .run,kind:=.normal }
def Bt.eval (r:Bt):Operand->Value
 | .tmp t=>r.tmps.getD t undef
 | .const v=>v
 | .global g=>.pointer (some ⟨g,0,none⟩)
 | .func f=>.func (.func f) #[] #[]
theorem Bt.eval_fr (r:Bt):r.fr.eval=r.eval:=by funext x;cases x<;>rfl
def Bt.finish (r:Bt) (v:Value):Bt:=match r.todo with
 | .inRegion ops (i::rest)::k=>{ r with tmps:=(match (ops[i]?).bind (·.dst) with|some d=>r.tmps.setIfInBounds d v|none=>r.tmps),todo:=.inRegion ops rest::k }
 | _=>r
structure RR (P:Program) (G:Nat->Bool) (fs:List Nat) (K:List Item) (ρ:Bn) (r r':Bt):Prop where
 fn:r.fn=r'.fn
 todo:r'.todo=r.todo++K
 ret:r.ret=r'.ret
 tmps:Cx ρ r.tmps r'.tmps
 items:∀it∈r.todo,Ls P G fs it=true
 body:Df P r.fn=true
section
variable {P:Program} {G:Nat->Bool} {fs:List Nat} {K:List Item} {ρ σ:Bn} {r r' r1:Bt}
theorem RR.mono (h:RR P G fs K ρ r r') (k:ρ.le σ):RR P G fs K σ r r':=⟨h.fn,h.todo,h.ret,h.tmps.mono k,h.items,h.body⟩
theorem Eh:VR ρ undef undef:=.tuple rfl fun i h=>by simp at h
theorem Cx.getD {cs cs':Array Value} (h:Cx ρ cs cs') (i:Nat):VR ρ (cs.getD i undef) (cs'.getD i undef):=by
 rw[Array.getD_eq_getD_getElem?,Array.getD_eq_getD_getElem?];rcases h.get i with⟨e1,e2⟩|⟨v,v',e1,e2,hv⟩
 ·rw[e1,e2];exact Eh
 ·rw[e1,e2];exact hv
theorem RR.eval (h:RR P G fs K ρ r r') (hG:∀g,G g=true->ρ g g):Aes G ρ r.eval r'.eval:=by
 refine⟨fun x hx=>?_,fun v=>⟨rfl,rfl⟩,fun f=>⟨rfl,rfl⟩⟩;cases x with
 | tmp t=>exact h.tmps.getD t
 | const v=>exact Ab7 hx
 | global g=>exact .ptr ⟨hG g hx,rfl,rfl⟩
 | func f=>exact .func f rfl fun i h=>by simp at h
theorem VR.bool_eq {v v':Value} (h:VR ρ v v'):(∃b,v=.bool b/\v'=.bool b)\/((∀b,v≠.bool b)/\∀b,v'≠.bool b):=by
 cases h<;>first|exact .inl ⟨_,rfl,rfl⟩ | (right;constructor<;>intro b e<;>cases e;done) | (rename_i q;right;exact⟨(fun b e=>by cases e),(fun b e=>by subst e;exact absurd q (by simp[Atu]))⟩)
theorem RR.yielded (h:RR P G fs K ρ r r') (ops:Array Oper):yielded ops r.tmps=yielded ops r'.tmps:=by
 funext j
 unfold Go.yielded;cases hd:(ops[j]?).bind (·.dst) with
 | none=>rfl
 | some d =>
  show (match r.tmps[d]? with|some (.bool b)=>some b|_=>none)=(match r'.tmps[d]? with|some (.bool b)=>some b|_=>none);rcases h.tmps.get d with⟨e1,e2⟩|⟨v,v',e1,e2,hv⟩
  ·rw[e1,e2]
  ·rw[e1,e2];cases hv with
   | nilIface _ q=>cases v'<;>first|rfl | (cases q;done)
   | _=>rfl
theorem RR.finish (h:RR P G fs K ρ r r') {v v':Value} (hv:VR ρ v v') (hne:r.todo≠[]):RR P G fs K ρ (r.finish v) (r'.finish v'):=by
 have ht:=h.todo;unfold Bt.finish;cases hk:r.todo with
 | nil=>exact absurd hk hne
 | cons it k =>
  rw[hk,List.cons_append] at ht;rw[ht];cases it with
  | inRegion ops tl =>
   cases tl with
   | nil=>exact h
   | cons i rest =>
    refine⟨h.fn,rfl,h.ret,?_,fun it hit=>?_,h.body⟩
    ·dsimp only;cases (ops[i]?).bind (·.dst) with
     | none=>exact h.tmps
     | some d=>exact h.tmps.set d hv
    ·rcases List.mem_cons.1 hit with e|hit
     ·subst e;exact h.items (.inRegion ops (i::rest)) (by rw[hk];simp)
     ·exact h.items it (by rw[hk];simp[hit])
  | _=>exact h
def Sx (P:Program) (G:Nat->Bool) (fs:List Nat) (r:Bt):Prop:=∀it,r.todo.head?=some it->Ls P G fs it=true
theorem RR.head (h:RR P G fs K ρ r r'):Sx P G fs r:=fun it e=>h.items it (List.mem_of_mem_head? (by rw[e];simp))
theorem RR.head' (h:RR P G fs K ρ r r') (hne:r.todo≠[]):Sx P G fs r':=fun it e=>by
 rw[h.todo] at e;cases hk:r.todo with
 | nil=>exact absurd hk hne
 | cons x k =>
  rw[hk] at e;simp only[List.cons_append,List.head?_cons,Option.some.injEq] at e;subst e;exact h.items x (by rw[hk];simp)
theorem Ic (r:Bt) (v:Value) (hi:Sx P G fs r):r.fr.finish v=(r.finish v).fr:=by
 unfold Bt.finish Frame.finish;have ht:r.fr.todo=r.todo:=rfl;rw[ht];cases hk:r.todo with
 | nil=>rfl
 | cons it k =>
  have:=hi it (by rw[hk];rfl);cases it<;>first | (cases this;done) | rfl|skip
  rename_i ops todo;cases todo with
  | nil=>rfl
  | cons i rest =>
   dsimp only;cases (ops[i]?).bind (·.dst)<;>rfl
def ctl (r:Bt):Option Bt :=
 match r.todo with
 | []=>some { r with ret:=true }
 | .code .ret::_=>some { r with ret:=true }
 | .code .skip::k=>some { r with todo:=k }
 | .code (.label _)::k=>some { r with todo:=k }
 | .inBlock _::k=>some { r with todo:=k }
 | .inScope _::k=>some { r with todo:=k }
 | .code (.seq a b)::k=>some { r with todo:=.code a::.code b::k }
 | .code (.cond c a b)::k=>(match r.eval c with | .bool t=>some { r with todo:=.code (if t then a else b)::k } | _=>none)
 | .code (.block id body)::k=>some { r with todo:=.code body::.inBlock id::k }
 | .code (.loop body)::k=>some { r with todo:=.code body::.inLoop body::k }
 | .inLoop body::k=>some { r with todo:=.code body::.inLoop body::k }
 | .code (.scope body)::k=>some { r with todo:=.code body::.inScope body::k }
 | .code (.exit id)::k=>(exitTo id k).map fun k'=>{ r with todo:=k' }
 | .code (.region _ ops false)::k=>some { r with todo:=.inRegion ops (List.range ops.size)::k }
 | .inRegion _ []::k=>some { r with todo:=k }
 | .inRegion ops (i::_)::_=>if ((ops[i]?).map (Region.wanted · (yielded ops r.tmps))).getD false then none else some (r.finish undef)
 | _=>none
theorem Ye (hr:r.ret=false) (hi:Sx P G fs r) (h:ctl r=some r1) (main:Bool) (base:List Frame) (w:World):stepG P main (Conc.G r.fr base) w=.go (Conc.G r1.fr base) w #[]:=by
 have hfin:=Ic (P:=P) (G:=G) (fs:=fs) r undef hi;obtain⟨fn,tmps,todo,ret⟩:=r;dsimp only at hr;subst hr;unfold ctl at h;dsimp only at h;split at h<;>first
  |(injection h with h;subst h;simp[Conc.G,stepG,stepG.exec,Bt.fr];done)
  | skip
 ·rename_i c a b k;have he:=congrFun (Bt.eval_fr ⟨fn,tmps,.code (.cond c a b)::k,false⟩) c;split at h
  ·rename_i t ht;injection h with h;subst h;rw[ht] at he;simp only[Bt.fr,Bool.false_eq_true,if_false] at he;simp[Conc.G,stepG,stepG.exec,Bt.fr,he]
  ·cases h
 ·rename_i id k;cases hk:exitTo id k with
  | none=>rw[hk] at h;cases h
  | some k' =>
   rw[hk] at h;injection h with h;subst h;simp[Conc.G,stepG,stepG.exec,Bt.fr,hk]
 ·rename_i ops i tl k;split at h
  ·cases h
  ·rename_i hw;injection h with h;subst h;have e:stepG P main (Conc.G (Bt.fr ⟨fn,tmps,.inRegion ops (i::tl)::k,false⟩) base) w=.go (Conc.G ((Bt.fr ⟨fn,tmps,.inRegion ops (i::tl)::k,false⟩).finish undef) base) w #[]:=by
    simp only[Conc.G,stepG,stepG.exec,Bt.fr,Bool.false_eq_true,if_false];rw[if_neg hw]
   rw[e,hfin]
 ·cases h
theorem O4 {id:Nat}:∀ {k k':List Item},exitTo id k=some k'->∀it∈k',it∈k
 | [],_,h,_,_=>by simp[exitTo] at h
 | x::k,k',h,it,hit=>by
  unfold exitTo at h;split at h
  ·rename_i e;injection e with e1 e2;subst e2;split at h
   ·injection h with h;subst h;exact List.mem_cons_of_mem _ hit
   ·exact List.mem_cons_of_mem _ (O4 h it hit)
  ·rename_i e;injection e with e1 e2;subst e2;exact List.mem_cons_of_mem _ (O4 h it hit)
  ·rename_i e;cases e
theorem Ki {id:Nat} (K:List Item):∀ {k k':List Item},exitTo id k=some k'->exitTo id (k++K)=some (k'++K)
 | [],_,h=>by simp[exitTo] at h
 | x::k,k',h=>by
  unfold exitTo at h ⊢;rw[List.cons_append];split at h
  ·rename_i e;injection e with e1 e2;subst e1 e2;dsimp only;split at h
   ·rename_i hq;rw[if_pos hq];injection h with h;subst h;rfl
   ·rename_i hq;rw[if_neg hq];exact Ki K h
  ·rename_i hx e;injection e with e1 e2;subst e1 e2;cases x with
   | inBlock id'=>exact(hx id' rfl).elim
   | _=>exact Ki K h
  ·rename_i e;cases e
theorem Asl (h:RR P G fs K ρ r r') (hG:∀g,G g=true->ρ g g) (hne:r.todo≠[]\/K=[]) (hc:ctl r=some r1):∃r1',ctl r'=some r1'/\RR P G fs K ρ r1 r1':=by
 have hy:=h.yielded;have hf:=fun q=>h.finish (Eh (ρ:=ρ)) q;have hev:=h.eval hG;obtain⟨h1,h2,h3,h4,h5,h6⟩:=h;obtain⟨fn,tmps,todo,ret⟩:=r;obtain⟨fn',tmps',todo',ret'⟩:=r';dsimp only at h1 h2 h3 h4 h5 h6 hne;subst h1 h2 h3;unfold ctl at hc ⊢;dsimp only at hc ⊢;split at hc
 ·obtain rfl:K=[]:=hne.resolve_left (fun q=>q rfl);injection hc with hc;subst hc;exact⟨_,rfl,rfl,rfl,rfl,h4,h5,h6⟩
 all_goals first
  |(injection hc with hc
    subst hc;refine⟨_,rfl,rfl,rfl,rfl,h4,?_,h6⟩;simp only[List.forall_mem_cons,Ls,Ee,Bool.and_eq_true] at h5 ⊢
    simp_all
    done)
  | skip
 ·rename_i c a b k;simp only[List.forall_mem_cons,Ls,Ee,Bool.and_eq_true] at h5;have hcx:=hev.at_ c h5.1.1.1;split at hc
  ·rename_i t ht;injection hc with hc;subst hc;rw[ht] at hcx;rcases hcx.bool_eq with⟨u,e1,e2⟩|⟨e1,_⟩
   ·injection e1 with e1;subst e1;simp only[List.cons_append] at e2 ⊢;rw[e2];refine⟨_,rfl,rfl,rfl,rfl,h4,?_,h6⟩;simp only[List.forall_mem_cons,Ls];refine⟨?_,h5.2⟩;cases t with
    | true=>exact h5.1.1.2
    | false=>exact h5.1.2
   ·exact absurd rfl (e1 t)
  ·cases hc
 ·rename_i id k;cases hk:exitTo id k with
  | none=>rw[hk] at hc;cases hc
  | some k' =>
   rw[hk] at hc;injection hc with hc;subst hc;simp only[List.cons_append];rw[Ki K hk];exact⟨_,rfl,rfl,rfl,rfl,h4,fun it hit=>h5 it (List.mem_cons_of_mem _ (O4 hk it hit)),h6⟩
 ·rename_i ops i tl k;simp only[List.cons_append];rw[<- hy ops];split at hc
  ·cases hc
  ·rename_i hw;injection hc with hc;subst hc;rw[if_neg hw];exact⟨_,rfl,hf (by simp)⟩
 ·cases hc
end
theorem WR.kind {gs:Nat} {F:Nat->Prop} {ρ:Bn} {w w':World} (h:WR gs F ρ w w') {a b:Nat} (k:ρ a b):(∃cs t fr,w.heap[a]?=some (.cells cs t fr))\/∃ad l,w.heap[a]?=some (.number ad l):=by
 obtain⟨o,o',h1,h2,h3⟩:=h.block _ _ k;cases o<;>cases o'<;>first|exact h3.elim|exact .inl ⟨_,_,_,h1⟩|exact .inr ⟨_,_,h1⟩
theorem WR.noCell {gs:Nat} {F:Nat->Prop} {ρ:Bn} {w w':World} (h:WR gs F ρ w w') {a a':Addr} (k:AR ρ a a') (what:String):w.noCell a what=.stuck what:=by
 unfold World.noCell;rcases h.kind k.block with⟨cs,t,fr,e⟩|⟨ad,l,e⟩<;>rw[e]
theorem WR.farLoad {gs:Nat} {F:Nat->Prop} {ρ:Bn} {w w':World} (h:WR gs F ρ w w') {a a':Addr} (k:AR ρ a a') (p:Program) (b:Bool):w.farLoad p a b=.error (.stuck "load: no such cell"):=by
 unfold World.farLoad;have:=h.noCell k "load: no such cell";rcases h.kind k.block with⟨cs,t,fr,e⟩|⟨ad,l,e⟩<;>(rw[e];dsimp only;rw[this])
theorem WR.farStore {gs:Nat} {F:Nat->Prop} {ρ:Bn} {w w':World} (h:WR gs F ρ w w') {a a':Addr} (k:AR ρ a a') (p:Program) (v:Value) (b:Bool):w.farStore p a v b=.error (.stuck "store: no such cell"):=by
 unfold World.farStore;have:=h.noCell k "store: no such cell";rcases h.kind k.block with⟨cs,t,fr,e⟩|⟨ad,l,e⟩<;>(rw[e];dsimp only;rw[this])
theorem Ac0 {α β:Type} {X:Bn->α->β->Prop} {F:Nat->Prop} (p:Program) {ρ:Bn} {s:Sem α} {s':Sem β} (h:SR p X ρ s s'):∀(w w':World) (es:Array Event),WR p.globals.size F ρ w w' ->
  ∀hh w1 es1,s.runT p w es=(.halt hh w1,es1)->Aef hh=true:=by
 induction h with
 | pure h=>intro w w' es hw hh w1 es1 e;simp[Sem.runT] at e
 | @load ρ a a' k k' hA _ ih =>
  intro w w' es hw hh w1 es1 e;rcases hw.cell hA with⟨h1,h2⟩|⟨v,v',h1,h2,hv⟩
  ·simp only[Sem.runT,h1,hw.farLoad hA] at e;simp only[Prod.mk.injEq,Result.halt.injEq] at e;rw[<- e.1.1];rfl
  ·simp only[Sem.runT,h1] at e;exact ih v v' hv w w' _ hw hh w1 es1 e
 | @store ρ a a' v v' k k' hA hv _ ih =>
  intro w w' es hw hh w1 es1 e;by_cases mh:(∃c,v=.agg c)\/(∃c,v=.tuple c)
  ·rcases mh with⟨c,rfl⟩|⟨c,rfl⟩<;>(simp only[Sem.runT,Prod.mk.injEq,Result.halt.injEq] at e;rw[<- e.1.1];rfl)
  ·have st:(Sem.store .plain a v k).runT p w es=match w.cell? a with
     | some _=>if w.frozen? a then (.halt (.unsupported (.unsafePointer "a write to bytes that a string shares")) w,es) else k.runT p (w.setCell a v) (es.push ⟨.cell a,true,Mode.plain==.atomic⟩)
     | none=>match w.farStore p a v (Mode.plain==.atomic) with
      | .ok (w,touched)=>k.runT p w (es++touched.toArray.map (⟨.cell ·,true,Mode.plain==.atomic⟩))
      | .error h=>(.halt h w,es):=by
    cases v<;>first|rfl|exact(mh (.inl ⟨_,rfl⟩)).elim|exact(mh (.inr ⟨_,rfl⟩)).elim
   rw[st] at e;rcases hw.cell hA with⟨h1,h2⟩|⟨u,u',h1,h2,hu⟩
   ·rw[h1] at e;dsimp only at e;rw[hw.farStore hA] at e;simp only[Prod.mk.injEq,Result.halt.injEq] at e;rw[<- e.1.1];rfl
   ·rw[h1] at e;dsimp only at e;split at e
    ·simp only[Prod.mk.injEq,Result.halt.injEq] at e;rw[<- e.1.1];rfl
    ·exact ih (w.setCell a v) (w'.setCell a' v') _ (hw.set hA hv) hh w1 es1 e
 | @new ρ cs cs' t k k' hc _ ih =>
  intro w w' es hw hh w1 es1 e;simp only[Sem.runT] at e;exact ih w.heap.size w'.heap.size hw.gsize _ _ _ (hw.push (o:=.cells cs t) (o':=.cells cs' t) hw.lt (.inl ⟨_,_,_,rfl⟩) fun b hf=>⟨rfl,hc,fun q=>(hf q).elim,fun _=>⟨rfl,rfl⟩⟩) hh w1 es1 e
 | @number ρ a a' l k k' hc _ ih =>
  intro w w' es hw hh w1 es1 e;simp only[Sem.runT] at e;exact ih w.heap.size w'.heap.size hw.gsize _ _ _ (hw.push (o:=.number a l) (o':=.number a' l) hw.lt (.inr ⟨_,_,rfl⟩) fun b _=>⟨rfl,hc⟩) hh w1 es1 e
 | @getObj ρ r r' k k' hr _ ih =>
  intro w w' es hw hh w1 es1 e;obtain⟨o,o',q1,q2,q3⟩:=hw.block _ _ hr;simp only[Sem.runT,q1] at e;cases o<;>cases o'<;>first|exact q3.elim|skip
  ·simp only[Prod.mk.injEq,Result.halt.injEq] at e;rw[<- e.1.1];rfl
  ·rename_i a l a' l';obtain⟨rfl,ha⟩:=q3;exact ih a a' l ha w w' _ hw hh w1 es1 e
 | @shape ρ r r' k k' hr _ ih =>
  intro w w' es hw hh w1 es1 e;simp only[Sem.runT] at e;exact ih _ w w' es hw hh w1 es1 e
 | @choose ρ q k k' _ ih =>
  intro w w' es hw hh w1 es1 e;simp only[Sem.runT] at e;split at e
  ·exact ih _ w w' es hw hh w1 es1 e
  ·exact ih _ _ _ es hw.draw hh w1 es1 e
 | @program ρ k k' _ ih =>
  intro w w' es hw hh w1 es1 e;simp only[Sem.runT] at e;exact ih w w' es hw hh w1 es1 e
 | @mark ρ m k k' hm _ ih =>
  intro w w' es hw hh w1 es1 e;simp only[Sem.runT] at e;exact ih w w' _ hw hh w1 es1 e
 | halt hd =>
  intro w w' es hw hh w1 es1 e;simp only[Sem.runT,Prod.mk.injEq,Result.halt.injEq] at e;rw[<- e.1.1];exact hd
 | loadVoid h =>
  intro w w' es hw hh w1 es1 e;obtain⟨_,e2⟩:=Sb p hw h _ es;rw[e2] at e;simp only[Prod.mk.injEq,Result.halt.injEq] at e;rw[<- e.1.1];rfl
 | storeVoid h =>
  intro w w' es hw hh w1 es1 e;obtain⟨_,_,e2⟩:=Oi p hw h _ _ es;rw[e2] at e;simp only[Prod.mk.injEq,Result.halt.injEq] at e;rw[<- e.1.1];rfl
 | dead h =>
  intro w w' es hw hh w1 es1 e;obtain⟨h',w2,es2,e2,hd⟩:=h w es;rw[e2] at e;simp only[Prod.mk.injEq,Result.halt.injEq] at e;rw[<- e.1.1];exact hd
section
variable {P:Program} {fr:Frame} {cs:List Frame} {s:Sem Next} {w w1:World} {es:Array Event}
theorem Aaw {h:Result Next} (e:s.runT P w #[]=(h,es)):s.run P w=h/\s.events P w #[]=es:=by
 refine⟨?_,?_⟩
 ·rw[<- Sem.runT_fst P s w #[],e]
 ·unfold Sem.events;rw[e]
theorem Tv {v:Value} (hk:fr.kind=.normal) (h:s.runT P w #[]=(.ok (.value v) w1,es)):stepG.apply P true fr cs none s w=.go (Conc.G (fr.finish v) cs) w1 (seen P fr.fn es):=by
 obtain⟨e1,e2⟩:=Aaw h;simp[stepG.apply,e1,e2,hk,GStep.after,Conc.G]
theorem Yh (hk:fr.kind=.normal) (h:s.runT P w #[]=(.ok .skip w1,es)):stepG.apply P true fr cs none s w=.go (Conc.G (fr.finish undef) cs) w1 (seen P fr.fn es):=by
 obtain⟨e1,e2⟩:=Aaw h;simp[stepG.apply,e1,e2,hk,GStep.after,Conc.G]
theorem Tw {f:FuncId} {as:Array Value} {ops:Array Oper} {t:List Nat} {k:List Item} (hk:fr.kind=.normal) (ht:fr.todo=.inRegion ops t::k) (h:s.runT P w #[]=(.ok (.enter f as) w1,es)):stepG.apply P true fr cs none s w=.go (Conc.G (Frame.enter P f as .normal) (fr::cs)) w1 (seen P fr.fn es):=by
 obtain⟨e1,e2⟩:=Aaw h;simp[stepG.apply,e1,e2,hk,GStep.after,Conc.G,ht]
theorem Ag3 {h':Halt} (h:s.runT P w #[]=(.halt h' w1,es)) (hd:Aef h'=true):(∃v w2 es',stepG.apply P true fr cs none s w=.go (Conc.G (fr.raise [{ v,recovered:=false }]) cs) w2 es')\/∃o w2 es2,stepG.apply P true fr cs none s w=.ended o w2 es2:=by
 obtain⟨e1,e2⟩:=Aaw h;cases h' with
 | panic v=>left;refine⟨v,w1,?_⟩;simp only[stepG.apply,Sem.runT_eq,e1,if_true,GStep.after,Conc.G];exact⟨_,rfl⟩
 | stuck why=>right;simp only[stepG.apply,Sem.runT_eq,e1,if_true,GStep.after];exact⟨_,_,_,rfl⟩
 | unsupported u=>cases u<;>first | (cases hd;done) | (right;simp only[stepG.apply,Sem.runT_eq,e1,if_true,GStep.after];exact⟨_,_,_,rfl⟩)
 | _=>cases hd
theorem Pu {f:FuncId} {es:Array Event} {e:Event} (h:e∈seen P f es):e∈es:=by
 unfold seen at h;dsimp only at h;rw[<- Array.foldl_toList] at h;have key:∀(l:List Event) (q:Bool × Array Event),e∈(l.foldl (fun(q:Bool × Array Event) e=>match e.loc with
   | .mark (.extern f)=>((P.funcs[f]?).any (·.norace),q.2)
   | _=>(q.1,if q.1&&!e.sync then q.2 else q.2.push e)) q).2->e∈q.2\/e∈l:=by
  intro l
  induction l with
  | nil=>intro q h;exact .inl h
  | cons a l ih =>
   intro q h;rw[List.foldl_cons] at h;rcases ih _ h with h|h
   ·split at h
    ·exact .inl h
    ·dsimp only at h;split at h
     ·exact .inl h
     ·rcases Array.mem_push.1 h with h|h
      ·exact .inl h
      ·subst h;exact .inr (by simp)
   ·exact .inr (by simp[h])
 rcases key es.toList _ h with h|h
 ·simp at h
 ·simpa using h
end
def L6 (K:List Item):List Bt->List Item
 | []=>K
 | _=>[]
theorem Hg (l:List Bt):L6 [] l=[]:=by cases l<;>rfl
inductive LR (P:Program) (G:Nat->Bool) (fs:List Nat) (K:List Item) (ρ:Bn):List Bt->List Bt->Prop
 | nil:LR P G fs K ρ [] []
 | cons {r r':Bt} {l l':List Bt} (h:RR P G fs (L6 K l) ρ r r') (hr:r.ret=false) (ht:r.todo≠[]) (k:LR P G fs K ρ l l'):LR P G fs K ρ (r::l) (r'::l')
section
variable {P:Program} {G:Nat->Bool} {fs:List Nat} {K:List Item} {ρ σ:Bn}
theorem LR.mono {l l':List Bt} (h:LR P G fs K ρ l l') (k:ρ.le σ):LR P G fs K σ l l':=by
 induction h with
 | nil=>exact .nil
 | cons q hr ht _ ih=>exact .cons (q.mono k) hr ht ih
theorem N5 {ts ts':Array Value} (h:Cx ρ ts ts'):∀(l:List ResultVar) (σ:Bn),ρ.le σ->SR P LsR σ
   (l.mapM fun(r:ResultVar)=>(match r with | .tmp t=>pure (ts.getD t undef) | .cell a t=>do loadVar t (<- asAddr (ts.getD a undef)):Sem Value))
   (l.mapM fun(r:ResultVar)=>(match r with | .tmp t=>pure (ts'.getD t undef) | .cell a t=>do loadVar t (<- asAddr (ts'.getD a undef)):Sem Value))
 | [],σ,_=>by rw[List.mapM_nil,List.mapM_nil];exact SR.pure .nil
 | r::l,σ,hl=>by
  rw[List.mapM_cons,List.mapM_cons];have one:SR P VR σ (match r with | .tmp t=>pure (ts.getD t undef) | .cell a t=>do loadVar t (<- asAddr (ts.getD a undef)):Sem Value) (match r with | .tmp t=>pure (ts'.getD t undef) | .cell a t=>do loadVar t (<- asAddr (ts'.getD a undef)):Sem Value):=by
   cases r with
   | tmp t=>exact SR.pure ((h.mono hl).getD t)
   | cell a t=>exact(Zc ((h.mono hl).getD a)).bind' fun _ _ _ _ ha=>V3 t ha
  refine one.bind' fun σ2 v v' hl2 hv=>?_;refine(N5 h l σ2 (Bn.le_trans hl hl2)).bind' fun τ a b av q=>?_;exact SR.pure (.cons (hv.mono av) q)
theorem Om {fn:Func} {ts ts':Array Value} (h:Cx ρ ts ts'):SR P VR ρ (results fn ts) (results fn ts'):=by
 unfold results;rw[Array.mapM_eq_mapM_toList,Array.mapM_eq_mapM_toList];have key:=N5 (P:=P) h fn.results.toList ρ (Bn.le_refl _);refine SR.bind' (X:=fun σ a b=>Cx σ a b) (SR.bind' key fun σ a b hl q=>SR.pure q.array) fun σ vs vs' hl q=>?_;refine SR.pure ?_;by_cases e:vs.size=1
 ·rw[dif_pos e,dif_pos (q.size ▸ e)];exact q.at_ 0 (by omega) (by rw[<- q.size];omega)
 ·rw[dif_neg e,dif_neg (fun e2=>e (q.size.trans e2))];exact .tuple q.size q.at_
end
def re (w:World) (T:Nat->Question->Nat) (d:Nat):World:={ w with tape:=T,drawn:=d }
@[simp] theorem As2 (w:World) (T T':Nat->Question->Nat) (d d':Nat):re (re w T d) T' d'=re w T' d':=rfl
theorem Avn (w:World):re w w.tape w.drawn=w:=rfl
@[simp] theorem Pz (w:World) (T:Nat->Question->Nat) (d:Nat):(re w T d).drawn=d:=rfl
@[simp] theorem Avm (w:World) (T:Nat->Question->Nat) (d:Nat):(re w T d).tape=T:=rfl
@[simp] theorem Aq1 (w:World) (T:Nat->Question->Nat) (d:Nat):(re w T d).heap=w.heap:=rfl
theorem WR.re {gs:Nat} {F:Nat->Prop} {ρ:Bn} {w w':World} (h:WR gs F ρ w w') (T:Nat->Question->Nat) (d:Nat):WR gs F ρ (re w T d) (re w' T d):=⟨rfl,rfl,h.fn,h.inj,h.low,h.glob,h.gsize,h.plain,h.block⟩
def Aeq (w w1:World) (T:Nat->Question->Nat) (d:Nat):Prop:=∀i,w.drawn+i < w1.drawn->T (d+i)=w.tape (w.drawn+i)
theorem Iy {α β:Type} {X:Bn->α->β->Prop} {F:Nat->Prop} (p:Program) {ρ:Bn} {s:Sem α} {s':Sem β} (h:SR p X ρ s s'):∀(w w':World) (es:Array Event),WR p.globals.size F ρ w w' ->
  ∀x w1 es1,s.runT p w es=(.ok x w1,es1)->w.drawn<=w1.drawn/\w1.tape=w.tape/\∀T d,Aeq w w1 T d->s.runT p (re w T d) es=(.ok x (re w1 T (d+(w1.drawn - w.drawn))),es1):=by
 induction h with
 | pure h =>
  intro w w' es hw x w1 es1 e;simp only[Sem.runT,Prod.mk.injEq,Result.ok.injEq] at e;obtain⟨⟨rfl,rfl⟩,rfl⟩:=e;exact⟨Nat.le_refl _,rfl,fun T d _=>by simp[Sem.runT]⟩
 | @load ρ a a' k k' hA _ ih =>
  intro w w' es hw x w1 es1 e;have hc:∀T d,(re w T d).cell? a=w.cell? a:=fun _ _=>rfl;rcases hw.cell hA with⟨h1,h2⟩|⟨v,v',h1,h2,hv⟩
  ·simp only[Sem.runT,h1,hw.farLoad hA] at e;simp at e
  ·simp only[Sem.runT,h1] at e;obtain⟨r1,r2,r3⟩:=ih v v' hv w w' _ hw x w1 es1 e;exact⟨r1,r2,fun T d hT=>by simp only[Sem.runT,hc,h1];exact r3 T d hT⟩
 | @store ρ a a' v v' k k' hA hv _ ih =>
  intro w w' es hw x w1 es1 e;by_cases mh:(∃c,v=.agg c)\/(∃c,v=.tuple c)
  ·rcases mh with⟨c,rfl⟩|⟨c,rfl⟩<;>simp[Sem.runT] at e
  ·have st:∀W:World,(Sem.store .plain a v k).runT p W es=match W.cell? a with
     | some _=>if W.frozen? a then (.halt (.unsupported (.unsafePointer "a write to bytes that a string shares")) W,es) else k.runT p (W.setCell a v) (es.push ⟨.cell a,true,Mode.plain==.atomic⟩)
     | none=>match W.farStore p a v (Mode.plain==.atomic) with
      | .ok (w,touched)=>k.runT p w (es++touched.toArray.map (⟨.cell ·,true,Mode.plain==.atomic⟩))
      | .error h=>(.halt h W,es):=fun W=>by
    cases v<;>first|rfl|exact(mh (.inl ⟨_,rfl⟩)).elim|exact(mh (.inr ⟨_,rfl⟩)).elim
   rw[st] at e;have hc:∀T d,(re w T d).cell? a=w.cell? a:=fun _ _=>rfl;have hf:∀T d,(re w T d).frozen? a=w.frozen? a:=fun _ _=>rfl;rcases hw.cell hA with⟨h1,h2⟩|⟨u,u',h1,h2,hu⟩
   ·rw[h1] at e;dsimp only at e;rw[hw.farStore hA] at e;simp at e
   ·rw[h1] at e;dsimp only at e;split at e
    ·simp at e
    ·rename_i vz;obtain⟨r1,r2,r3⟩:=ih (w.setCell a v) (w'.setCell a' v') _ (hw.set hA hv) x w1 es1 e;refine⟨r1,r2,fun T d hT=>?_⟩;rw[st,hc,h1];dsimp only;rw[hf,if_neg vz];exact r3 T d hT
 | @new ρ cs cs' t k k' hc _ ih =>
  intro w w' es hw x w1 es1 e;simp only[Sem.runT] at e;obtain⟨r1,r2,r3⟩:=ih w.heap.size w'.heap.size hw.gsize _ _ _ (hw.push (o:=.cells cs t) (o':=.cells cs' t) hw.lt (.inl ⟨_,_,_,rfl⟩) fun b hf=>⟨rfl,hc,fun q=>(hf q).elim,fun _=>⟨rfl,rfl⟩⟩) x w1 es1 e;exact⟨r1,r2,fun T d hT=>by simp only[Sem.runT];exact r3 T d hT⟩
 | @number ρ a a' l k k' hc _ ih =>
  intro w w' es hw x w1 es1 e;simp only[Sem.runT] at e;obtain⟨r1,r2,r3⟩:=ih w.heap.size w'.heap.size hw.gsize _ _ _ (hw.push (o:=.number a l) (o':=.number a' l) hw.lt (.inr ⟨_,_,rfl⟩) fun b _=>⟨rfl,hc⟩) x w1 es1 e;exact⟨r1,r2,fun T d hT=>by simp only[Sem.runT];exact r3 T d hT⟩
 | @getObj ρ r r' k k' hr _ ih =>
  intro w w' es hw x w1 es1 e;obtain⟨o,o',q1,q2,q3⟩:=hw.block _ _ hr;simp only[Sem.runT,q1] at e;cases o<;>cases o'<;>first|exact q3.elim|skip
  ·simp at e
  ·rename_i a l a' l';obtain⟨rfl,ha⟩:=q3;obtain⟨r1,r2,r3⟩:=ih a a' l ha w w' _ hw x w1 es1 e;exact⟨r1,r2,fun T d hT=>by simp only[Sem.runT,Aq1,q1];exact r3 T d hT⟩
 | @shape ρ r r' k k' hr _ ih =>
  intro w w' es hw x w1 es1 e;simp only[Sem.runT] at e;obtain⟨r1,r2,r3⟩:=ih _ w w' es hw x w1 es1 e;exact⟨r1,r2,fun T d hT=>by simp only[Sem.runT];exact r3 T d hT⟩
 | @choose ρ q k k' _ ih =>
  intro w w' es hw x w1 es1 e;simp only[Sem.runT] at e;by_cases hq:q.forced=true
  ·rw[if_pos hq] at e;obtain⟨r1,r2,r3⟩:=ih _ w w' es hw x w1 es1 e;exact⟨r1,r2,fun T d hT=>by simp only[Sem.runT];rw[if_pos hq];exact r3 T d hT⟩
  ·rw[if_neg hq] at e;obtain⟨r1,r2,r3⟩:=ih _ _ _ es hw.draw x w1 es1 e;dsimp only at r1 r2;refine⟨by omega,r2,fun T d hT=>?_⟩;simp only[Sem.runT];rw[if_neg hq];have h0:=hT 0 (by omega);simp only[Nat.add_zero] at h0;have h1:=r3 T (d+1) fun i hi=>by
    have:=hT (i+1) (by dsimp only at hi;omega);show T (d+1+i)=w.tape (w.drawn+1+i);rw[Nat.add_assoc,Nat.add_comm 1 i,this,Nat.add_assoc,Nat.add_comm 1 i]
   have e1:(re w T d).tape (re w T d).drawn q=w.tape w.drawn q:=by
    show T d q=_;rw[h0]
   rw[e1];have e2:d+1+(w1.drawn - (w.drawn+1))=d+(w1.drawn - w.drawn):=by omega
   dsimp only at h1;rw[e2] at h1;exact h1
 | @program ρ k k' _ ih =>
  intro w w' es hw x w1 es1 e;simp only[Sem.runT] at e;obtain⟨r1,r2,r3⟩:=ih w w' es hw x w1 es1 e;exact⟨r1,r2,fun T d hT=>by simp only[Sem.runT];exact r3 T d hT⟩
 | @mark ρ m k k' hm _ ih =>
  intro w w' es hw x w1 es1 e;simp only[Sem.runT] at e;obtain⟨r1,r2,r3⟩:=ih w w' _ hw x w1 es1 e;exact⟨r1,r2,fun T d hT=>by simp only[Sem.runT];exact r3 T d hT⟩
 | halt hd =>
  intro w w' es hw x w1 es1 e;simp[Sem.runT] at e
 | loadVoid h =>
  intro w w' es hw x w1 es1 e;obtain⟨_,e2⟩:=Sb p hw h _ es;rw[e2] at e;simp at e
 | storeVoid h =>
  intro w w' es hw x w1 es1 e;obtain⟨_,_,e2⟩:=Oi p hw h _ _ es;rw[e2] at e;simp at e
 | dead h =>
  intro w w' es hw x w1 es1 e;obtain⟨h',w2,es2,e2,hd⟩:=h w es;rw[e2] at e;simp at e
section
variable {P:Program} {G:Nat->Bool} {fs:List Nat} {K:List Item} {ρ σ:Bn} {r r' r1:Bt} {l l':List Bt} {w w' w1:World} {F:Nat->Prop}
theorem Apc (hi:∀it∈r.todo,Ls P G fs it=true) (h:ctl r=none) :
  (∃c a b k,r.todo=.code (.cond c a b)::k/\∀t,r.eval c≠.bool t)\/(∃id k,r.todo=.code (.exit id)::k/\exitTo id k=none)\/(∃id ops k,r.todo=.code (.region id ops true)::k) \/
  (∃ops i tl k o,r.todo=.inRegion ops (i::tl)::k/\ops[i]?=some o/\Region.wanted o (yielded ops r.tmps)=true):=by
 obtain⟨fn,tmps,todo,ret⟩:=r;dsimp only at hi ⊢;cases todo with
 | nil=>cases h
 | cons it k =>
  have hit:=hi it (by simp);cases it with
  | code c =>
   cases c with
   | cond c a b =>
    refine .inl ⟨c,a,b,k,rfl,fun t e=>?_⟩;simp only[ctl,e] at h;cases h
   | exit id =>
    refine .inr (.inl ⟨id,k,rfl,?_⟩);simpa [ctl] using h
   | region id ops d =>
    cases d with
    | true=>exact .inr (.inr (.inl ⟨id,ops,k,rfl⟩))
    | false=>cases h
   | _=>first | (cases h;done) | (cases hit;done)
  | inRegion ops t =>
   cases t with
   | nil=>cases h
   | cons i tl =>
    refine .inr (.inr (.inr ?_));simp only[ctl] at h;split at h
    ·rename_i hw;cases ho:ops[i]? with
     | none=>rw[ho] at hw;cases hw
     | some o=>rw[ho] at hw;exact⟨ops,i,tl,k,o,rfl,ho,hw⟩
    ·cases h
  | _=>first | (cases h;done) | (cases hit;done)
def Nd (P:Program) (r:Bt) (l:List Bt) (w:World) (r1:Bt) (l1:List Bt) (w1:World):Prop :=
 w.drawn<=w1.drawn/\w1.tape=w.tape/\∃e0,∀T d,Aeq w w1 T d->∀main base,stepG P main (Conc.G r.fr (l.map Bt.fr++base)) (re w T d)=.go (Conc.G r1.fr (l1.map Bt.fr++base)) (re w1 T (d+(w1.drawn - w.drawn))) e0
def Te (P:Program) (r:Bt) (l:List Bt) (w:World):Prop:=∀base,(∃v w2 es,stepG P true (Conc.G r.fr (l.map Bt.fr++base)) w=.go (Conc.G (r.fr.raise [{ v,recovered:=false }]) (l.map Bt.fr++base)) w2 es) \/
 ∃o w2 es,stepG P true (Conc.G r.fr (l.map Bt.fr++base)) w=.ended o w2 es
def Aeu (P:Program) (G:Nat->Bool) (fs:List Nat) (K:List Item) (F:Nat->Prop) (ρ:Bn) (r r':Bt) (l l':List Bt) (w w':World):Prop :=
 ∃r1 l1 w1 r1' l1' w1' ρ1 es,Nd P r l w r1 l1 w1/\(∀main base,stepG P main (Conc.G r'.fr (l'.map Bt.fr++base)) w'=.go (Conc.G r1'.fr (l1'.map Bt.fr++base)) w1' es) /\
  RR P G fs (L6 K l1) ρ1 r1 r1'/\LR P G fs K ρ1 l1 l1'/\WR P.globals.size F ρ1 w1 w1'/\Left F ρ ρ1 w w' w1 w1'/\∀e∈es,EvR F ρ1 e
theorem Ady (h:∀main base (w:World),stepG P main (Conc.G r.fr (l.map Bt.fr++base)) w=.go (Conc.G r1.fr (l'.map Bt.fr++base)) w #[]):Nd P r l w r1 l' w :=
 ⟨Nat.le_refl _,rfl,#[],fun T d _ main base=>by rw[Nat.sub_self,Nat.add_zero];exact h main base _⟩
theorem Au6 (hr:r.ret=false):r.fr=r.fr.at ⟨r.tmps,[]⟩ r.todo:=by
 obtain⟨fn,tmps,todo,ret⟩:=r;dsimp only at hr;subst hr;rfl
theorem Zo {ops:Array Oper} {i:Nat} {tl:List Nat} {k:List Item} {o:Oper} (hr:r.ret=false) (ht:r.todo=.inRegion ops (i::tl)::k) (ho:ops[i]?=some o) (hw:Region.wanted o (yielded ops r.tmps)=true) (main:Bool) (base:List Frame) (w:World) :
  stepG P main (Conc.G r.fr base) w=stepG.apply P true r.fr base none (execOp r.eval o) w:=by
 have e:=Au6 hr;rw[ht] at e;have e2:(Act.mk r.tmps []).eval=r.eval:=by funext x;cases x<;>rfl
 rw[e,stepG_oper (a:=⟨r.tmps,[]⟩) ho hw,e2]
theorem Zk (P:Program) (f:FuncId) (as:Array Value):Frame.enter P f as .normal=Bt.fr ⟨f,(Frame.enter P f as .normal).tmps,(Frame.enter P f as .normal).todo,false⟩:=rfl
theorem V8 {f:FuncId} (hb:Cj P G fs f=true) {as as':Array Value} (h:Cx ρ as as'):RR P G fs [] ρ ⟨f,(Frame.enter P f as .normal).tmps,(Frame.enter P f as .normal).todo,false⟩ ⟨f,(Frame.enter P f as' .normal).tmps,(Frame.enter P f as' .normal).todo,false⟩:=by
 refine⟨rfl,by simp[Frame.enter],rfl,?_,fun it hit=>?_,Ar0 hb⟩
 ·show Cx ρ (as++Array.replicate _ undef) (as'++Array.replicate _ undef);rw[h.size];refine h.append ⟨rfl,fun i h1 h2=>?_⟩;simp only[Array.getElem_replicate];exact Eh
 ·simp only[Frame.enter,List.mem_singleton] at hit;subst hit;unfold Cj at hb;cases hf:P.funcs[f]? with
  | none=>rw[hf] at hb;cases hb
  | some fn =>
   rw[hf] at hb;dsimp only at hb;cases hc:fn.body with
   | none=>rw[hc] at hb;cases hb
   | some c =>
    rw[hc] at hb;simp only[Bool.and_eq_true] at hb;simpa [Ls,hc] using hb.1
theorem Atp (bh:∀f,fs.contains f=true->Cj P G fs f=true) (h:RR P G fs (L6 K l) ρ r r') (hl:LR P G fs K ρ l l') (hw:WR P.globals.size F ρ w w') (hG:∀g,G g=true->ρ g g) (hr:r.ret=false)
  {ops:Array Oper} {i:Nat} {tl:List Nat} {k:List Item} {o:Oper} (ht:r.todo=.inRegion ops (i::tl)::k) (ho:ops[i]?=some o) (hwa:Region.wanted o (yielded ops r.tmps)=true) :
  Aeu P G fs K F ρ r r' l l' w w'\/Te P r l w:=by
 have hit:=h.items (.inRegion ops (i::tl)) (by rw[ht];simp);have hoo:Ot P G o.op=true/\Aq8 fs o.op=true:=by
  unfold Ls Anh at hit;rw[Array.all_eq_true] at hit;obtain⟨hi,e⟩:=Array.getElem?_eq_some_iff.1 ho;have:=hit i hi;rw[e,Bool.and_eq_true] at this;exact this
 have hr':r'.ret=false:=h.ret ▸ hr;have hne:r.todo≠[]:=by rw[ht];simp
 have ht':r'.todo=.inRegion ops (i::tl)::(k++L6 K l):=by rw[h.todo,ht];rfl
 have hwa':Region.wanted o (yielded ops r'.tmps)=true:=by rw[<- h.yielded];exact hwa
 have mn:=Aqt (fs:=fs) hw.glob (P:=P) (o:=o) hoo.1 hoo.2 (h.eval hG);have s1:=fun main base W=>Zo (P:=P) hr ht ho hwa main base W;have s2:=fun main base W=>Zo (P:=P) hr' ht' ho hwa' main base W;cases hrun:(execOp r.eval o).runT P w #[] with
 | mk res es1 =>
  cases res with
  | halt hh w1 =>
   right;intro base;have hd:=Ac0 P mn w w' #[] hw hh w1 es1 hrun;rw[s1 true _ w];exact Ag3 hrun hd
  | ok x w1 =>
   left;obtain⟨ρ1,x',w1',new,r1,r2,r3,r4,r5⟩:=Aay P mn w w' #[] #[] hw x w1 es1 hrun;rw[Array.empty_append] at r1;obtain⟨q1,q2,q3⟩:=Iy P mn w w' #[] hw x w1 es1 hrun;have hev:∀f,∀e∈seen P f new,EvR F ρ1 e:=fun f e he=>r5 e (Pu he);have hm:=h.mono r4.le;have hlm:=hl.mono r4.le;cases r2 with
   | @value v v' hv =>
    refine⟨r.finish v,l,w1,r'.finish v',l',w1',ρ1,seen P r'.fr.fn new,⟨q1,q2,seen P r.fr.fn es1,fun T d hT main base=>?_⟩,fun main base=>?_,hm.finish hv hne,hlm,r3,r4,hev r'.fr.fn⟩
    ·rw[s1,Tv rfl (q3 T d hT),Ic r v h.head]
    ·rw[s2,Tv rfl r1,Ic r' v' (h.head' hne)]
   | skip =>
    refine⟨r.finish undef,l,w1,r'.finish undef,l',w1',ρ1,seen P r'.fr.fn new,⟨q1,q2,seen P r.fr.fn es1,fun T d hT main base=>?_⟩,fun main base=>?_,hm.finish Eh hne,hlm,r3,r4,hev r'.fr.fn⟩
    ·rw[s1,Yh rfl (q3 T d hT),Ic r undef h.head]
    ·rw[s2,Yh rfl r1,Ic r' undef (h.head' hne)]
   | @enter f as as' hf hv =>
    refine⟨_,r::l,w1,_,r'::l',w1',ρ1,seen P r'.fr.fn new,⟨q1,q2,seen P r.fr.fn es1,fun T d hT main base=>?_⟩,fun main base=>?_,V8 (bh f hf) hv,.cons hm hr hne hlm,r3,r4,hev r'.fr.fn⟩
    ·rw[s1,Tw rfl (show r.fr.todo=_ from ht) (q3 T d hT),Zk];rfl
    ·rw[s2,Tw rfl (show r'.fr.todo=_ from ht') r1,Zk];rfl
theorem Amx (h:RR P G fs (L6 K l) ρ r r') (hl:LR P G fs K ρ l l') (hw:WR P.globals.size F ρ w w') (hr:r.ret=false) {id:Nat} {ops:Array Oper} {k:List Item} (ht:r.todo=.code (.region id ops true)::k) :
  Aeu P G fs K F ρ r r' l l' w w':=by
 have hr':r'.ret=false:=h.ret ▸ hr;have ht':r'.todo=.code (.region id ops true)::(k++L6 K l):=by rw[h.todo,ht];rfl
 have hit:=h.items (.code (.region id ops true)) (by rw[ht];simp);have step:∀(q:Bt) (main:Bool) (base:List Frame) (W:World) (k:List Item),q.ret=false->q.todo=.code (.region id ops true)::k ->
   stepG P main (Conc.G q.fr base) W=.go (Conc.G (Bt.fr { q with todo:=.inRegion ops (Region.schedule (P.follows .mixedOrders) ops (W.tape W.drawn (.order q.fn id)))::k }) base) { W with drawn:=W.drawn+1 } #[]:=by
  intro q main base W k h1 h2;obtain⟨fn,tmps,todo,ret⟩:=q;dsimp only at h1 h2;subst h1 h2;simp[Conc.G,stepG,stepG.exec,Bt.fr,choose,Sem.run,Question.forced,Question.cut,bind,Sem.bind,pure]
 have hit2:∀T:List Nat,∀it∈(Item.inRegion ops T::k),Ls P G fs it=true:=fun T it hi=>by
  rcases List.mem_cons.1 hi with e|hi
  ·subst e;exact hit
  ·exact h.items it (by rw[ht];simp[hi])
 refine⟨{ r with todo:=.inRegion ops (Region.schedule (P.follows .mixedOrders) ops (w.tape w.drawn (.order r.fn id)))::k },l,{ w with drawn:=w.drawn+1 },{ r' with todo:=.inRegion ops (Region.schedule (P.follows .mixedOrders) ops (w.tape w.drawn (.order r.fn id)))::(k++L6 K l) },l',{ w' with drawn:=w'.drawn+1 },ρ,#[],⟨Nat.le_succ _,rfl,#[],fun T d hT main base=>?_⟩,fun main base=>?_,⟨h.fn,rfl,h.ret,h.tmps,hit2 _,h.body⟩,hl,hw.draw,⟨Bn.le_refl _,Nat.le_refl _,Nat.le_refl _,rfl,rfl,rfl,fun _ _ _=>rfl,fun _ _ q=>.inl q,fun e q=>⟨e,q⟩⟩,fun e he=>by simp at he⟩
 ·rw[step r main _ _ _ hr ht];have e0:=hT 0 (by simp);simp only[Nat.add_zero] at e0;have e1:(re w T d).tape (re w T d).drawn (.order r.fn id)=w.tape w.drawn (.order r.fn id):=by show T d _=_;rw[e0]
  rw[e1];have e2:d+(({ w with drawn:=w.drawn+1 }:World).drawn - w.drawn)=d+1:=by show d+(w.drawn+1 - w.drawn)=d+1;omega
  rw[e2];rfl
 ·rw[step r' main _ _ _ hr' ht',<- hw.tape,<- hw.drawn,<- h.fn]
theorem Ks (h:Df P r.fn=true):∃fn,P.funcs[r.fn]?=some fn/\True:=by
 unfold Df at h;cases hf:P.funcs[r.fn]? with
 | none=>rw[hf] at h;cases h
 | some fn=>exact⟨fn,rfl,trivial⟩
theorem Am4 (h:Df P r.fn=true):P.inits.idxOf? r.fn=none:=by
 unfold Df at h;cases hf:P.funcs[r.fn]? with
 | none=>rw[hf] at h;cases h
 | some fn =>
  rw[hf] at h;simpa using h
theorem Mm (hr:r.ret=true) {fn:Func} (hf:P.funcs[r.fn]?=some fn) (main:Bool) (base:List Frame) (w:World):stepG P main (Conc.G r.fr base) w =
  GStep.after (seen P r.fn ((results fn r.tmps).runT P w #[]).2) (match ((results fn r.tmps).runT P w #[]).1 with
   | .ok v w=>doReturn P main r.fr base none v w
   | .halt (.stuck s) w=>.ended (.stuck s (r.fr.pos P)) w
   | .halt _ w=>.ended (.stuck "return: the result variables cannot be read" (r.fr.pos P)) w):=by
 obtain⟨fn,tmps,todo,ret⟩:=r;dsimp only at hr hf;subst hr;simp only[Conc.G,stepG,Bt.fr,unwind,hf,if_true];rfl
theorem Aqy {q q':Bt} (h:RR P G fs [] ρ r r') (hc:RR P G fs (L6 K l) ρ q q') (hq:q.ret=false) (hqt:q.todo≠[]) (hl:LR P G fs K ρ l l') (hw:WR P.globals.size F ρ w w') (hr:r.ret=true) :
  Aeu P G fs K F ρ r r' (q::l) (q'::l') w w'\/Te P r (q::l) w:=by
 have hr':r'.ret=true:=h.ret ▸ hr;obtain⟨fn,hf,hok⟩:=Ks h.body;have hf':P.funcs[r'.fn]?=some fn:=h.fn ▸ hf;have mn:=Om (P:=P) (fn:=fn) h.tmps;have hq':q'.ret=false:=hc.ret ▸ hq;have ret:∀(x y:Bt) (main:Bool) (base:List Frame) (v:Value) (W:World),Sx P G fs y->doReturn P main x.fr (y.fr::base) none v W=.go (Conc.G (y.finish v).fr base) W #[]:=by
  intro x y main base v W hy;simp only[doReturn,Bt.fr,Conc.G];have:=Ic (P:=P) (G:=G) (fs:=fs) y v hy;simp only[Bt.fr] at this;rw[this]
 have s1:=fun main base W=>Mm (P:=P) hr hf main base W;have s2:=fun main base W=>Mm (P:=P) hr' hf' main base W;cases hrun:(results fn r.tmps).runT P w #[] with
 | mk res es1 =>
  cases res with
  | halt hh w1 =>
   right;intro base;right;rw[s1 true _ w,hrun];cases hh<;>exact⟨_,_,_,rfl⟩
  | ok v w1 =>
   left;obtain⟨ρ1,v',w1',new,r1,r2,r3,r4,r5⟩:=Aay P mn w w' #[] #[] hw v w1 es1 hrun;rw[Array.empty_append] at r1;obtain⟨q1,q2,q3⟩:=Iy P mn w w' #[] hw v w1 es1 hrun;have hcm:=hc.mono r4.le;have aft:∀(es:Array Event) (g:Goroutine) (W:World),GStep.after es (.go g W #[])=.go g W es:=fun es g W=>by simp[GStep.after]
   refine⟨q.finish v,l,w1,q'.finish v',l',w1',ρ1,seen P r'.fn new,⟨q1,q2,seen P r.fn es1,fun T d hT main base=>?_⟩,fun main base=>?_,hcm.finish r2 hqt,hl.mono r4.le,r3,r4,fun e he=>r5 e (Pu he)⟩
   ·rw[s1,q3 T d hT];dsimp only;rw[List.map_cons,List.cons_append,ret r q main _ v _ hc.head,aft]
   ·rw[s2,r1];dsimp only;rw[List.map_cons,List.cons_append,ret r' q' main _ v' _ (hc.head' hqt),aft]
theorem G8 (bh:∀f,fs.contains f=true->Cj P G fs f=true) (h:RR P G fs (L6 K l) ρ r r') (hl:LR P G fs K ρ l l') (hw:WR P.globals.size F ρ w w') (hG:∀g,G g=true->ρ g g) (hne:r.ret=true->l≠[]) (hst:r.todo≠[]\/L6 K l=[]) :
  Aeu P G fs K F ρ r r' l l' w w'\/Te P r l w:=by
 cases hr:r.ret with
 | true =>
  cases hl with
  | nil=>exact absurd rfl (hne hr)
  | cons hc hq hqt hl=>exact Aqy h hc hq hqt hl hw hr
 | false =>
  have hr':r'.ret=false:=h.ret ▸ hr;cases hc:ctl r with
  | some r1 =>
   left;obtain⟨r1',e1,e2⟩:=Asl h hG hst hc;have hhd:Sx P G fs r':=by
    rcases hst with q|q
    ·exact h.head' q
    ·intro it e;rw[h.todo,q,List.append_nil] at e;exact h.head it e
   exact⟨r1,l,w,r1',l',w',ρ,#[],Ady fun main base W=>Ye hr h.head hc main _ W,fun main base=>Ye hr' hhd e1 main _ w',e2,hl,hw,.refl,fun e he=>by simp at he⟩
  | none =>
   have stop:∀ {it:Item} {k:List Item},r.todo=it::k->(∀base:List Frame,∃o w2 es,stepG.exec P true true r.fr base none w=.ended o w2 es)->Te P r l w:=fun {it k} e hh base=>by
    right;have:stepG P true (Conc.G r.fr (l.map Bt.fr++base)) w=stepG.exec P true true r.fr (l.map Bt.fr++base) none w:=by
     simp[stepG,Conc.G,Bt.fr,hr]
    rw[this];exact hh _
   rcases Apc h.items hc with⟨c,a,b,k,ht,hb⟩|⟨id,k,ht,he⟩|⟨id,ops,k,ht⟩|⟨ops,i,tl,k,o,ht,ho,hwa⟩
   ·right;refine stop ht fun base=>?_;have ht2:r.fr.todo=.code (.cond c a b)::k:=ht;have he:=congrFun (Bt.eval_fr r) c;unfold stepG.exec;rw[ht2];dsimp only;rw[he];cases hv:r.eval c with
    | bool t=>exact absurd hv (hb t)
    | _=>exact⟨_,_,_,rfl⟩
   ·right;refine stop ht fun base=>?_;have ht2:r.fr.todo=.code (.exit id)::k:=ht;unfold stepG.exec;rw[ht2];dsimp only;rw[he];exact⟨_,_,_,rfl⟩
   ·exact .inl (Amx h hl hw hr ht)
   ·exact Atp bh h hl hw hG hr ht ho hwa
end
end Go.Proofs.YtbicafgmfgdckaaGreatDoor
