/- A piece. -/
import Derived.Conc.CrowdComm
import Derived.Conc.MuSpec
set_option maxRecDepth 100000
set_option maxHeartbeats 16000000
set_option linter.all false
namespace Go.Proofs.YtbicafgmfgdckaaGreatDoor
open Go
inductive Cu:Type 1
 | node {α:Type} (f:α->Cu):Cu
def Cu.Sub (s:Cu):Cu->Prop
 | .node f=>∃a,s=f a
theorem Cu.acc (t:Cu):Acc Cu.Sub t:=by
 induction t with
 | node f ih=>exact .intro _ fun s ⟨a,e⟩=>e ▸ ih a
theorem Cu.wf:WellFounded Cu.Sub:=⟨Cu.acc⟩
def Ag8 (N:Nat) (f g:Nat->Cu):Prop:=∃i,i < N/\(f i).Sub (g i)/\∀j,j < i->f j=g j
theorem Ag8.congr {N:Nat} {f g g':Nat->Cu} (e:∀j,j < N->g' j=g j) (h:Ag8 N f g'):Ag8 N f g:=by
 obtain⟨i,h1,h2,h3⟩:=h;exact⟨i,h1,e i h1 ▸ h2,fun j hj=>(h3 j hj).trans (e j (by omega))⟩
theorem Ahu:∀N,WellFounded (Ag8 N)
 | 0=>⟨fun f=>.intro _ fun g ⟨i,h,_⟩=>by omega⟩
 | N+1=>by
  have ih:=Ahu N;have key:∀g:Nat->Cu,∀x:Cu,∀g':Nat->Cu,(∀j,j < N->g' j=g j)->g' N=x->Acc (Ag8 (N+1)) g':=by
   intro g
   induction g using ih.induction with
   | _ g ihg =>
    intro x
    induction x using Cu.wf.induction with
    | _ x ihx =>
     intro g' e1 e2;refine .intro _ fun f hf=>?_;obtain⟨i,h1,h2,h3⟩:=hf;rcases Nat.lt_or_ge i N with hi|hi
     ·exact ihg f (Ag8.congr e1 ⟨i,hi,h2,h3⟩) (f N) f (fun _ _=>rfl) rfl
     ·obtain rfl:i=N:=by omega
      exact ihx (f i) (e2 ▸ h2) f (fun j hj=>(h3 j hj).trans (e1 j hj)) rfl
  exact⟨fun g=>key g (g N) g (fun _ _=>rfl) rfl⟩
def Alj (N:Nat):((Nat->Cu) × Nat)->((Nat->Cu) × Nat)->Prop:=Prod.Lex (Ag8 N) (· < ·)
theorem Arv (N:Nat):WellFounded (Alj N):=⟨fun p=>by
 obtain⟨f,n⟩:=p
 induction f using (Ahu N).induction generalizing n with
 | _ f ihf =>
  induction n using Nat.strongRecOn with
  | _ n ihn =>
   refine .intro _ fun q hq=>?_;cases hq with
   | left _ _ h=>exact ihf _ h _
   | right _ h=>exact ihn _ h⟩
def O5:Nat->Cu
 | 0=>.node (α:=Empty) fun e=>nomatch e
 | n+1=>.node (α:=Unit) fun _=>O5 n
open Go.Conc
def Open (w:World) (cases:Array CommCase):Prop:=∀c∈cases,∃r s rc closed,c.chan=.chan (some r)/\w.heap[r]?=some (.chan 0 #[] closed s rc false)/\(c.send.isSome=true->closed=false)
def Mf (w:World) (gs:Array Goroutine) (j:Nat) (cases:Array CommCase):Prop :=
 ∀c∈cases,∀r,c.chan=.chan (some r)->(∀cap buf s rc tm,w.heap[r]?≠some (.chan cap buf true s rc tm))/\∀j' x,j'≠j->gs[j']?=some x->offersAt x r (!c.send.isSome)=[]
theorem Rf {h:Goroutine} {r k:Nat} {send:Bool} (m:k∈offersAt h r send):h.status=.blocked/\∃cs sh c,h.offers=some (cs,sh)/\cs[k]?=some c/\c.send.isSome=send/\c.chan=.chan (some r):=by
 unfold offersAt at m;split at m
 ·rename_i cs sh hs ho;refine⟨hs,cs,sh,?_⟩;rw[List.mem_map] at m;obtain⟨⟨c,k'⟩,hm,rfl⟩:=m;rw[List.mem_filter] at hm;obtain⟨hm,hp⟩:=hm;simp only[Bool.and_eq_true,beq_iff_eq] at hp;have:=Array.mem_zipIdx_iff_getElem?.1 (Array.mem_toList_iff.1 hm);refine⟨c,ho,this,hp.1,?_⟩;have h2:=hp.2;split at h2
  ·rename_i e;rw[e];simp at h2;rw[h2]
  ·cases h2
 ·simp at m
theorem Anb (P:Program) (ready:List (Nat × CommCase × List Way)) (hne:ready≠[]) (hws:∀x∈ready,x.2.2≠[]) (w:World) :
  ∃k c ws way d,(k,c,ws)∈ready/\way∈ws/\(do
   let a <- choose (.select ready.length)
   let (k,c,ws):=ready.getD a (0,default,[])
   let b <- choose (.extern "which waiting goroutine is the partner" ws.length)
   pure (k,c,ws.getD b .closed):Sem (Nat × CommCase × Way)).run P w=.ok (k,c,way) (w.at d):=by
 have ch:∀ {α:Type} (q:Question) (n:Nat) (f:Nat->Sem α) (v:World),0 < n->(q=.select n\/∃nm,q=.extern nm n)->(choose q >>= f).run P v=(f (if q.forced then 0 else q.cut (v.tape v.drawn q))).run P (if q.forced then v else v.at (v.drawn+1))/\(if q.forced then 0 else q.cut (v.tape v.drawn q)) < n:=by
  intro α q n f v hn hq;refine⟨?_,?_⟩
  ·show (Sem.bind (choose q) f).run P v=_;simp only[choose,Sem.bind,Sem.run];split<;>rfl
  ·split
   ·exact hn
   ·rcases hq with rfl|⟨nm,rfl⟩
    ·exact Nat.mod_lt _ hn
    ·simp only[Question.cut];rw[if_neg (by omega)];exact Nat.mod_lt _ hn
 have x6:0 < ready.length:=List.length_pos_iff.2 hne;obtain⟨h1,ha⟩:=ch (.select ready.length) ready.length (fun a=>(do
   let (k,c,ws):=ready.getD a (0,default,[])
   let b <- choose (.extern "which waiting goroutine is the partner" ws.length)
   pure (k,c,ws.getD b .closed):Sem (Nat × CommCase × Way))) w x6 (.inl rfl)
 generalize hA:(if (Question.select ready.length).forced then 0 else (Question.select ready.length).cut (w.tape w.drawn (.select ready.length)))=a at h1 ha;obtain⟨⟨k,c,ws⟩,hx⟩:∃x,ready[a]?=some x:=⟨_,List.getElem?_eq_getElem ha⟩;have hmem:(k,c,ws)∈ready:=List.mem_of_getElem? hx;have hn2:0 < ws.length:=List.length_pos_iff.2 (hws _ hmem);have hget:ready.getD a (0,default,[])=(k,c,ws):=by simp[List.getD,hx]
 generalize hV:(if (Question.select ready.length).forced then w else w.at (w.drawn+1))=v at h1;have hvd:∃d,v=w.at d:=by rw[<- hV];split<;>first|exact⟨w.drawn,rfl⟩|exact⟨_,rfl⟩
 obtain⟨h2,hb⟩:=ch (.extern "which waiting goroutine is the partner" ws.length) ws.length (fun b=>(pure (k,c,ws.getD b .closed):Sem (Nat × CommCase × Way))) v hn2 (.inr ⟨_,rfl⟩);generalize hB:(if (Question.extern "which waiting goroutine is the partner" ws.length).forced then 0 else (Question.extern "which waiting goroutine is the partner" ws.length).cut (v.tape v.drawn (.extern "which waiting goroutine is the partner" ws.length)))=b at h2 hb;obtain⟨d,rfl⟩:=hvd;have this:ws.getD b Way.closed=ws[b]:=by simp[List.getD,List.getElem?_eq_getElem hb]
 have hfin:∃d',(pure (k,c,ws.getD b .closed):Sem (Nat × CommCase × Way)).run P (if (Question.extern "which waiting goroutine is the partner" ws.length).forced then w.at d else (w.at d).at ((w.at d).drawn+1))=.ok (k,c,ws[b]) (w.at d'):=by
  rw[this];split
  ·exact⟨d,rfl⟩
  ·exact⟨_,rfl⟩
 obtain⟨d',hfin⟩:=hfin;refine⟨k,c,ws,ws[b],d',hmem,List.getElem_mem hb,h1.trans ?_⟩;rw[hget];exact h2.trans hfin
section
variable {P:Program} {gs:Array Goroutine} {w w₁:World} {sl:Option (Nat × Nat)} {i:Nat} {g g₂:Goroutine} {es:Array Event} {cases:Array CommCase} {shape:CommShape} {blocking:Bool}
theorem Abq (w:World) (d:Nat):(w.at d).heap=w.heap:=rfl
inductive Ym (P:Program) (gs:Array Goroutine) (i:Nat) (g₂:Goroutine) (cases:Array CommCase) (blocking:Bool) (shape:CommShape) (w:World) (sl:Option (Nat × Nat)):Stepped × Array MemOp->Prop
 | waits:blocking=true->Mf w (gs.setIfInBounds i ph) i cases->Ym P gs i g₂ cases blocking shape w sl (.next (crowd (gs.setIfInBounds i (parked g₂ cases shape)) w sl),#[])
 | default:blocking=false->Mf w (gs.setIfInBounds i ph) i cases->Ym P gs i g₂ cases blocking shape w sl (.next (crowd (gs.setIfInBounds i (g₂.finishComm P cases shape (-1) undef false)) w sl),#[])
 | shut (k r d:Nat) (c:CommCase) (x:MemOp):cases[k]?=some c->c.send=none->c.chan=.chan (some r)->(∃s rc,w.heap[r]?=some (.chan 0 #[] true s rc false))->x.g=i->x.act=.recvClosed r ->
   Ym P gs i g₂ cases blocking shape w sl (.next (crowd (gs.setIfInBounds i (g₂.finishComm P cases shape k c.zero false)) (w.at d) sl),#[x])
 | sends (k r d h hk s rc:Nat) (c c':CommCase) (v:Value) (x:Goroutine) (cs:Array CommCase) (sh:CommShape) (x1 x2 x3 x4:MemOp):cases[k]?=some c->c.send=some v->c.chan=.chan (some r)->w.heap[r]?=some (.chan 0 #[] false s rc false) ->
   h≠i->gs[h]?=some x->x.status=.blocked->x.offers=some (cs,sh)->cs[hk]?=some c'->c'.send=none->c'.chan=.chan (some r) ->
   (x1.g=i/\x1.act=.send r s)->(x2.g=h/\x2.act=.recv r rc 0)->(x3.g=i/\x3.act=.sendDone r s)->(x4.g=h/\x4.act=.recvDone r rc) ->
   Ym P gs i g₂ cases blocking shape w sl (.next (crowd ((gs.setIfInBounds h (x.finishComm P cs sh hk v true)).setIfInBounds i (g₂.finishComm P cases shape k undef false)) ((w.at d).setChan r 0 #[] false (s+1) (rc+1) false) sl),#[x1,x2,x3,x4])
 | recvs (k r d h hk s rc:Nat) (c c':CommCase) (v:Value) (closed:Bool) (x:Goroutine) (cs:Array CommCase) (sh:CommShape) (x1 x2 x3 x4:MemOp):cases[k]?=some c->c.send=none->c.chan=.chan (some r)->w.heap[r]?=some (.chan 0 #[] closed s rc false) ->
   h≠i->gs[h]?=some x->x.status=.blocked->x.offers=some (cs,sh)->cs[hk]?=some c'->c'.send=some v->c'.chan=.chan (some r) ->
   (x1.g=h/\x1.act=.send r s)->(x2.g=i/\x2.act=.recv r rc 0)->(x3.g=h/\x3.act=.sendDone r s)->(x4.g=i/\x4.act=.recvDone r rc) ->
   Ym P gs i g₂ cases blocking shape w sl (.next (crowd ((gs.setIfInBounds h (x.finishComm P cs sh hk undef false)).setIfInBounds i (g₂.finishComm P cases shape k v true)) ((w.at d).setChan r 0 #[] closed (s+1) (rc+1) false) sl),#[x1,x2,x3,x4])
theorem Au8 (hi:gs[i]?=some g) (h:stepG P (i==0) g w=.comm g₂ cases blocking shape w₁ #[]) (hop:Open w₁ cases) :
  Ym P gs i g₂ cases blocking shape w₁ sl (runT P (crowd gs w sl) i):=by
 rw[runT_crowd_comm hi h];have e0:MemOp.ofEvents i g.frame.fn g.frame.place #[]=#[]:=rfl;rw[e0,Array.empty_append];show Ym P gs i g₂ cases blocking shape w₁ sl (communicate P (crowd gs w sl).rest (gs.setIfInBounds i ph) i g₂ cases blocking shape w₁);have kq:cases.any (illMade w₁)=false:=any_ill fun c hc=>by
  obtain⟨r,s,rc,closed,h1,h2,_⟩:=hop c hc;simp[illMade,h1,h2]
 generalize hR:((cases.zipIdx.toList.map fun(c,k)=>(k,c,ways w₁ (gs.setIfInBounds i ph) c)).filter fun(_,_,ws)=>!ws.isEmpty)=ready;have hmem:∀k c ws,(k,c,ws)∈ready->cases[k]?=some c/\ws=ways w₁ (gs.setIfInBounds i ph) c/\ws≠[]:=by
  intro k c ws hm;rw[<- hR,List.mem_filter,List.mem_map] at hm;obtain⟨⟨⟨c',k'⟩,hm,he⟩,hp⟩:=hm;simp only[Prod.mk.injEq] at he;obtain⟨rfl,rfl,rfl⟩:=he;have:=Array.mem_zipIdx_iff_getElem?.1 (Array.mem_toList_iff.1 hm);refine⟨this,rfl,fun e=>?_⟩;simp[e] at hp
 have hall:∀c∈cases,ready=[]->ways w₁ (gs.setIfInBounds i ph) c=[]:=by
  intro c hc he;obtain⟨k,hk,e⟩:=Array.mem_iff_getElem.1 hc;rw[<- hR,List.filter_eq_nil_iff] at he;have:=he (k,c,ways w₁ (gs.setIfInBounds i ph) c) (List.mem_map.2 ⟨(c,k),Array.mem_toList_iff.2 (Array.mem_zipIdx_iff_getElem?.2 (by simp[<- e,hk])),rfl⟩);simpa using this
 have xg:ready=[]->Mf w₁ (gs.setIfInBounds i ph) i cases:=by
  intro he c hc r hr;obtain⟨r',s,rc,closed,h1,h2,h3⟩:=hop c hc;rw[hr] at h1;obtain rfl:r=r':=by simpa using h1
  have hw:=hall c hc he;obtain⟨ch,sd,z⟩:=c;dsimp only at hr h3;subst hr;cases sd with
  | none =>
   simp only[ways,h2] at hw;simp only[Array.size_empty,gt_iff_lt,Nat.lt_irrefl,if_false] at hw;cases hp:partners (gs.setIfInBounds i ph) r true with
   | cons a l=>rw[hp] at hw;simp at hw
   | nil =>
    rw[hp] at hw;have hcl:closed=false:=by
     cases closed with
     | false=>rfl
     | true=>simp at hw
    subst hcl;refine⟨fun cap buf s' rc' tm e=>by rw[h2] at e;simp at e,fun j' x _ hx=>?_⟩;cases ho:offersAt x r true with
    | nil=>rw[show (!Option.isSome (none:Option Value))=true from rfl];exact ho
    | cons a l=>have:=(mem_partners (j:=j') (k:=a)).2 ⟨x,hx,by rw[ho];simp⟩;rw[hp] at this;simp at this
  | some v =>
   have hcl:closed=false:=h3 rfl;subst hcl;simp only[ways,h2,Bool.false_eq_true,if_false] at hw;cases hp:partners (gs.setIfInBounds i ph) r false with
   | cons a l=>rw[hp] at hw;simp at hw
   | nil =>
    refine⟨fun cap buf s' rc' tm e=>by rw[h2] at e;simp at e,fun j' x _ hx=>?_⟩;cases ho:offersAt x r false with
    | nil=>rw[show (!Option.isSome (some v))=false from rfl];exact ho
    | cons a l=>have:=(mem_partners (j:=j') (k:=a)).2 ⟨x,hx,by rw[ho];simp⟩;rw[hp] at this;simp at this
 unfold communicate;rw[if_neg (by rw[Bool.not_eq_true];exact kq)];simp only[hR];by_cases hre:ready=[]
 ·have hst:=xg hre;subst hre;cases blocking with
  | true =>
   simp only[List.isEmpty_nil,if_true,waitingAt,timerAhead_crowd,Bool.false_eq_true,if_false,set_stand];exact .waits rfl hst
  | false =>
   simp only[List.isEmpty_nil,if_true,Bool.false_eq_true,if_false,set_stand];exact .default rfl hst
 ·have hne:ready.isEmpty=false:=by cases ready<;>simp_all
  obtain⟨k,c,ws,way,d,hx,cy,hrun⟩:=Anb P ready hre (fun x hx=>(hmem x.1 x.2.1 x.2.2 hx).2.2) w₁;obtain⟨hk,rfl,_⟩:=hmem _ _ _ hx;simp only[hne,Bool.false_eq_true,if_false];rw[hrun];have hc:=Array.mem_of_getElem? hk;obtain⟨r,s,rc,closed,h1,h2,h3⟩:=hop c hc;obtain⟨ch,sd,z⟩:=c;dsimp only at h1 h3;subst h1;have lf:∀(h' k':Nat) (send:Bool),(h',k')∈partners (gs.setIfInBounds i ph) r send->h'≠i/\∃x cs sh c',gs[h']?=some x/\(gs.setIfInBounds i ph)[h']?=some x/\x.status=.blocked/\x.offers=some (cs,sh)/\cs[k']?=some c'/\c'.send.isSome=send/\c'.chan=.chan (some r):=by
   intro h' k' send hm;obtain⟨x,hx,hxo⟩:=mem_partners.1 hm;obtain⟨q1,cs,sh,c',q2,q3,q4,q5⟩:=Rf hxo;rcases getElem?_stand gs i h' x hx with⟨_,rfl⟩|⟨q6,q7⟩
   ·cases q1
   ·exact⟨q6,x,cs,sh,c',q7,hx,q1,q2,q3,q4,q5⟩
  cases sd with
  | none =>
   simp only[ways,h2,Array.size_empty,gt_iff_lt,Nat.lt_irrefl,if_false] at cy;cases hp:partners (gs.setIfInBounds i ph) r true with
   | nil =>
    rw[hp] at cy;have hcl:closed=true/\way=.closed:=by
     cases closed with
     | false=>simp at cy
     | true=>exact⟨rfl,by simpa using cy⟩
    obtain⟨rfl,rfl⟩:=hcl;simp only[Abq,h2,set_stand];exact .shut k r d ⟨.chan (some r),none,z⟩ _ hk rfl rfl ⟨s,rc,h2⟩ rfl rfl
   | cons a l =>
    rw[hp] at cy;simp only[List.mem_map] at cy;obtain⟨⟨h',k'⟩,hm,rfl⟩:=cy;rw[<- hp] at hm;obtain⟨q1,x,cs,sh,c',q2,q3,q4,q5,q6,q7,q8⟩:=lf h' k' true hm;obtain⟨v,hv⟩:=Option.isSome_iff_exists.1 q7;have hfp:=finishPartner_at P (gs.setIfInBounds i ph) q3 q5 k' undef;have hov:offeredValue (gs.setIfInBounds i ph) h' k'=v:=by simp[offeredValue,q3,q5,q6,hv]
    have hno:(((cs[k']?).map (·.send.isNone)).getD false)=false:=by simp[q6,hv]
    simp only[Abq,h2,hfp,hov,hno,set_stand2];exact .recvs k r d h' k' s rc ⟨.chan (some r),none,z⟩ c' v closed x cs sh _ _ _ _ hk rfl rfl h2 q1 q2 q4 q5 q6 hv q8 ⟨rfl,rfl⟩ ⟨rfl,rfl⟩ ⟨rfl,rfl⟩ ⟨rfl,rfl⟩
  | some v =>
   have hcl:closed=false:=h3 rfl;subst hcl;simp only[ways,h2,Bool.false_eq_true,if_false] at cy;cases hp:partners (gs.setIfInBounds i ph) r false with
   | nil=>rw[hp] at cy;simp at cy
   | cons a l =>
    rw[hp] at cy;simp only[List.mem_map] at cy;obtain⟨⟨h',k'⟩,hm,rfl⟩:=cy;rw[<- hp] at hm;obtain⟨q1,x,cs,sh,c',q2,q3,q4,q5,q6,q7,q8⟩:=lf h' k' false hm;have hv:c'.send=none:=by simpa using q7
    have hfp:=finishPartner_at P (gs.setIfInBounds i ph) q3 q5 k' v;have hno:(((cs[k']?).map (·.send.isNone)).getD false)=true:=by simp[q6,hv]
    simp only[Abq,h2,hfp,hno,set_stand2];exact .sends k r d h' k' s rc ⟨.chan (some r),some v,z⟩ c' v x cs sh _ _ _ _ hk rfl rfl h2 q1 q2 q4 q5 q6 hv q8 ⟨rfl,rfl⟩ ⟨rfl,rfl⟩ ⟨rfl,rfl⟩ ⟨rfl,rfl⟩
end
def Cq (w w':World):Prop:=Go.ConcM.OsLater w.os w'.os/\w'.output=w.output
theorem Cq.refl (w:World):Cq w w:=⟨.refl _,rfl⟩
theorem Cq.trans {w w1 w2:World} (h:Cq w w1) (h':Cq w1 w2):Cq w w2:=⟨h.1.trans h'.1,h'.2.trans h.2⟩
theorem Cq.of {w w':World} (h1:w'.os=w.os) (h2:w'.output=w.output):Cq w w':=⟨by rw[h1];exact .refl _,h2⟩
structure By (P:Program) where
 Gh:Type
 Inv:Gh->World->Prop
 Tr:Gh->Trace->Prop
 R:Nat->Gh->World->Gh->World->Prop
 Wait:Nat->Gh->World->Prop
 Offer:Nat->Gh->Array CommCase->Bool->Prop
 Result:Nat->Gh->World->Bool->Int->Value->Bool->Gh->World->Prop
 Gone:Nat->Gh->Prop
 deaf:Gh->Nat->Nat
 cnt:Gh->Nat
 top:Nat
 Post:Value->World->Prop
section
variable {P:Program} (Pa:By P)
structure By.Do (i:Nat) (I:Pa.Gh) (w:World) (I':Pa.Gh) (w':World) (wk:Prop) (es:Array Event):Prop where
 inv:Pa.Inv I' w'
 rel:∀j,j≠i->Pa.R j I w I' w'
 tr:∀t fn pos,Pa.Tr I t->Pa.Tr I' (t++MemOp.ofEvents i fn pos es)
 chan:∀j cases c r,j≠i->Pa.Offer j I cases true->c∈cases->c.chan=.chan (some r)->w'.heap[r]?=w.heap[r]?\/wk
 wait:wk\/∀j,j≠i->Pa.Wait j I w->Pa.Wait j I' w'
 cnt:Pa.cnt I'=Pa.cnt I
 os:Cq w w'
structure By.Spawns (i:Nat) (I:Pa.Gh) (w:World) (I':Pa.Gh):Prop where
 inv:Pa.Inv I' w
 rel:∀j,j≠i->j≠Pa.cnt I->Pa.R j I w I' w
 tr:∀t x y,x.g=i/\x.act=.go (Pa.cnt I)->y.g=Pa.cnt I/\y.act=.start->Pa.Tr I t->Pa.Tr I' (t++#[x,y])
 wait:∀j,j≠i->Pa.Wait j I w->Pa.Wait j I' w
 cnt:Pa.cnt I'=Pa.cnt I+1
 top:Pa.cnt I'<=Pa.top
structure By.Ends (v:Value) (I:Pa.Gh) (w:World):Prop where
 post:Pa.Post v w
 gone:∀j,j≠0->j < Pa.cnt I->Pa.Gone j I
 race:∀t,Pa.Tr I t->(∀said,¬Race said t)/\t.HandedOver
inductive By.Next (L:Nat->Pa.Gh->World->Goroutine->Prop) (i:Nat) (I:Pa.Gh) (w:World) (g:Goroutine):Prop
 | go (g':Goroutine) (w':World) (es:Array Event) (I':Pa.Gh):stepG P (i==0) g w=.go g' w' es->Pa.Do i I w I' w' (mayWake P g=true) es->L i I' w' g'->By.Next L i I w g
 | wait:stepG P (i==0) g w=.go { g with status:=.blocked } w #[]->g.offers=none->Pa.Wait i I w->By.Next L i I w g
 | spawn (g' child:Goroutine) (I':Pa.Gh):stepG P (i==0) g w=.spawn g' child w #[]->Pa.Spawns i I w I'->L i I' w g'->L (Pa.cnt I) I' w child->By.Next L i I w g
 | stop (v:Value):i=0->stepG P true g w=.ended (.done v) w #[]->Pa.Ends v I w->By.Next L i I w g
structure By.CommAt (L:Nat->Pa.Gh->World->Goroutine->Prop) (i:Nat) (I:Pa.Gh) (w:World) (g:Goroutine) (cases:Array CommCase) (blocking:Bool) (shape:CommShape):Prop where
 run:g.status=.running
 at_:∀I2 w2,Pa.R i I w I2 w2->Pa.Inv I2 w2->¬Pa.Gone i I2/\stepG P (i==0) g w2=.comm g cases blocking shape w2 #[]/\Pa.Offer i I2 cases blocking
 on:∀I2 w2,Pa.R i I w I2 w2->Pa.Inv I2 w2->∀k v ok I3 w3,Pa.Result i I2 w2 blocking k v ok I3 w3->Pa.Inv I3 w3->L i I3 w3 (g.finishComm P cases shape k v ok)
inductive By.Node (L:Nat->Pa.Gh->World->Goroutine->Prop) (t:Cu) (i:Nat) (I:Pa.Gh) (w:World) (g:Goroutine):Prop
 | step:g.status=.running->(∀I2 w2,Pa.R i I w I2 w2->Pa.Inv I2 w2->¬Pa.Gone i I2/\Pa.Next L i I2 w2 g)->By.Node L t i I w g
 | comm (cases:Array CommCase) (blocking:Bool) (shape:CommShape):Pa.CommAt L i I w g cases blocking shape->By.Node L t i I w g
 | quit (q:Nat):t=O5 q->QuitsD P q (Pa.deaf I i) g->Pa.Gone i I->By.Node L t i I w g
def By.LivesT:Cu->Nat->Pa.Gh->World->Goroutine->Prop
 | .node f=>fun i I w g=>Pa.Node (fun j I' w' g'=>∃a,By.LivesT (f a) j I' w' g') (.node f) i I w g
def By.Lives (i:Nat) (I:Pa.Gh) (w:World) (g:Goroutine):Prop:=∃t,Pa.LivesT t i I w g
structure By.Ok:Prop where
 refl:∀i I w,Pa.R i I w I w
 trans:∀i I w I1 w1 I2 w2,Pa.R i I w I1 w1->Pa.R i I1 w1 I2 w2->Pa.R i I w I2 w2
 draw:∀i I w d,Pa.R i I w I (w.at d)
 draw_inv:∀I w d,Pa.Inv I w->Pa.Inv I (w.at d)
 draw_wait:∀i I w d,Pa.Wait i I w->Pa.Wait i I (w.at d)
 gone_keep:∀i I w I2 w2,Pa.R i I w I2 w2->Pa.Gone i I->Pa.Gone i I2
 gone_main:∀I,¬Pa.Gone 0 I
 deaf_keep:∀i I w I2 w2,Pa.R i I w I2 w2->Pa.deaf I2 i=Pa.deaf I i
 tr_deaf:∀I t i,Pa.Tr I t->i < Pa.cnt I->Deaf t i=Pa.deaf I i
 leave:∀i I w es,Pa.Inv I w->Pa.Gone i I->i < Pa.cnt I->(∀e∈es,Event.mute e=true)->∃I',Pa.Do i I w I' w False es/\Pa.Gone i I'/\Pa.deaf I' i=deafBehind (Pa.deaf I i) es
 made:∀i I w cases b,Pa.Inv I w->Pa.Offer i I cases b->Open w cases
 meet:∀i h I w cs cs' b b' (k k':Nat) c c' v r s rc,Pa.Inv I w->i≠h->i < Pa.cnt I->h < Pa.cnt I->Pa.Offer i I cs b->Pa.Offer h I cs' b'->cs[k]?=some c->cs'[k']?=some c'->c.send=some v->c'.send=none->c.chan=.chan (some r)->c'.chan=.chan (some r)->w.heap[r]?=some (Obj.chan 0 #[] false s rc false) ->
  ∃I',Pa.Inv I' (w.setChan r 0 #[] false (s+1) (rc+1) false)/\Pa.Result i I w b k undef false I' (w.setChan r 0 #[] false (s+1) (rc+1) false)/\Pa.Result h I w b' k' v true I' (w.setChan r 0 #[] false (s+1) (rc+1) false) /\
   (∀j,j≠i->j≠h->Pa.R j I w I' (w.setChan r 0 #[] false (s+1) (rc+1) false)/\(Pa.Wait j I w->Pa.Wait j I' (w.setChan r 0 #[] false (s+1) (rc+1) false)))/\Pa.cnt I'=Pa.cnt I /\
   ∀t x1 x2 x3 x4,x1.g=i/\x1.act=.send r s->x2.g=h/\x2.act=.recv r rc 0->x3.g=i/\x3.act=.sendDone r s->x4.g=h/\x4.act=.recvDone r rc->Pa.Tr I t->Pa.Tr I' (t++#[x1,x2,x3,x4])
 shut:∀i I w cs b (k:Nat) c r s rc,Pa.Inv I w->i < Pa.cnt I->Pa.Offer i I cs b->cs[k]?=some c->c.send=none->c.chan=.chan (some r)->w.heap[r]?=some (Obj.chan 0 #[] true s rc false) ->
  ∃I',Pa.Inv I' w/\Pa.Result i I w b k c.zero false I' w/\(∀j,j≠i->Pa.R j I w I' w/\(Pa.Wait j I w->Pa.Wait j I' w))/\Pa.cnt I'=Pa.cnt I/\∀t x,x.g=i/\x.act=.recvClosed r->Pa.Tr I t->Pa.Tr I' (t++#[x])
 none:∀i I w cs,Pa.Inv I w->i < Pa.cnt I->Pa.Offer i I cs false->∃I',Pa.Inv I' w/\Pa.Result i I w false (-1) undef false I' w/\(∀j,j≠i->Pa.R j I w I' w/\(Pa.Wait j I w->Pa.Wait j I' w))/\Pa.cnt I'=Pa.cnt I/\∀t,Pa.Tr I t->Pa.Tr I' t
 live:∀I w (S:Nat->Option (Array CommCase)),Pa.Inv I w->(∀i,i < Pa.cnt I->match S i with
   | .none=>Pa.Gone i I\/Pa.Wait i I w
   | .some cs=>Pa.Offer i I cs true/\∀c∈cs,∀r,c.chan=.chan (some r)->(∀cap buf s rc tm,w.heap[r]?≠some (Obj.chan cap buf true s rc tm))/\∀j cs',j≠i->j < Pa.cnt I->S j=some cs'->∀c'∈cs',c'.chan=.chan (some r)->c'.send.isSome=c.send.isSome)->False
end
section
variable {P:Program} {Pa:By P} {L L':Nat->Pa.Gh->World->Goroutine->Prop} {t:Cu} {i j:Nat} {I I' I2:Pa.Gh} {w w' w2:World} {g g':Goroutine}
theorem By.Next.mono (hL:∀j I w g,L j I w g->L' j I w g) (h:Pa.Next L i I w g):Pa.Next L' i I w g:=by
 cases h with
 | go g' w' es I' h1 h2 h3=>exact .go g' w' es I' h1 h2 (hL _ _ _ _ h3)
 | wait h1 h2 h3=>exact .wait h1 h2 h3
 | spawn g' child I' h1 h2 h3 h4=>exact .spawn g' child I' h1 h2 (hL _ _ _ _ h3) (hL _ _ _ _ h4)
 | stop v h1 h2 h3=>exact .stop v h1 h2 h3
theorem By.CommAt.mono {cases:Array CommCase} {blocking:Bool} {shape:CommShape} (hL:∀j I w g,L j I w g->L' j I w g) (h:Pa.CommAt L i I w g cases blocking shape):Pa.CommAt L' i I w g cases blocking shape :=
 ⟨h.run,h.at_,fun I2 w2 hr hi k v ok I3 w3 hR hI=>hL _ _ _ _ (h.on I2 w2 hr hi k v ok I3 w3 hR hI)⟩
theorem By.CommAt.rely (H:Pa.Ok) {cases:Array CommCase} {blocking:Bool} {shape:CommShape} (h:Pa.CommAt L i I w g cases blocking shape) (hr:Pa.R i I w I2 w2):Pa.CommAt L i I2 w2 g cases blocking shape :=
 ⟨h.run,fun I3 w3 hr' hi=>h.at_ I3 w3 (H.trans _ _ _ _ _ _ _ hr hr') hi,fun I3 w3 hr' hi=>h.on I3 w3 (H.trans _ _ _ _ _ _ _ hr hr') hi⟩
theorem By.Node.rely (H:Pa.Ok) (h:Pa.Node L t i I w g) (hr:Pa.R i I w I2 w2):Pa.Node L t i I2 w2 g:=by
 cases h with
 | step h1 h3=>exact .step h1 fun I3 w3 hr' hi=>h3 I3 w3 (H.trans _ _ _ _ _ _ _ hr hr') hi
 | comm cases blocking shape h=>exact .comm cases blocking shape (h.rely H hr)
 | quit q h1 h2 h3=>exact .quit q h1 (by rw[H.deaf_keep _ _ _ _ _ hr];exact h2) (H.gone_keep _ _ _ _ _ hr h3)
theorem By.LivesT.rely (H:Pa.Ok) (h:Pa.LivesT t i I w g) (hr:Pa.R i I w I2 w2):Pa.LivesT t i I2 w2 g:=by
 cases t with
 | node f=>exact By.Node.rely H h hr
theorem By.Lives.rely (H:Pa.Ok) (h:Pa.Lives i I w g) (hr:Pa.R i I w I2 w2):Pa.Lives i I2 w2 g:=let ⟨t,h⟩:=h;⟨t,h.rely H hr⟩
noncomputable def By.allT (Pa:By P):Cu:=.node (α:={ x:Nat × Pa.Gh × World × Goroutine // Pa.Lives x.1 x.2.1 x.2.2.1 x.2.2.2 }) fun x=>x.2.choose
theorem By.lives_of (h:∀L:Nat->Pa.Gh->World->Goroutine->Prop,(∀j I w g,Pa.Lives j I w g->L j I w g)->Pa.Node L Pa.allT i I w g):Pa.Lives i I w g :=
 ⟨Pa.allT,by
  show Pa.Node _ _ i I w g;exact h _ fun j I w g hl=>⟨⟨(j,I,w,g),hl⟩,hl.choose_spec⟩⟩
theorem By.Lives.step (h1:g.status=.running) (h:∀I2 w2,Pa.R i I w I2 w2->Pa.Inv I2 w2->¬Pa.Gone i I2/\Pa.Next Pa.Lives i I2 w2 g):Pa.Lives i I w g :=
 By.lives_of fun _ hL=>.step h1 fun I2 w2 hr hi=>⟨(h I2 w2 hr hi).1,(h I2 w2 hr hi).2.mono hL⟩
theorem By.Lives.comm {cases:Array CommCase} {blocking:Bool} {shape:CommShape} (h:Pa.CommAt Pa.Lives i I w g cases blocking shape):Pa.Lives i I w g:=By.lives_of fun _ hL=>.comm cases blocking shape (h.mono hL)
theorem By.Lives.quit {q:Nat} (h1:QuitsD P q (Pa.deaf I i) g) (h2:Pa.Gone i I):Pa.Lives i I w g :=
 ⟨O5 q,by cases q<;>exact By.Node.quit (t:=O5 _) _ rfl h1 h2⟩
end
section
variable {P:Program} (Pa:By P)
inductive By.Sit (t:Cu) (i:Nat) (I:Pa.Gh) (w:World) (gs:Array Goroutine) (g:Goroutine):Prop
 | lives:Pa.LivesT t i I w g->By.Sit t i I w gs g
 | sem (g0:Goroutine):g={ g0 with status:=.blocked }->g0.status=.running->g0.offers=none->Pa.LivesT t i I w g0->Pa.Wait i I w->(∀I2 w2,Pa.R i I w I2 w2->Pa.Inv I2 w2->¬Pa.Gone i I2)->By.Sit t i I w gs g
 | com (g0:Goroutine) (cases:Array CommCase) (shape:CommShape) (st:GoStatus) {α:Type} (f:α->Cu):t=.node f->g={ g0 with status:=st,offers:=some (cases,shape) }->(st=.running\/(st=.blocked/\Mf w gs i cases)) ->
   Pa.CommAt (fun j I' w' g'=>∃a,Pa.LivesT (f a) j I' w' g') i I w g0 cases true shape->By.Sit t i I w gs g
def T8 (gs:Array Goroutine):Nat:=gs.countP (·.status==.running)
structure By.MI (os0:World) (μ:(Nat->Cu) × Nat) (m:Machine) (t:Trace) (gs:Array Goroutine) (w:World) (sl:Option (Nat × Nat)) (I:Pa.Gh):Prop where
 m:m=crowd gs w sl
 inv:Pa.Inv I w
 tr:Pa.Tr I t
 size:gs.size=Pa.cnt I
 top:Pa.cnt I<=Pa.top
 sit:∀i g,gs[i]?=some g->Pa.Sit (μ.1 i) i I w gs g
 run:μ.2=T8 gs
 os:Cq os0 w
end
section
theorem P2 {x:Goroutine} {r k:Nat} {cs:Array CommCase} {sh:CommShape} {c:CommCase} (hs:x.status=.blocked) (ho:x.offers=some (cs,sh)) (hk:cs[k]?=some c) (hc:c.chan=.chan (some r)):k∈offersAt x r c.send.isSome:=by
 unfold offersAt;rw[hs,ho];simp only[List.mem_map,List.mem_filter];refine⟨(c,k),⟨Array.mem_toList_iff.2 (Array.mem_zipIdx_iff_getElem?.2 (by simpa using hk)),?_⟩,rfl⟩;simp[hc]
theorem Apn (y:Goroutine) (w:World):y.again w=y\/(y.again w).status=.running:=by
 unfold Goroutine.again;split
 ·dsimp only;split
  ·exact .inr rfl
  ·exact .inl rfl
 ·exact .inr rfl
 ·exact .inr rfl
 ·exact .inl rfl
theorem Ef {x:Goroutine} (h:x.status=.running\/x.status=.finished) (r:Nat) (s:Bool):offersAt x r s=[]:=offersAt_of_not_blocked (by rcases h with h|h<;>rw[h]<;>simp) r s
theorem Wf {P:Program} {g g' y:Goroutine} {w:World} {r:Nat} {s:Bool} (h:offersAt y r s=[]):offersAt (woken P g g' w y) r s=[]:=by
 unfold woken;split
 ·rcases Apn y w with e|e
  ·rw[e];exact h
  ·exact Ef (.inl e) r s
 ·exact h
theorem Z3 {P:Program} {gs:Array Goroutine} {i:Nat} {g g':Goroutine} {w':World} {k:Nat} {x:Goroutine} (hk:((gs.map (woken P g g' w')).setIfInBounds i g')[k]?=some x):(k=i/\x=g')\/(k≠i/\∃y,gs[k]?=some y/\x=woken P g g' w' y):=by
 by_cases e:i=k
 ·subst e;by_cases hlt:i < gs.size
  ·rw[Array.getElem?_setIfInBounds_self_of_lt (by simpa using hlt)] at hk;exact .inl ⟨rfl,(Option.some.inj hk).symm⟩
  ·rw[Array.getElem?_eq_none (by simpa using hlt)] at hk;cases hk
 ·rw[Array.getElem?_setIfInBounds_ne e,Array.getElem?_map] at hk;obtain⟨y,hy,e2⟩:=Option.map_eq_some_iff.1 hk;exact .inr ⟨fun q=>e q.symm,y,hy,e2.symm⟩
theorem Fb {gs:Array Goroutine} {i:Nat} {g':Goroutine} {k:Nat} {x:Goroutine} (hk:(gs.setIfInBounds i g')[k]?=some x):(k=i/\x=g')\/(k≠i/\gs[k]?=some x):=by
 by_cases e:i=k
 ·subst e;by_cases hlt:i < gs.size
  ·rw[Array.getElem?_setIfInBounds_self_of_lt hlt] at hk;exact .inl ⟨rfl,(Option.some.inj hk).symm⟩
  ·rw[Array.getElem?_eq_none (by simpa using hlt)] at hk;cases hk
 ·rw[Array.getElem?_setIfInBounds_ne e] at hk;exact .inr ⟨fun q=>e q.symm,hk⟩
end
section
variable {P:Program} {Pa:By P} {L:Nat->Pa.Gh->World->Goroutine->Prop} {t:Cu} {i j:Nat} {I I' I2:Pa.Gh} {w w' w2:World} {g g' x:Goroutine} {gs gs':Array Goroutine} {es:Array Event}
theorem By.LivesT.status (h:Pa.LivesT t i I w g):g.status=.running\/g.status=.finished:=by
 cases t with
 | node f =>
  cases (show Pa.Node _ _ i I w g from h) with
  | step h1 _=>exact .inl h1
  | comm _ _ _ h=>exact .inl h.run
  | quit q _ h _=>exact h.status
theorem By.Sit.status (h:Pa.Sit t i I w gs g):g.status=.running\/g.status=.blocked\/g.status=.finished:=by
 cases h with
 | lives h=>exact h.status.imp id .inr
 | sem g0 e _ _ _ _ _=>rw[e];exact .inr (.inl rfl)
 | com g0 cases shape st f _ e hs _=>rw[e];rcases hs with hs|⟨hs,_⟩<;>simp[hs]
theorem By.Sit.move (H:Pa.Ok) (h:Pa.Sit t j I w gs g) (hI:Pa.Inv I w) (hR:Pa.R j I w I' w') (hW:Pa.Wait j I w->Pa.Wait j I' w') (hS:∀cases,(g.status=.blocked/\∃sh,g.offers=some (cases,sh))->Pa.Offer j I cases true->Mf w gs j cases->Mf w' gs' j cases):Pa.Sit t j I' w' gs' g:=by
 cases h with
 | lives h=>exact .lives (h.rely H hR)
 | sem g0 e h1 h2 h3 h4 h5=>exact .sem g0 e h1 h2 (h3.rely H hR) (hW h4) fun I2 w2 hr hi=>h5 I2 w2 (H.trans _ _ _ _ _ _ _ hR hr) hi
 | com g0 cases shape st f e1 e2 h1 h2=>exact .com g0 cases shape st f e1 e2 (h1.imp id fun⟨a,b⟩=>⟨a,hS cases (by rw[e2];exact⟨a,shape,rfl⟩) (h2.at_ I w (H.refl _ _ _) hI).2.2 b⟩) (h2.rely H hR)
theorem Mf.wokenBy (H:Pa.Ok) {cases:Array CommCase} (hj:j≠i) (hI:Pa.Inv I w) (ho:Pa.Offer j I cases true) (hs:Mf w gs j cases) (hd:Pa.Do i I w I' w' (mayWake P g=true) es) (hg':g'.status=.running\/g'.status=.finished)
  (hc:mayWake P g=true->∀c∈cases,∀r,c.chan=.chan (some r)->∀cap buf s rc tm,w'.heap[r]?≠some (Obj.chan cap buf true s rc tm)):Mf w' ((gs.map (woken P g g' w')).setIfInBounds i g') j cases:=by
 intro c hcm r hr;refine⟨?_,fun j' x hj' hx=>?_⟩
 ·by_cases hw:mayWake P g=true
  ·exact hc hw c hcm r hr
  ·rcases hd.chan j cases c r hj ho hcm hr with e|e
   ·rw[e];exact(hs c hcm r hr).1
   ·exact absurd e hw
 ·rcases Z3 hx with⟨_,rfl⟩|⟨_,y,hy,rfl⟩
  ·exact Ef hg' _ _
  ·exact Wf ((hs c hcm r hr).2 j' y hj' hy)
theorem By.Sit.wokenBy (H:Pa.Ok) (hj:j≠i) (h:Pa.Sit t j I w gs x) (hI:Pa.Inv I w) (hd:Pa.Do i I w I' w' (mayWake P g=true) es) (hg':g'.status=.running\/g'.status=.finished) :
  Pa.Sit t j I' w' ((gs.map (woken P g g' w')).setIfInBounds i g') (woken P g g' w' x):=by
 have hR:=hd.rel j hj;have hwk:woken P g g' w' x=if mayWake P g=true then x.again w' else x:=by
  unfold woken;rcases hg' with h|h<;>simp[h]
 cases h with
 | lives h =>
  have:woken P g g' w' x=x:=by
   rw[hwk];split
   ·exact again_running _ h.status
   ·rfl
  rw[this];exact .lives (h.rely H hR)
 | sem g0 e h1 h2 h3 h4 h5 =>
  rw[hwk];by_cases hw:mayWake P g=true
  ·rw[if_pos hw];have:x.again w'=g0:=by
    subst e;obtain⟨f,c,s,d,o⟩:=g0;dsimp only at h1 h2;subst h1 h2;rfl
   rw[this];exact .lives (h3.rely H hR)
  ·rw[if_neg hw];refine .sem g0 e h1 h2 (h3.rely H hR) ((hd.wait.resolve_left hw) j hj h4) fun I2 w2 hr hi=>h5 I2 w2 (H.trans _ _ _ _ _ _ _ hR hr) hi
 | com g0 cases shape st f e1 e2 h1 h2 =>
  rw[hwk];have ho:=(h2.at_ I w (H.refl _ _ _) hI).2.2;rcases h1 with h1|⟨h1,hs⟩
  ·have:(if mayWake P g=true then x.again w' else x)=x:=by
    split
    ·exact again_running _ (by rw[e2];exact .inl h1)
    ·rfl
   rw[this];exact .com g0 cases shape st f e1 e2 (.inl h1) (h2.rely H hR)
  ·subst h1;by_cases hw:mayWake P g=true
   ·rw[if_pos hw];by_cases hcl:(cases.any fun c=>match c.chan with
     | .chan (some r)=>(w'.heap[r]? matches some (.chan _ _ true ..))
     | _=>false)=true
    ·have:x.again w'={ g0 with status:=.running,offers:=some (cases,shape) }:=by
      rw[e2];simp only[Goroutine.again];exact if_pos hcl
     rw[this];exact .com g0 cases shape .running f e1 rfl (.inl rfl) (h2.rely H hR)
    ·have:x.again w'=x:=by
      rw[e2];simp only[Goroutine.again];exact if_neg hcl
     rw[this];refine .com g0 cases shape .blocked f e1 e2 (.inr ⟨rfl,Mf.wokenBy H hj hI ho hs hd hg' fun _ c hc r hr cap buf s rc tm e=>hcl ?_⟩) (h2.rely H hR);rw[Array.any_eq_true];obtain⟨k,hk,ek⟩:=Array.mem_iff_getElem.1 hc;refine⟨k,hk,?_⟩;rw[ek,hr];simp[e]
   ·rw[if_neg hw];exact .com g0 cases shape .blocked f e1 e2 (.inr ⟨rfl,Mf.wokenBy H hj hI ho hs hd hg' fun h=>absurd h hw⟩) (h2.rely H hR)
theorem Rr {N:Nat} {μ:(Nat->Cu) × Nat} {α:Type} {f:α->Cu} {a:α} {n:Nat} {τ:Nat->Cu} (hi:i < N) (e:μ.1 i=.node f) (e1:τ i=f a) (e2:∀j,j < i->τ j=μ.1 j):Alj N (τ,n) μ:=by
 obtain⟨m1,m2⟩:=μ;exact Prod.Lex.left _ _ ⟨i,hi,by rw[e1];dsimp only at e;rw[e];exact⟨a,rfl⟩,fun j hj=>e2 j hj⟩
def N1 (τ:Nat->Cu) (i:Nat) (t:Cu):Nat->Cu:=fun k=>if k=i then t else τ k
theorem Dt (τ:Nat->Cu) (i:Nat) (t:Cu):N1 τ i t i=t:=by simp[N1]
theorem Dr (τ:Nat->Cu) {i k:Nat} (t:Cu) (h:k≠i):N1 τ i t k=τ k:=by simp[N1,h]
theorem Ti {gs:Array Goroutine} {i:Nat} {g g':Goroutine} (hi:gs[i]?=some g) (h1:g.status=.running) (h2:g'.status≠.running):T8 (gs.setIfInBounds i g') < T8 gs:=by
 obtain⟨hlt,e⟩:=Array.getElem?_eq_some_iff.1 hi;have hpos:0 < gs.countP (·.status==.running):=by
  rw[Array.countP_pos_iff];exact⟨g,e ▸ Array.getElem_mem hlt,by simp[h1]⟩
 have ru:gs.setIfInBounds i g'=gs.set i g':=by simp[Array.setIfInBounds,hlt]
 unfold T8;rw[ru,Array.countP_set hlt];simp only[e,h1,beq_self_eq_true,if_true];have:(g'.status==GoStatus.running)=false:=by simpa using h2
 rw[this];simp;omega
end
section
variable {P:Program} {Pa:By P} {μ:(Nat->Cu) × Nat} {m:Machine} {t:Trace} {gs:Array Goroutine} {w:World} {sl:Option (Nat × Nat)} {I:Pa.Gh} {i:Nat} {g:Goroutine} {os0:World}
def By.Some (Pa:By P) (os0:World) (μ:(Nat->Cu) × Nat) (m:Machine) (t:Trace):Prop:=∃gs w sl I,Pa.MI os0 μ m t gs w sl I
def By.Goes (Pa:By P) (os0:World) (μ:(Nat->Cu) × Nat) (t:Trace) (r:Stepped × Array MemOp):Prop:=∃m' ops μ',r=(.next m',ops)/\Alj Pa.top μ' μ/\Pa.Some os0 μ' m' (t++ops)
theorem By.MI.awake (h:Pa.MI os0 μ m t gs w sl I):∀g∈gs,awake g:=by
 intro g hg;obtain⟨i,hi⟩:=Array.mem_iff_getElem?.1 hg;exact awake_of (by rcases (h.sit i g hi).status with q|q|q<;>simp[q])
theorem By.MI.someone (H:Pa.Ok) (h:Pa.MI os0 μ m t gs w sl I):∃(i:Nat) (g:Goroutine),gs[i]?=some g/\g.status=.running:=by
 refine Classical.byContradiction fun hn=>?_;have hno:∀(i:Nat) (g:Goroutine),gs[i]?=some g->g.status≠.running:=fun i g hi hr=>hn ⟨i,g,hi,hr⟩;refine H.live I w (fun i=>(gs[i]?).bind fun g=>if g.status=.blocked then g.offers.map (·.1) else none) h.inv fun i hi=>?_;have hlt:i < gs.size:=by rw[h.size];exact hi
 have hg:gs[i]?=some gs[i]:=Array.getElem?_eq_getElem hlt;have hs:=h.sit i _ hg;have hr:=hno i _ hg;rw[hg];simp only[Option.bind_some];generalize gs[i]=g at hs hr;cases hs with
 | lives hl =>
  rcases hl.status with q|q
  ·exact absurd q hr
  ·rw[if_neg (by rw[q];simp)];left
   revert hl
   cases μ.1 i with
   | node f =>
    intro hl;cases (show Pa.Node _ _ i I w g from hl) with
    | step h1 _=>exact absurd h1 hr
    | comm _ _ _ h=>exact absurd h.run hr
    | quit q' _ _ h=>exact h
 | sem g0 e h1 h2 h3 h4 h5 =>
  rw[e];simp only[if_true,h2,Option.map_none];exact .inr h4
 | com g0 cases shape st f e1 e2 h1 h2 =>
  rcases h1 with h1|⟨h1,hst⟩
  ·rw[e2] at hr;exact absurd h1 hr
  ·subst h1;rw[e2];simp only[if_true,Option.map_some];refine⟨(h2.at_ I w (H.refl _ _ _) h.inv).2.2,fun c hc r hcr=>⟨(hst c hc r hcr).1,fun j cs' hj hjc hS c' hc' hr'=>?_⟩⟩;obtain⟨y,hy,zu⟩:=Option.bind_eq_some_iff.1 hS;split at zu
   ·rename_i hb;obtain⟨⟨cs2,sh2⟩,ic,rfl⟩:=Option.map_eq_some_iff.1 zu;obtain⟨k,hk⟩:=Array.mem_iff_getElem?.1 hc';have hm:=P2 hb ic hk hr';have hz:=(hst c hc r hcr).2 j y hj hy;cases e3:c'.send.isSome<;>cases e4:c.send.isSome<;>first|rfl | (rw[e3] at hm;rw[e4] at hz;simp only[Bool.not_true,Bool.not_false] at hz;rw[hz] at hm;simp at hm)
   ·cases zu
theorem By.MI.at (H:Pa.Ok) (h:Pa.MI os0 μ m t gs w sl I) (d:Nat) (sl':Option (Nat × Nat)):Pa.MI os0 μ (crowd gs (w.at d) sl') t gs (w.at d) sl' I :=
 ⟨rfl,H.draw_inv _ _ _ h.inv,h.tr,h.size,h.top,fun i g hg=>(h.sit i g hg).move H h.inv (H.draw _ _ _ _) (H.draw_wait _ _ _ _) fun _ _ _ h=>h,h.run,h.os⟩
section
variable (H:Pa.Ok) (h:Pa.MI os0 μ m t gs w sl I) (hi:gs[i]?=some g)
include H h hi
omit H in
theorem By.MI.lt:i < Pa.cnt I:=h.size ▸ (Array.getElem?_eq_some_iff.1 hi).1
theorem By.MI.own {g':Goroutine} {w':World} {es:Array Event} {I':Pa.Gh} {τi:Cu} (hst:stepG P (i==0) g w=.go g' w' es) (hd:Pa.Do i I w I' w' (mayWake P g=true) es) (hl:Pa.LivesT τi i I' w' g') (hf:τi.Sub (μ.1 i)) :
  Pa.Goes os0 μ t (runT P (crowd gs w sl) i):=by
 have hlt:=(Array.getElem?_eq_some_iff.1 hi).1;rw[runT_crowd_go hi hst];obtain⟨α,f,a,ef,rfl⟩:∃(α:Type) (f:α->Cu) (a:α),μ.1 i=.node f/\τi=f a:=by
  cases e:μ.1 i with
  | node f=>rw[e] at hf;obtain⟨a,ha⟩:=hf;exact⟨_,f,a,rfl,ha⟩
 refine⟨_,_,(N1 μ.1 i (f a),_),rfl,Rr (by have:=h.top;have:=h.lt hi;omega) ef (Dt _ _ _) fun j hj=>Dr _ _ (by omega),_,w',sl,I',rfl,hd.inv,hd.tr t _ _ h.tr,by simp[h.size,hd.cnt],by rw[hd.cnt];exact h.top,fun k x hk=>?_,rfl,h.os.trans hd.os⟩;rcases Z3 hk with⟨rfl,rfl⟩|⟨hne,y,hy,rfl⟩
 ·exact .lives (by(try dsimp only);rw[Dt];exact hl)
 ·show Pa.Sit (N1 _ _ _ _) _ _ _ _ _;rw[Dr _ _ hne];exact By.Sit.wokenBy H hne (h.sit k y hy) h.inv hd hl.status
theorem By.MI.waits (hl:Pa.LivesT (μ.1 i) i I w g) (hno:∀I2 w2,Pa.R i I w I2 w2->Pa.Inv I2 w2->¬Pa.Gone i I2) (hr:g.status=.running) (ho:g.offers=none) (hst:stepG P (i==0) g w=.go { g with status:=.blocked } w #[]) (hw:Pa.Wait i I w) :
  Pa.Goes os0 μ t (runT P (crowd gs w sl) i):=by
 have hlt:=(Array.getElem?_eq_some_iff.1 hi).1;rw[runT_crowd_go hi hst];have e:gs.map (woken P g { g with status:=.blocked } w)=gs:=by
  have:woken P g { g with status:=.blocked } w=id:=by funext y;simp[woken]
  rw[this,Array.map_id]
 have e0:t++MemOp.ofEvents i g.frame.fn g.frame.place #[]=t:=by show t++#[]=t;simp
 rw[e];refine⟨_,_,(μ.1,T8 (gs.setIfInBounds i { g with status:=.blocked })),rfl,?_,?_⟩
 ·obtain⟨m1,m2⟩:=μ;refine Prod.Lex.right _ ?_;have:=h.run;dsimp only at this;rw[this];exact Ti hi hr (by simp)
 ·refine⟨_,w,sl,I,rfl,h.inv,by rw[e0];exact h.tr,by simp[h.size],h.top,fun k x hk=>?_,rfl,h.os⟩;rcases Fb hk with⟨rfl,rfl⟩|⟨hne,hy⟩
  ·exact .sem g rfl hr ho hl hw hno
  ·refine(h.sit k x hy).move H h.inv (H.refl _ _ _) id fun cases _ hof hs c hc r hcr=>⟨(hs c hc r hcr).1,fun j' y hj' hy'=>?_⟩;rcases Fb hy' with⟨rfl,rfl⟩|⟨_,jo⟩
   ·unfold offersAt;simp[ho]
   ·exact(hs c hc r hcr).2 j' y hj' jo
theorem By.MI.spawns {α:Type} {f:α->Cu} (ef:μ.1 i=.node f) {g' child:Goroutine} {I':Pa.Gh} (hst:stepG P (i==0) g w=.spawn g' child w #[]) (hs:Pa.Spawns i I w I') (h1:∃a,Pa.LivesT (f a) i I' w g') (h2:∃a,Pa.LivesT (f a) (Pa.cnt I) I' w child) :
  Pa.Goes os0 μ t (runT P (crowd gs w sl) i):=by
 have hlt:=(Array.getElem?_eq_some_iff.1 hi).1;obtain⟨a,ha⟩:=h1;obtain⟨b,hb⟩:=h2;rw[runT_crowd_spawn hi hst];have hic:=h.lt hi;refine⟨_,_,(N1 (N1 μ.1 i (f a)) (Pa.cnt I) (f b),_),rfl,Rr (i:=i) (by have:=h.top;omega) ef (by rw[Dr _ _ (by omega),Dt]) fun j hj=>by rw[Dr _ _ (by omega),Dr _ _ (by omega)],_,w,sl,I',rfl,hs.inv,?_,by simp[h.size,hs.cnt],hs.top,fun k x hk=>?_,rfl,h.os⟩
 ·have e:t++((MemOp.ofEvents i g.frame.fn g.frame.place #[]).push { g:=i,fn:=g.frame.fn,pos:=g.frame.place,act:=.go gs.size } |>.push { g:=gs.size,fn:=child.frame.fn,pos:=g.frame.place,act:=.start })=t++#[{ g:=i,fn:=g.frame.fn,pos:=g.frame.place,act:=.go gs.size },{ g:=gs.size,fn:=child.frame.fn,pos:=g.frame.place,act:=.start }]:=rfl;rw[e];exact hs.tr t _ _ ⟨rfl,by rw[h.size]⟩ ⟨by rw[h.size],rfl⟩ h.tr
 ·have hoff:∀(j':Nat) (y:Goroutine) (r:Nat) (s:Bool),((gs.setIfInBounds i g').push child)[j']?=some y->(∀y',gs[j']?=some y'->offersAt y' r s=[])->offersAt y r s=[]:=by
   intro j' y r s hy hz;rw[Array.getElem?_push] at hy;split at hy
   ·obtain rfl:=Option.some.inj hy;exact Ef hb.status _ _
   ·rcases Fb hy with⟨rfl,rfl⟩|⟨_,hy⟩
    ·exact Ef ha.status _ _
    ·exact hz y hy
  have jk:=hk;rw[Array.getElem?_push] at hk;split at hk
  ·rename_i ek;obtain rfl:=Option.some.inj hk;have:k=Pa.cnt I:=by rw[ek,<- h.size];simp
   subst this;exact .lives (by(try dsimp only);rw[Dt];exact hb)
  ·rename_i ek;have ek':k≠Pa.cnt I:=fun e=>ek (by rw[e,<- h.size];simp);show Pa.Sit (N1 _ _ _ _) _ _ _ _ _;rw[Dr _ _ ek'];rcases Fb hk with⟨rfl,rfl⟩|⟨hne,hy⟩
   ·exact .lives (by(try dsimp only);rw[Dt];exact ha)
   ·rw[Dr _ _ hne];exact(h.sit k x hy).move H h.inv (hs.rel k hne ek') (hs.wait k hne) fun cases _ hof ik c hc r hcr=>⟨(ik c hc r hcr).1,fun j' y hj' hy'=>hoff j' y r _ hy' fun y' jo=>(ik c hc r hcr).2 j' y' hj' jo⟩
theorem By.MI.alone {α:Type} {f:α->Cu} (ef:μ.1 i=.node f) {g':Goroutine} {I':Pa.Gh} {d:Nat} {ops:Array MemOp} (hinv:Pa.Inv I' (w.at d)) (hrel:∀j,j≠i->Pa.R j I (w.at d) I' (w.at d)/\(Pa.Wait j I (w.at d)->Pa.Wait j I' (w.at d))) (ak:Pa.cnt I'=Pa.cnt I) (htr:Pa.Tr I' (t++ops))
  (hl:∃a,Pa.LivesT (f a) i I' (w.at d) g'):Pa.Goes os0 μ t (.next (crowd (gs.setIfInBounds i g') (w.at d) sl),ops):=by
 obtain⟨a,ha⟩:=hl;refine⟨_,_,(N1 μ.1 i (f a),_),rfl,Rr (by have:=h.top;have:=h.lt hi;omega) ef (Dt _ _ _) fun j hj=>Dr _ _ (by omega),_,w.at d,sl,I',rfl,hinv,htr,by simp[h.size,ak],by rw[ak];exact h.top,fun k x hk=>?_,rfl,h.os⟩;rcases Fb hk with⟨rfl,rfl⟩|⟨hne,hy⟩
 ·exact .lives (by(try dsimp only);rw[Dt];exact ha)
 ·show Pa.Sit (N1 _ _ _ _) _ _ _ _ _;rw[Dr _ _ hne];refine(h.sit k x hy).move H h.inv (H.trans _ _ _ _ _ _ _ (H.draw _ _ _ _) (hrel k hne).1) (fun hw=>(hrel k hne).2 (H.draw_wait _ _ _ _ hw)) fun cases _ hof hs c hc r hcr=>⟨(hs c hc r hcr).1,fun j' y hj' hy'=>?_⟩;rcases Fb hy' with⟨rfl,rfl⟩|⟨_,jo⟩
  ·exact Ef ha.status _ _
  ·exact(hs c hc r hcr).2 j' y hj' jo
theorem By.MI.both {α:Type} {f:α->Cu} (ef:μ.1 i=.node f) {k:Nat} {x:Goroutine} (hk:gs[k]?=some x) (sw:k≠i) {β:Type} {f':β->Cu} (ef':μ.1 k=.node f') {g' x':Goroutine} {I':Pa.Gh} {d r s rc:Nat} {ops:Array MemOp} (hr:w.heap[r]?=some (Obj.chan 0 #[] false s rc false))
  (hinv:Pa.Inv I' ((w.at d).setChan r 0 #[] false (s+1) (rc+1) false)) (hrel:∀j,j≠i->j≠k->Pa.R j I (w.at d) I' ((w.at d).setChan r 0 #[] false (s+1) (rc+1) false)/\(Pa.Wait j I (w.at d)->Pa.Wait j I' ((w.at d).setChan r 0 #[] false (s+1) (rc+1) false)))
  (ak:Pa.cnt I'=Pa.cnt I) (htr:Pa.Tr I' (t++ops)) (hl:∃a,Pa.LivesT (f a) i I' ((w.at d).setChan r 0 #[] false (s+1) (rc+1) false) g') (hl':∃a,Pa.LivesT (f' a) k I' ((w.at d).setChan r 0 #[] false (s+1) (rc+1) false) x') :
  Pa.Goes os0 μ t (.next (crowd ((gs.setIfInBounds k x').setIfInBounds i g') ((w.at d).setChan r 0 #[] false (s+1) (rc+1) false) sl),ops):=by
 obtain⟨a,ha⟩:=hl;obtain⟨b,hb⟩:=hl';have hlex:Alj Pa.top (N1 (N1 μ.1 k (f' b)) i (f a),T8 ((gs.setIfInBounds k x').setIfInBounds i g')) μ:=by
  have:=h.top;have:=h.lt hi;have:=h.lt hk;rcases Nat.lt_or_ge i k with hlt|hge
  ·exact Rr (i:=i) (by omega) ef (Dt _ _ _) fun j hj=>by rw[Dr _ _ (by omega),Dr _ _ (by omega)]
  ·exact Rr (i:=k) (by omega) ef' (by rw[Dr _ _ sw,Dt]) fun j hj=>by rw[Dr _ _ (by omega),Dr _ _ (by omega)]
 refine⟨_,_,(N1 (N1 μ.1 k (f' b)) i (f a),_),rfl,hlex,_,_,sl,I',rfl,hinv,htr,by simp[h.size,ak],by rw[ak];exact h.top,fun n y hn=>?_,rfl,h.os⟩;rcases Fb hn with⟨rfl,rfl⟩|⟨hne,hn⟩
 ·exact .lives (by(try dsimp only);rw[Dt];exact ha)
 ·show Pa.Sit (N1 _ _ _ _) _ _ _ _ _;rw[Dr _ _ hne];rcases Fb hn with⟨rfl,rfl⟩|⟨lf,hy⟩
  ·rw[Dt];exact .lives hb
  ·rw[Dr _ _ lf];refine(h.sit n y hy).move H h.inv (H.trans _ _ _ _ _ _ _ (H.draw _ _ _ _) (hrel n hne lf).1) (fun hw=>(hrel n hne lf).2 (H.draw_wait _ _ _ _ hw)) fun cases _ hof hs c hc r' hcr=>⟨fun cap buf s' rc' tm e=>?_,fun j' z hj' hz=>?_⟩
   ·have:=(hs c hc r' hcr).1 cap buf s' rc' tm;by_cases er:r=r'
    ·subst er;obtain⟨hlt,_⟩:=Array.getElem?_eq_some_iff.1 hr;simp[World.setChan,World.at,hlt] at e
    ·simp only[World.setChan,World.at,Array.getElem?_setIfInBounds_ne er] at e;exact this e
   ·rcases Fb hz with⟨rfl,rfl⟩|⟨_,hz⟩
    ·exact Ef ha.status _ _
    ·rcases Fb hz with⟨rfl,rfl⟩|⟨_,hz⟩
     ·exact Ef hb.status _ _
     ·exact(hs c hc r' hcr).2 j' z hj' hz
end
theorem By.Sit.parked {tr:Cu} {x:Goroutine} {cs:Array CommCase} {sh:CommShape} (h:Pa.Sit tr i I w gs x) (hb:x.status=.blocked) (ho:x.offers=some (cs,sh)) :
  ∃(g0:Goroutine) (α:Type) (f:α->Cu),tr=.node f/\x={ g0 with status:=.blocked,offers:=some (cs,sh) }/\Pa.CommAt (fun j I' w' g'=>∃a,Pa.LivesT (f a) j I' w' g') i I w g0 cs true sh:=by
 cases h with
 | lives h=>rcases h.status with q|q<;>(rw[q] at hb;cases hb)
 | sem g0 e h1 h2 _ _ _=>rw[e] at ho;dsimp only at ho;rw[h2] at ho;cases ho
 | com g0 cases shape st f e1 e2 h1 h2 =>
  rw[e2] at hb ho;dsimp only at hb ho;subst hb;simp only[Option.some.injEq,Prod.mk.injEq] at ho;obtain⟨rfl,rfl⟩:=ho;exact⟨g0,_,f,e1,e2,h2⟩
theorem By.MI.comm (H:Pa.Ok) (h:Pa.MI os0 μ m t gs w sl I) (hi:gs[i]?=some g) (hr:g.status=.running) {α:Type} {f:α->Cu} (ef:μ.1 i=.node f) {g0:Goroutine} {cases:Array CommCase} {blocking:Bool} {shape:CommShape}
  (hc:Pa.CommAt (fun j I' w' g'=>∃a,Pa.LivesT (f a) j I' w' g') i I w g0 cases blocking shape) (hst:stepG P (i==0) g w=.comm g0 cases blocking shape w #[]):Pa.Goes os0 μ t (runT P (crowd gs w sl) i):=by
 have hic:=h.lt hi;have hof:=(hc.at_ I w (H.refl _ _ _) h.inv).2.2;have hX:=Au8 (sl:=sl) hi hst (H.made _ _ _ _ _ h.inv hof);generalize runT P (crowd gs w sl) i=X at hX;have hwd:w=w.at w.drawn:=rfl;cases hX with
 | waits hb hs =>
  subst hb;have hs':∀g',Mf w (gs.setIfInBounds i g') i cases:=fun g' c hcm r hcr=>⟨(hs c hcm r hcr).1,fun j' x hj' hx=>(hs c hcm r hcr).2 j' x hj' (by
   rcases Fb hx with⟨e,_⟩|⟨hne,hx⟩
   ·exact absurd e hj'
   ·rw[Array.getElem?_setIfInBounds_ne (Ne.symm hne)];exact hx)⟩
  refine⟨_,_,(μ.1,T8 (gs.setIfInBounds i (Conc.parked g0 cases shape))),rfl,?_,?_⟩
  ·obtain⟨m1,m2⟩:=μ;refine Prod.Lex.right _ ?_;have:=h.run;dsimp only at this;rw[this];exact Ti hi hr (by simp[Conc.parked])
  ·refine⟨_,w,sl,I,rfl,h.inv,by simpa using h.tr,by simp[h.size],h.top,fun k x hk=>?_,rfl,h.os⟩;rcases Fb hk with⟨rfl,rfl⟩|⟨hne,hy⟩
   ·exact .com g0 cases shape .blocked f ef rfl (.inr ⟨rfl,hs' _⟩) hc
   ·refine(h.sit k x hy).move H h.inv (H.refl _ _ _) id fun cases' hb' oq ik c hcm r hcr=>⟨(ik c hcm r hcr).1,fun j' y hj' hy'=>?_⟩;rcases Fb hy' with⟨rfl,rfl⟩|⟨_,jo⟩
    ·-- what the newly parked one offers: had x the other end,it would have met
     cases eo:offersAt (Conc.parked g0 cases shape) r (!c.send.isSome) with
     | nil=>rfl
     | cons n l =>
      obtain⟨_,cs1,sh1,c1,q1,q2,q3,q4⟩:=Rf (k:=n) (h:=Conc.parked g0 cases shape) (r:=r) (send:=!c.send.isSome) (by rw[eo];simp);simp only[Conc.parked,Option.some.injEq,Prod.mk.injEq] at q1;obtain⟨rfl,rfl⟩:=q1;have hc1:=Array.mem_of_getElem? q2;have hz:=(hs' (Conc.parked g0 cases shape) c1 hc1 r q4).2 k x hne (by rw[Array.getElem?_setIfInBounds_ne (Ne.symm hne)];exact hy);obtain⟨sh',hb2⟩:=hb'.2;obtain⟨n',hn'⟩:=Array.mem_iff_getElem?.1 hcm;have hm:=P2 hb'.1 hb2 hn' hcr;rw[q3,Bool.not_not] at hz;rw[hz] at hm;simp at hm
    ·exact(ik c hcm r hcr).2 j' y hj' jo
 | default hb hs =>
  subst hb;obtain⟨I',a1,a2,a3,a4,a5⟩:=H.none _ _ _ _ h.inv hic hof;rw[hwd];exact h.alone H hi ef (d:=w.drawn) a1 a3 a4 (by simpa using a5 t h.tr) (hc.on I w (H.refl _ _ _) h.inv _ _ _ _ _ a2 a1)
 | shut k r d c x h1 h2 h3 h4 h5 h6 =>
  obtain⟨s,rc,h4⟩:=h4;have hr1:=H.draw i I w d;have hi1:=H.draw_inv I w d h.inv;obtain⟨I',a1,a2,a3,a4,a5⟩:=H.shut i I (w.at d) cases blocking k c r s rc hi1 hic hof h1 h2 h3 h4;exact h.alone H hi ef a1 a3 a4 (a5 t x ⟨h5,h6⟩ h.tr) (hc.on I (w.at d) hr1 hi1 _ _ _ _ _ a2 a1)
 | sends k r d h' hk s rc c c' v x cs sh x1 x2 x3 x4 h1 h2 h3 h4 h5 h6 h7 h8 h9 h10 h11 h12 h13 h14 h15 =>
  obtain⟨gp,β,f',ef',ex,hc'⟩:=(h.sit h' x h6).parked h7 h8;have hi1:=H.draw_inv I w d h.inv;have oq:=(hc'.at_ I w (H.refl _ _ _) h.inv).2.2;obtain⟨I',a1,a2,a3,a4,a5,a6⟩:=H.meet i h' I (w.at d) cases cs blocking true k hk c c' v r s rc hi1 (Ne.symm h5) hic (h.lt h6) hof oq h1 h9 h2 h10 h3 h11 h4;have efin:x.finishComm P cs sh hk v true=gp.finishComm P cs sh hk v true:=by rw[ex];rfl
  rw[efin];exact h.both H hi ef h6 h5 ef' h4 a1 a4 a5 (a6 t x1 x2 x3 x4 h12 h13 h14 h15 h.tr) (hc.on I (w.at d) (H.draw _ _ _ _) hi1 _ _ _ _ _ a2 a1) (hc'.on I (w.at d) (H.draw _ _ _ _) hi1 _ _ _ _ _ a3 a1)
 | recvs k r d h' hk s rc c c' v closed x cs sh x1 x2 x3 x4 h1 h2 h3 h4 h5 h6 h7 h8 h9 h10 h11 h12 h13 h14 h15 =>
  obtain⟨gp,β,f',ef',ex,hc'⟩:=(h.sit h' x h6).parked h7 h8;have hi1:=H.draw_inv I w d h.inv;have oq:=(hc'.at_ I w (H.refl _ _ _) h.inv).2.2;have hcl:closed=false:=by
   obtain⟨r',s',rc',cl,q1,q2,q3⟩:=H.made _ _ _ _ _ h.inv oq c' (Array.mem_of_getElem? h9);rw[h11] at q1;obtain rfl:r=r':=by simpa using q1
   rw[h4] at q2;simp only[Option.some.injEq,Obj.chan.injEq] at q2;rw[q2.2.2.1];exact q3 (by simp[h10])
  subst hcl;obtain⟨I',a1,a2,a3,a4,a5,a6⟩:=H.meet h' i I (w.at d) cs cases true blocking hk k c' c v r s rc hi1 h5 (h.lt h6) hic oq hof h9 h1 h10 h2 h11 h3 h4;have efin:x.finishComm P cs sh hk undef false=gp.finishComm P cs sh hk undef false:=by rw[ex];rfl
  rw[efin];exact h.both H hi ef h6 h5 ef' h4 a1 (fun j lh dc=>a4 j dc lh) a5 (a6 t x1 x2 x3 x4 h12 h13 h14 h15 h.tr) (hc.on I (w.at d) (H.draw _ _ _ _) hi1 _ _ _ _ _ a3 a1) (hc'.on I (w.at d) (H.draw _ _ _ _) hi1 _ _ _ _ _ a2 a1)
theorem By.Sit.gone (H:Pa.Ok) {tr:Cu} {x:Goroutine} (h:Pa.Sit tr i I w gs x) (hI:Pa.Inv I w) (hg:Pa.Gone i I):∃q,QuitsD P q (Pa.deaf I i) x:=by
 have hrf:=H.refl i I w;cases h with
 | lives h =>
  cases tr with
  | node f =>
   cases (show Pa.Node _ _ i I w x from h) with
   | step _ h=>exact absurd hg (h I w hrf hI).1
   | comm _ _ _ h=>exact absurd hg (h.at_ I w hrf hI).1
   | quit q _ h _=>exact⟨q,h⟩
 | sem g0 e h1 h2 h3 h4 h5=>exact absurd hg (h5 I w hrf hI)
 | com g0 cases shape st f e1 e2 h1 h2=>exact absurd hg (h2.at_ I w hrf hI).1
theorem By.MI.leave (H:Pa.Ok) (h:Pa.MI os0 μ m t gs w sl I) (hi:gs[i]?=some g) (hr:g.status=.running) {q:Nat} (e:μ.1 i=O5 q) (hq:QuitsD P q (Pa.deaf I i) g) (hg:Pa.Gone i I):Pa.Goes os0 μ t (runT P (crowd gs w sl) i):=by
 have hi0:i≠0:=fun e=>H.gone_main I (e ▸ hg);have hb:(i==0)=false:=by simpa using hi0
 cases q with
 | zero=>exact absurd hq.1 (by rw[hr];simp)
 | succ q =>
  rcases hq with⟨hq,_⟩|⟨_,g',es,hm,hst,hq⟩
  ·rw[hr] at hq;cases hq
  ·obtain⟨I',a1,a2,a3⟩:=H.leave i I w es h.inv hg (h.lt hi) hm;have hd:Pa.Do i I w I' w (mayWake P g=true) es:=⟨a1.inv,a1.rel,a1.tr,fun _ _ _ _ _ _ _ _=>.inl rfl,.inr (a1.wait.resolve_left id),a1.cnt,.refl _⟩;refine h.own H hi (τi:=O5 q) (by rw[hb];exact hst w) hd ?_ (by rw[e];exact⟨(),rfl⟩);cases q<;>exact By.Node.quit (t:=O5 _) _ rfl (by rw[a3];exact hq) a2
theorem By.steps (H:Pa.Ok) (μ:(Nat->Cu) × Nat) (m:Machine) (t:Trace) (h:Pa.Some os0 μ m t) :
  (∃o w ops,stepT P m=(.ended o w,ops)/\Good P (fun v w'=>Pa.Post v w'/\Cq os0 w') m o w (t++ops))\/(∃m' ops μ',stepT P m=(.next m',ops)/\Alj Pa.top μ' μ/\Pa.Some os0 μ' m' (t++ops)):=by
 obtain⟨gs,w,sl,I,h⟩:=h;obtain⟨i,g,d,sl',hi,hr,hstep⟩:=crowd_pick (P:=P) (w:=w) (sl:=sl) h.awake (h.someone H);have em:=h.m;subst em;rw[hstep];have h':=h.at H d sl';have hrf:=H.refl i I (w.at d);have fin:∀ {r:Stepped × Array MemOp},Pa.Goes os0 μ t r->(∃o w1 ops,r=(.ended o w1,ops)/\Good P (fun v w'=>Pa.Post v w'/\Cq os0 w') (crowd gs w sl) o w1 (t++ops))\/(∃m' ops μ',r=(.next m',ops)/\Alj Pa.top μ' μ/\Pa.Some os0 μ' m' (t++ops)):=fun h=>.inr h;cases h'.sit i g hi with
 | sem g0 e _ _ _ _ _=>rw[e] at hr;cases hr
 | com g0 cases shape st f e1 e2 h1 h2 =>
  refine fin (h'.comm H hi hr e1 h2 ?_);rw[<- (h2.at_ I (w.at d) hrf h'.inv).2.1];exact stepG_same (by rw[e2]) (by rw[e2]) (by rw[e2]) _
 | lives hl =>
  cases ef:μ.1 i with
  | node f =>
   have hl0:=hl;rw[ef] at hl;cases (show Pa.Node _ _ i I (w.at d) g from hl) with
   | comm cases blocking shape hc=>exact fin (h'.comm H hi hr ef hc (hc.at_ I (w.at d) hrf h'.inv).2.1)
   | quit q e hq hg=>exact fin (h'.leave H hi hr (ef.trans e) hq hg)
   | step h1 h3 =>
    obtain⟨zi,hn⟩:=h3 I (w.at d) hrf h'.inv;cases hn with
    | go g' w' es I' hst hd hl' =>
     obtain⟨a,ha⟩:=hl';exact fin (h'.own H hi hst hd ha (by rw[ef];exact⟨a,rfl⟩))
    | wait hst h2 hw=>exact fin (h'.waits H hi hl0 (fun I2 w2 hr hi=>(h3 I2 w2 hr hi).1) hr h2 hst hw)
    | spawn g' child I' hst hs vg hl2=>exact fin (h'.spawns H hi ef hst hs vg hl2)
    | stop v hi0 hst he =>
     subst hi0;refine .inl ⟨_,_,_,Go.ConcN.runT_crowd_ended hi hst,v,rfl,⟨he.post,h'.os⟩,?_⟩;have e0:t++MemOp.ofEvents 0 g.frame.fn g.frame.place #[]=t:=by show t++#[]=t;simp
     rw[e0];obtain⟨n1,n2⟩:=he.race t h'.tr;have uy:∀(j:Nat) (x:Goroutine),gs[j]?=some x->j≠0->∃q,QuitsD P q (Pa.deaf I j) x:=fun j x hx i7=>(h.sit j x hx).gone H h.inv (he.gone j i7 (h.lt hx));refine⟨n1,n2,⟨fun x hx=>?_,rfl⟩,fun j x hx i7=>?_⟩
     ·obtain⟨k,hk⟩:=List.mem_iff_getElem?.1 hx;rw[List.getElem?_drop] at hk;have hk':gs[1+k]?=some x:=by simpa [crowd] using hk
      obtain⟨q,hq⟩:=uy _ _ hk' (by omega);exact⟨q,hq.leaves⟩
     ·obtain⟨q,hq⟩:=uy j x hx i7;have ed:t.deaf j t.size=Pa.deaf I j:=H.tr_deaf I t j h.tr (h.lt hx);exact⟨q,by rw[ed];exact hq.hears _⟩
theorem By.run (H:Pa.Ok) (μ:(Nat->Cu) × Nat):∀(m:Machine) (t:Trace),Pa.Some os0 μ m t ->
  ∃n last o w t',runNT P (n+1) m t=(.ended o w,t')/\runN P n m=.next last/\step P last=.ended o w/\Good P (fun v w'=>Pa.Post v w'/\Cq os0 w') last o w t':=by
 induction μ using (Arv Pa.top).induction with
 | _ μ ih =>
  intro m t h;rcases By.steps H μ m t h with⟨o,w,ops,hs,hq⟩|⟨m',ops,μ',hs,hr,hI'⟩
  ·exact⟨0,m,o,w,t++ops,by simp[runNT,hs],rfl,by simp[Go.step,hs],hq⟩
  ·obtain⟨n,last,o,w,t',h1,h2,h3,h4⟩:=ih μ' hr m' (t++ops) hI';exact⟨n+1,last,o,w,t',by rw[runNT_succ_next hs];exact h1,by rw[runN_succ_next hs];exact h2,h3,h4⟩
theorem By.ends (H:Pa.Ok) {I:Pa.Gh} {w:World} {g:Goroutine} (hI:Pa.Inv I w) (hT:Pa.Tr I #[]) (hc:Pa.cnt I=1) (htop:1<=Pa.top) (hl:Pa.Lives 0 I w g) :
  ∃N last o w' t',runNT P (N+1) (solo g w) #[]=(.ended o w',t')/\runN P N (solo g w)=.next last/\step P last=.ended o w'/\Good P (fun v w2=>Pa.Post v w2/\Cq w w2) last o w' t':=by
 obtain⟨τ,hl⟩:=hl;refine By.run H (fun _=>τ,T8 #[g]) (solo g w) #[] ⟨#[g],w,none,I,rfl,hI,hT,by simp[hc],by omega,fun i x hx=>?_,rfl,.refl _⟩;cases i with
 | zero =>
  simp only[List.getElem?_toArray,List.getElem?_cons_zero,Option.some.injEq] at hx;subst hx;exact .lives hl
 | succ i=>simp at hx
end
end Go.Proofs.YtbicafgmfgdckaaGreatDoor
