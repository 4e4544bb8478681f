/- A piece. -/
import Derived.Test.YtbicafgmfgdckaaGreatDoorMgAm
import Derived.Test.YtbicafgmfgdckaaGreatDoorMgAa
set_option maxRecDepth 100000
set_option maxHeartbeats 16000000
set_option linter.all false
namespace Go.Proofs.YtbicafgmfgdckaaGreatDoor
open Go.Proofs.Tryz
open Go Go.Conc
section
variable {P:Program} {main:Bool} {b:Frame} {a:Act} {k:List Item} {cs:List Frame} {w:World}
def L3 (ats:Array TypeId) (ty:TypeId) (consts:Array Bool) (v:Value):Deferred:={ target:=.builtin .close ats ty consts,args:=#[v] }
theorem Iw {ops:Array Oper} {i:Nat} {rest:List Nat} {o:Oper} {x:Nat} {ats:Array TypeId} (ho:ops[i]?=some o) (hw:Region.wanted o (yielded ops a.tmps)=true) (hk:b.kind≠.early)
  (hop:o.op=.defer { callee:=.builtin .close,args:=#[.tmp x],argTypes:=ats }) :
  stepG P main (G (b.at a (.inRegion ops (i::rest)::k)) cs) w=.go (G (b.at (Act.put ⟨a.tmps,L3 ats o.type #[false] (a.eval (.tmp x))::a.defers⟩ o.dst undef) (.inRegion ops rest::k)) cs) w #[]:=by
 have hr:(execOp a.eval o).run P w=.ok (.defer (L3 ats o.type #[false] (a.eval (.tmp x)))) w:=by
  unfold execOp;simp[hop,resolve,L3]
 have he:(execOp a.eval o).events P w #[]=#[]:=by
  unfold execOp;simp[hop,resolve]
 have hfin:(b.at ⟨a.tmps,L3 ats o.type #[false] (a.eval (.tmp x))::a.defers⟩ (.inRegion ops (i::rest)::k)).finish undef=b.at (Act.put ⟨a.tmps,L3 ats o.type #[false] (a.eval (.tmp x))::a.defers⟩ o.dst undef) (.inRegion ops rest::k):=by rw[Frame.finish_at,ho];rfl
 have hk':(b.kind==CallKind.early)=false:=by simpa using hk
 rw[stepG_oper ho hw,<- hfin];simp[stepG.apply,hr,he,G,Frame.at,hk',GStep.after,seen_none]
theorem Ig {todo:List Item} {ds:List Deferred} {ats:Array TypeId} {ty:TypeId} {consts:Array Bool} {r room s rc:Nat} {buf:Array Value} {tm:Bool} (hd:a.defers=L3 ats ty consts (.chan (some r))::ds)
  (h:w.heap[r]?=some (.chan room buf false s rc tm)) :
  stepG P main (G { b.at a todo with mode:=.returning } cs) w=.go (G { b.at ⟨a.tmps,ds⟩ todo with mode:=.returning } cs) (w.setChan r room buf true s rc tm) #[⟨.obj r,false,true⟩,⟨.obj r,true,true⟩]:=by
 have hr:(builtin .close ats ty consts #[.chan (some r)]).run P w=.ok (.value (.tuple #[])) (w.setChan r room buf true s rc tm):=by
  show (do pure (Next.value (<- Builtin.close_ ats ty #[.chan (some r)])):Sem Next).run P w=_;simp[run_close_open ats ty h];rfl
 have he:(builtin .close ats ty consts #[.chan (some r)]).events P w #[]=#[⟨.obj r,false,true⟩,⟨.obj r,true,true⟩]:=by
  show (do pure (Next.value (<- Builtin.close_ ats ty #[.chan (some r)])):Sem Next).events P w #[]=_;simp[run_close_open ats ty h,events_close_open ats ty h]
 have hs:seen P b.fn #[⟨.obj r,false,true⟩,⟨.obj r,true,true⟩]=#[⟨.obj r,false,true⟩,⟨.obj r,true,true⟩]:=by
  rw[seen_def,seen_fold_sync _ _ _ _ (fun x hx=>by
   simp only[List.mem_cons,List.not_mem_nil,or_false] at hx;rcases hx with rfl|rfl<;>exact⟨rfl,fun g h=>by cases h⟩)]
  rfl
 simp[G,stepG,unwind,callDeferred,Frame.at,hd,L3,invoke,hr,he,hs,GStep.after]
theorem Aj {ops:Array Oper} {i:Nat} {rest:List Nat} {o:Oper} {f:FuncId} {fn:Func} {c:Code} {x:Operand} {args:Array Operand} {ats:Array TypeId} {first caps:Array Value}
  (ho:ops[i]?=some o) (hw:Region.wanted o (yielded ops a.tmps)=true) (hk:b.kind≠.early) (hop:o.op=.call { callee:=.value x,args,argTypes:=ats }) (hx:a.eval x=.func (.func f) first caps)
  {vs:Array Value} (hvs:first++args.map a.eval++caps=vs) (hf:P.funcs[f]?=some fn) (hname:(fn.name == "runtime.NumGoroutine")=false) (hb:fn.body=some c) :
  stepG P main (G (b.at a (.inRegion ops (i::rest)::k)) cs) w=.go (G ((base f).at { tmps:=vs++Array.replicate (fn.ntmps - vs.size) undef,defers:=[] } [.code c]) (b.at a (.inRegion ops (i::rest)::k)::cs)) w #[]:=by
 subst hvs;have h1:¬fn.name = "runtime.NumGoroutine":=by simpa using hname
 have hr:(execOp a.eval o).run P w=.ok (.enter f (first++args.map a.eval++caps)) w:=by
  unfold execOp;simp[hop,resolve,Deferred.ofValue,hx,invoke,callFunc,hf,h1,hb]
 have he:(execOp a.eval o).events P w #[]=#[]:=by
  unfold execOp;simp[hop,resolve,Deferred.ofValue,hx,invoke,callFunc,hf,h1,hb]
 rw[stepG_enter ho hw hk hr,enter_at _ hf hb];have:listed P b.fn a o w=#[]:=by unfold listed;rw[he];exact seen_none P _
 rw[this]
theorem Ea {ops:Array Oper} {i:Nat} {rest:List Nat} {o:Oper} {f:FuncId} {fn:Func} {args:Array Operand} {ats:Array TypeId}
  (ho:ops[i]?=some o) (hw:Region.wanted o (yielded ops a.tmps)=true) (hk:b.kind≠.early) (hop:o.op=.call { callee:=.value (.func f),args,argTypes:=ats }) {vs:Array Value} (hvs:args.map a.eval=vs)
  (hf:P.funcs[f]?=some fn) (hname:(fn.name == "runtime.NumGoroutine")=false) (hb:fn.body.isNone=false) :
  stepG P main (G (b.at a (.inRegion ops (i::rest)::k)) cs) w=.go (G (Frame.enter P f vs .normal) (b.at a (.inRegion ops (i::rest)::k)::cs)) w #[]:=by
 subst hvs;rw[stepG_enter ho hw hk (run_call_body hop hf hname hb)];have:listed P b.fn a o w=#[]:=by unfold listed;rw[events_call_body hop hf hname hb];exact seen_none P _
 rw[this]
end
open Go.ConcR (KK wgBlock WgAt stA smA rd wr mk DC0)
open Go.ConcN (sumTo upd upd_same upd_ne RelBy PermW WgLive)
section
variable {ty:TypeId} {top:Nat} {I I' I2:Ab} {p:Ph} {c:Ir} {w w' w2:World} {i j n:Nat} {P:Program} {Post:Value->World->Prop} {es:Array Event} {g g':Goroutine} {b:Frame} {a:Act} {k:List Item} {cs:List Frame}
theorem Im {ops:Array Oper} {l:Nat} {rest:List Nat} {o:Oper} {cases:Array CommCase} {blocking:Bool} {shape:CommShape} (ho:ops[l]?=some o) (hw:Region.wanted o (yielded ops a.tmps)=true) (hk:b.kind≠.early) (ht:I.tag i≠.gone)
  (hr:∀w2,(execOp a.eval o).run P w2=.ok (.comm cases blocking shape) w2) (he:∀w2,(execOp a.eval o).events P w2 #[]=#[]) (hof:∀I2 w2,G5 i I w I2 w2->Ae ty top I2 w2->Ft i I2 cases blocking)
  (gi:∀I2 w2,G5 i I w I2 w2->Ae ty top I2 w2->∀kk v ok I3 w3,C3 i I2 w2 blocking kk v ok I3 w3->Ae ty top I3 w3->LV P ty top Post i I3 w3 (G (b.at (a.put o.dst (commResult cases shape kk v ok)) (.inRegion ops rest::k)) cs)) :
  LV P ty top Post i I w (G (b.at a (.inRegion ops (l::rest)::k)) cs):=by
 refine By.Lives.comm (cases:=cases) (blocking:=blocking) (shape:=shape) ⟨rfl,fun I2 w2 hrl hI=>⟨fun q=>?_,?_,hof I2 w2 hrl hI⟩,fun I2 w2 hrl hI kk v ok I3 w3 hR bq=>?_⟩
 ·have e:I2.tag i≠.gone:=by rw[hrl.tag];exact ht
  exact e q.2
 ·rw[stepG_comm ho hw hk (hr w2),Ie (Ax (he w2))]
 ·have:=gi I2 w2 hrl hI kk v ok I3 w3 hR bq;have e:(G (b.at a (.inRegion ops (l::rest)::k)) cs).finishComm P cases shape kk v ok=G (b.at (a.put o.dst (commResult cases shape kk v ok)) (.inRegion ops rest::k)) cs:=by
   unfold Goroutine.finishComm;show G ((b.at a (.inRegion ops (l::rest)::k)).finish _) cs=_;rw[Frame.finish_at,ho];rfl
  rw[e];exact this
theorem My {todo:List Item} {ds:List Deferred} {ats:Array TypeId} {tt:TypeId} {consts:Array Bool} (hd:a.defers=L3 ats tt consts (.chan (some p.jobs))::ds) (hp:I.ph=some p) (hf:p.f=i) (ht:I.tag i=.feed) (hn:I.next=p.n\/I.stp=true)
  (hK:∀I' w',Gj i I w I' w'->I'.ph=some p->I'.tag i=.shut->I'.deaf i=I.deaf i->Ae ty top I' w'->LV P ty top Post i I' w' (G { b.at ⟨a.tmps,ds⟩ todo with mode:=.returning } cs)) :
  LV P ty top Post i I w (G { b.at a todo with mode:=.returning } cs):=by
 have hg:I.tag i≠.gone:=by rw[ht];simp
 refine An rfl hg fun I2 w2 hrl hI hi=>?_;subst hf;have l:=hrl.live hg;have hp2:=l.ph _ (Dq hp);have hC:=hI.core _ hp2;have ht2:I2.tag p.f=.feed:=hrl.tag.trans ht;obtain⟨s,hj⟩:=hC.jobs;rw[ht2] at hj;have aj:=Ao8 (P:=P) (Post:=Post) hI hp2 ht2 (hn.imp (fun e=>(l.feed p (Dq hp) rfl).1.trans e) fun e=>l.stp p (Dq hp) e) hj (mayWake P (G { b.at a todo with mode:=.returning } cs)=true) (by rfl);refine .go _ _ _ _ (Ig hd hj) aj (hK _ _ (l.trans ?_) hp2 (Dw _ _ _) hrl.deaf aj.inv);have hv:Et (I2.setTag p.f .shut).tag p=Et I2.tag p:=Mk _ hC.fd;have noph:∀ {q:Prop},I2.ph=none->q:=fun q=>by rw[hp2] at q;cases q
 refine⟨Nat.le_refl _,fun _ _ _=>rfl,fun _ h1 h2=>⟨h1,h2⟩,fun b hb e=>heap_setChan _ _ _ _ _ _ _ _ fun q=>?_,rfl,fun _ h=>h.1,fun q=>noph q,rfl,fun p' hp' _=>⟨rfl,?_⟩,fun _ _ q=>noph q,fun _ _ _ _ q=>noph q,fun _ _=>Nat.le_refl _,fun _ _ _=>Iff.rfl,fun _ _ h=>h,fun _=>rfl,fun p' hp' hk=>.of (c1:=rfl) rfl fun _=>?_⟩
 ·subst q;rw[hC.bjobs] at e;rcases e with e|⟨m,_,e⟩<;>cases e
 ·obtain rfl:=Ag hp2 hp'.1;exact Nat.le_of_eq hv
 ·obtain rfl:=Ag hp2 hp'.1;have:(w2.setChan p.jobs 0 #[] true s s false).heap[p.out]?=w2.heap[p.out]?:=heap_setChan _ _ _ _ _ _ _ _ fun r=>by have:=(hC.seek hk).bout;rw[r,hC.bjobs] at this;cases this
  simp only[World.cell?,this]
theorem Af6 {todo:List Item} {ds:List Deferred} {ats:Array TypeId} {tt:TypeId} {consts:Array Bool} {q:Nat} (hd:a.defers=L3 ats tt consts (.chan (some c.dn))::ds) (hp:I.ph=none) (hc:I.col=some c) (hf:c.f=i) (hi0:i≠0) (ht:I.tag i=.fin) (hdf:I.deaf i=0)
  (hq:QuitsD P q 0 (G { b.at ⟨a.tmps,ds⟩ todo with mode:=.returning } cs)) :
  LV P ty top Post i I w (G { b.at a todo with mode:=.returning } cs):=by
 have hg:I.tag i≠.gone:=by rw[ht];simp
 refine An rfl hg fun I2 w2 hrl hI hi=>?_;subst hf;have l:=hrl.live hg;have hp2:I2.ph=none:=l.pn hp (.inl hi0);have hc2:I2.col=some c:=l.col.trans hc;have hC:=hI.coll c hc2;have ht2:I2.tag c.f=.fin:=hrl.tag.trans ht;have hd2:I2.deaf c.f=0:=hrl.deaf.trans hdf;obtain⟨s,hj⟩:=hC.dn;rw[ht2] at hj;have aj:=Ar6 (P:=P) (Post:=Post) hI hp2 hc2 ht2 hd2 hj (mayWake P (G { b.at a todo with mode:=.returning } cs)=true) (by rfl);refine .go _ _ _ _ (Ig hd hj) aj (By.Lives.quit (q:=q) ?_ ⟨hi0,Dw _ _ _⟩);show QuitsD P q (I2.deaf c.f) _;rw[hd2];exact hq
structure Kw (i:Nat) (I I2:Ab):Prop where
 hs:I.hs<=I2.hs
 fx:∀b,I.F i b->I2.F i b
 ph:∀p,I.on i p->I2.ph=some p
 col:I2.col=I.col
 next:∀p,I.on i p->I.next<=I2.next
theorem Gj.kw (h:Gj i I w I2 w2):Kw i I I2:=⟨h.hs,fun _=>h.F,h.ph,h.col,h.next⟩
theorem Ext.kw (h:Ext i I I2):Kw i I I2:=⟨h.hs,fun b ⟨h1,m,h2,h3⟩=>⟨Nat.lt_of_lt_of_le h1 h.hs,m,h2,(h.bk b h1 fun j _ e=>by rw[h3] at e;cases e).trans h3⟩,h.ph,h.col,h.next⟩
theorem Kw.refl (i:Nat) (I:Ab):Kw i I I:=⟨Nat.le_refl _,fun _ h=>h,fun _ h=>h.1,rfl,fun _ _=>Nat.le_refl _⟩
theorem Kw.F (h:Kw i I I2) {b:Nat} (hb:I.F i b):I2.F i b:=h.fx b hb
theorem Kw.trans {I3:Ab} (h:Kw i I I2) (h':Kw i I2 I3):Kw i I I3 :=
 ⟨Nat.le_trans h.hs h'.hs,fun b hb=>h'.fx b (h.fx b hb),fun p q=>h'.ph p ⟨h.ph p q,q.2⟩,h'.col.trans h.col,fun p q=>Nat.le_trans (h.next p q) (h'.next p ⟨h.ph p q,q.2⟩)⟩
theorem Arw (I:Ab) (p:Ph) (h:Nat):Kw i I (I.pass p h):=⟨Nat.le_refl _,fun _ h=>h,fun _ h=>h.1,rfl,fun _ _=>Nat.le_succ _⟩
theorem At4 (I:Ab) (k:Nat) (x:B6):Kw i I (I.setTag k x):=⟨Nat.le_refl _,fun _ h=>h,fun _ h=>h.1,rfl,fun _ _=>Nat.le_refl _⟩
theorem At5 (I:Ab) (k x:Nat):Kw i I (I.put k x):=⟨Nat.le_refl _,fun _ h=>h,fun _ h=>h.1,rfl,fun _ _=>Nat.le_refl _⟩
structure N2 (i:Nat) (I:Ab) (w:World) (I2:Ab) (w2:World):Prop where
 hs:I.hs<=I2.hs
 bk:∀b,b < I.hs->(∀j,j≠i->I.bk b≠.priv j)->I2.bk b=I.bk b
 keep:∀b,b < I.hs->(I.bk b=.priv i\/∃m,m<=i/\I.bk b=.fix m)->w2.heap[b]?=w.heap[b]?
 tape:w2.tape=w.tape
 ph:∀p,I.on i p->I2.ph=some p
 col:I2.col=I.col
 next:∀p,I.on i p->I.next<=I2.next
theorem Gj.kept (h:Gj i I w I2 w2):N2 i I w I2 w2:=⟨h.hs,h.bk,h.keep,h.tape,h.ph,h.col,h.next⟩
theorem N2.refl (i:Nat) (I:Ab) (w:World):N2 i I w I w:=⟨Nat.le_refl _,fun _ _ _=>rfl,fun _ _ _=>rfl,rfl,fun _ h=>h.1,rfl,fun _ _=>Nat.le_refl _⟩
theorem N2.F (h:N2 i I w I2 w2) {b k:Nat} (hb:I.F k b):I2.F k b:=by
 obtain⟨h1,m,h2,h3⟩:=hb;exact⟨Nat.lt_of_lt_of_le h1 h.hs,m,h2,(h.bk b h1 fun j _ e=>by rw[h3] at e;cases e).trans h3⟩
theorem K6 (hI:Ae ty top I w) (hp:I.ph=some p) {b k:Nat} (hb:I.F k b) {v:Value} {t:TypeId} {m:Nat × Nat} (hH:p.H b=some (.cells #[v] t m)):w.cell? ⟨b,0,none⟩=some v:=by
 obtain⟨h1,n,h2,h3⟩:=hb;have h:=(hI.core _ hp).fix b n h1 h3;rw[hH] at h;simp[World.cell?,h]
theorem N2.trans {I3:Ab} {w3:World} (h:N2 i I w I2 w2) (h':N2 i I2 w2 I3 w3):N2 i I w I3 w3:=by
 have e:∀b,b < I.hs->(I.bk b=.priv i\/∃m,m<=i/\I.bk b=.fix m)->I2.bk b=I.bk b:=fun b hb q=>h.bk b hb fun j hj e=>by rcases q with q|⟨m,_,q⟩<;>(rw[q] at e;cases e);exact hj rfl
 refine⟨Nat.le_trans h.hs h'.hs,fun b hb hj=>?_,fun b hb q=>?_,h'.tape.trans h.tape,fun p q=>h'.ph p ⟨h.ph p q,q.2⟩,h'.col.trans h.col,fun p q=>Nat.le_trans (h.next p q) (h'.next p ⟨h.ph p q,q.2⟩)⟩
 ·have e1:=h.bk b hb hj;exact(h'.bk b (Nat.lt_of_lt_of_le hb h.hs) fun j hj'=>by rw[e1];exact hj j hj').trans e1
 ·exact(h'.keep b (Nat.lt_of_lt_of_le hb h.hs) (by rw[e b hb q];exact q)).trans (h.keep b hb q)
theorem Akm (hI:Ae ty top I w) (hp:I.ph=some p) (h s:Nat):N2 i I w (I.pass p h) (w.setChan p.jobs 0 #[] false s s false) :=
 ⟨Nat.le_refl _,fun _ _ _=>rfl,fun b _ e=>heap_setChan _ _ _ _ _ _ _ _ fun q=>(by
  subst q;rw[(hI.core _ hp).bjobs] at e;rcases e with e|⟨m,_,e⟩<;>cases e),rfl,fun _ h=>h.1,rfl,fun _ _=>Nat.le_succ _⟩
theorem G9 (hI:Ae ty top I w) (hc:I.col=some c) (hi:i=0) {x:B6} (ht:I.tag i=x) (hx:x≠.coll):False:=by
 subst hi;exact hx (ht.symm.trans (hI.coll c hc).tag0)
theorem Ada {kk:Int} {v:Value} {ok:Bool} (h:C3 i I w false kk v ok I' w') (hI:Ae ty top I w) (ht:I.tag i=.feed):ok=false/\I'=I/\w'=w/\((kk=-1/\v=undef)\/(kk=0/\I.stp=true)):=by
 have no:∀ {x:B6},I.tag i=x->x≠.feed->False:=fun h h'=>h' (h.symm.trans ht);cases h with
 | job p s _ _ q=>exact(no q (by simp)).elim
 | out p _ _ q=>exact(no q (by simp)).elim
 | peek p _ _ _ _ h1 h2 h3 h4 h5=>exact⟨h3,h4,h5,.inl ⟨h1,h2⟩⟩
 | stop p _ _ _ h1 h2 h3 h4 h5=>exact⟨h2,h4,h5,.inr ⟨h1,h3⟩⟩
 | fed p h s _ _ _ q=>cases q
 | took c h x s h1 h2=>exact(G9 hI h1 h2 ht (by simp)).elim
 | home c h1 h2=>exact(G9 hI h1 h2 ht (by simp)).elim
 | gave c x s h1 h2 q=>exact(no q (by simp)).elim
theorem Aed {kk:Int} {v:Value} {ok:Bool} (h:C3 i I w true kk v ok I' w') (hI:Ae ty top I w) (hp:I.ph=some p) (ht:I.tag i=.feed):ok=false/\((kk=0/\v=undef/\∃h s,p.b<=h/\I.tag h=.idle/\I'=I.pass p h/\w'=w.setChan p.jobs 0 #[] false s s false)\/(kk=1/\I.stp=true/\I'=I/\w'=w)):=by
 have no:∀ {x:B6},I.tag i=x->x≠.feed->False:=fun h h'=>h' (h.symm.trans ht);cases h with
 | job p s _ _ q=>exact(no q (by simp)).elim
 | out p _ _ q=>exact(no q (by simp)).elim
 | peek p _ _ _ q=>cases q
 | stop p _ _ _ h1 h2 h3 h4 h5=>exact⟨h2,.inr ⟨h1,h3,h4,h5⟩⟩
 | fed p' h s q _ _ _ h1 h2 h3 h4 h5 h6 h7=>obtain rfl:=Ag hp q;exact⟨h3,.inl ⟨h1,h2,h,s,h4,h5,h6,h7⟩⟩
 | took c h x s h1 h2=>exact(G9 hI h1 h2 ht (by simp)).elim
 | home c h1 h2=>exact(G9 hI h1 h2 ht (by simp)).elim
 | gave c x s h1 h2 q=>exact(no q (by simp)).elim
theorem Ad8 {b:Bool} {kk:Int} {v:Value} {ok:Bool} (h:C3 i I w b kk v ok I' w') (hI:Ae ty top I w) (hp:I.ph=some p) (ht:I.tag i=.idle) :
  (ok=true/\v=.int .i64 I.next/\I'=I.pass p i/\I.next < p.n/\∃s,w'=w.setChan p.jobs 0 #[] false s s false)\/(ok=false/\I'=I.setTag i .out/\w'=w):=by
 have no:∀ {x:B6},I.tag i=x->x≠.idle->False:=fun h h'=>h' (h.symm.trans ht);cases h with
 | job p' s q _ _ h1 h2 h3 h4 h5=>obtain rfl:=Ag hp q;exact .inl ⟨h1,h2,h3,h4,s,h5⟩
 | out p _ _ _ h1 h2 h3=>exact .inr ⟨h1,h2,h3⟩
 | peek p _ _ q=>exact(no q (by simp)).elim
 | stop p _ _ q=>exact(no q (by simp)).elim
 | fed p h s _ _ q=>exact(no q (by simp)).elim
 | took c h x s h1 h2=>exact(G9 hI h1 h2 ht (by simp)).elim
 | home c h1 h2=>exact(G9 hI h1 h2 ht (by simp)).elim
 | gave c x s h1 h2 q=>exact(no q (by simp)).elim
theorem Aeb {b:Bool} {x:Nat} {kk:Int} {v:Value} {ok:Bool} (h:C3 i I w b kk v ok I' w') (hI:Ae ty top I w) (hc:I.col=some c) (ht:I.tag i=.give x):kk=0/\v=undef/\ok=false/\I'=I.taken i x/\∃s,w'=w.setChan c.dn 0 #[] false s s false:=by
 have no:∀ {y:B6},I.tag i=y->y≠.give x->False:=fun h h'=>h' (h.symm.trans ht);cases h with
 | job p s _ _ q=>exact(no q (by simp)).elim
 | out p _ _ q=>exact(no q (by simp)).elim
 | peek p _ _ q=>exact(no q (by simp)).elim
 | stop p _ _ q=>exact(no q (by simp)).elim
 | fed p h s _ _ q=>exact(no q (by simp)).elim
 | took c h x s h1 h2=>exact(G9 hI h1 h2 ht (by simp)).elim
 | home c h1 h2=>exact(G9 hI h1 h2 ht (by simp)).elim
 | gave c' y s q h1 h2 h3 h4 h5 h6 h7 =>
  obtain rfl:=Cv hc q;rw[ht] at h2;injection h2 with h2;subst h2;exact⟨h3,h4,h5,h6,s,h7⟩
theorem Aej {b:Bool} {kk:Int} {v:Value} {ok:Bool} (h:C3 0 I w b kk v ok I' w') (hI:Ae ty top I w) (hc:I.col=some c):(ok=true/\∃h x s,kk=0/\I.tag h=.give x/\v=I.gv h/\x < c.n/\¬I.done x/\Yl I w c h x/\I'=I.taken h x/\w'=w.setChan c.dn 0 #[] false s s false)\/(ok=false/\(∀x,x < c.n->I.done x)/\I'=I.home/\w'=w):=by
 have no:∀ {y:B6},I.tag 0=y->y≠.coll->False:=fun h h'=>h' (h.symm.trans (hI.coll c hc).tag0);cases h with
 | job p s _ _ q=>exact(no q (by simp)).elim
 | out p _ _ q=>exact(no q (by simp)).elim
 | peek p _ _ q=>exact(no q (by simp)).elim
 | stop p _ _ q=>exact(no q (by simp)).elim
 | fed p h s _ _ q=>exact(no q (by simp)).elim
 | took c' h x s q _ h1 h2 h3 h4 h5 hnd h6 h7 h8=>obtain rfl:=Cv hc q;exact .inl ⟨h2,h,x,s,h1,h3,h4,h5,hnd,h6,h7,h8⟩
 | home c' q _ h1 h2 h3 h4=>obtain rfl:=Cv hc q;exact .inr ⟨h1,h2,h3,h4⟩
 | gave c x s _ q=>exact absurd rfl q
theorem Lw {D:List Deferred} {K:List Item} (R:Nat->Array Value->Ab->World->Prop) {m:Nat} {tm:Array Value} (h0:R m tm I w)
  (h:∀m,(∀m',m' < m->∀tm I w,R m' tm I w->LV P ty top Post i I w (G (b.at ⟨tm,D⟩ K) cs))->∀tm I w,R m tm I w->LV P ty top Post i I w (G (b.at ⟨tm,D⟩ K) cs)):LV P ty top Post i I w (G (b.at ⟨tm,D⟩ K) cs):=by
 induction m using Nat.strongRecOn generalizing tm I w with
 | _ m ih=>exact h m (fun m' hm tm I w q=>ih m' hm q) tm I w h0
structure B3 (I:Ab) (w:World):Prop where
 ph:I.ph=none
 col:I.col=none
 tag:I.tag 0=.solo
 deaf:I.deaf 0=0
 hs:I.hs=w.heap.size
 bk:∀b,b < I.hs->I.bk b=.priv 0\/(∃s,I.bk b=.shd s)\/I.bk b=.lock
theorem B3.ng (s:B3 I w):I.tag 0≠.gone:=by rw[s.tag];simp
theorem B3.ns (s:B3 I w):¬(I.tag 0).tied:=by rw[s.tag];exact fun h=>h
theorem B3.rel (s:B3 I w) (h:G5 0 I w I2 w2):B3 I2 w2/\w2.heap=w.heap/\w2.tape=w.tape/\I2.hs=I.hs/\I2.cnt=I.cnt/\∀b,b < I.hs->I2.bk b=I.bk b:=by
 have l:=h.live s.ng;obtain⟨e1,e2,e5⟩:=l.still rfl s.col s.ph;have e3:∀b,b < I.hs->I2.bk b=I.bk b:=fun b hb=>l.bk b hb fun j hj q=>by
  rcases s.bk b hb with e|⟨x,e⟩|e<;>(rw[e] at q;cases q);exact hj rfl
 exact⟨⟨l.pn s.ph (.inr s.col),l.col.trans s.col,h.tag.trans s.tag,h.deaf.trans s.deaf,by rw[e2,e1];exact s.hs,fun b hb=>by rw[e2] at hb;rw[e3 b hb];exact s.bk b hb⟩,e1,l.tape,e2,e5,e3⟩
structure C1 (I I':Ab):Prop where
 hs:I.hs<=I'.hs
 cnt:I'.cnt=I.cnt
 bk:∀b,b < I.hs->I'.bk b=I.bk b
theorem C1.refl (I:Ab):C1 I I:=⟨Nat.le_refl _,rfl,fun _ _=>rfl⟩
theorem C1.trans {I3:Ab} (h:C1 I I2) (h':C1 I2 I3):C1 I I3:=⟨Nat.le_trans h.hs h'.hs,h'.cnt.trans h.cnt,fun b hb=>(h'.bk b (Nat.lt_of_lt_of_le hb h.hs)).trans (h.bk b hb)⟩
theorem V6 (s:B3 I w) (hr:g.status=.running) (h:∀w2,w2.heap=w.heap->w2.tape=w.tape->∃g' w' es,stepG P true g w2=.go g' w' es/\Own (I.S 0) (fun _=>False) w2 w' es /\
  ∀I',B3 I' w'->C1 I I'->(∀b,I.hs<=b->b < w'.heap.size->I'.bk b=.priv 0)->LV P ty top Post 0 I' w' g'):LV P ty top Post 0 I w g:=by
 refine Ns hr s.ns fun I2 w2 hrl hI=>?_;obtain⟨s2,e1,e2,e3,e5,e4⟩:=s.rel hrl;obtain⟨g',w',es,h1,h2,h3⟩:=h w2 e1 e2;have hS:=hrl.S s.ng;refine⟨g',w',es,h1,?_,h3 _ ⟨s2.ph,s2.col,s2.tag,s2.deaf,rfl,fun b hb=>?_⟩ ⟨?_,e5,fun b hb=>?_⟩ fun b h4 h5=>?_⟩
 ·rw[hS];exact h2.mono fun _ q=>q.elim
 ·by_cases q:I2.hs<=b
  ·left;simp[Ab.grown,q]
  ·rw[Ce (by omega)];exact s2.bk b (by omega)
 ·show I.hs<=w'.heap.size;have:=h2.size;rw[s.hs,<- e1];exact this
 ·rw[Ce (by omega)];exact e4 b hb
 ·simp[Ab.grown,e3,h4]
theorem Aqw {y:BK} (hy:(∃s,y=.shd s)\/y=.lock) (s:B3 I w) (hr:g.status=.running) (h:∀w2,w2.heap=w.heap->w2.tape=w.tape->∃g' w',stepG P true g w2=.go g' w' #[]/\w'.heap.size=w2.heap.size+1/\w'.tape=w2.tape/\Cq w2 w'/\(∀b,b < w2.heap.size->w'.heap[b]?=w2.heap[b]?) /\
  ∀I',B3 I' w'->C1 I I'->I'.bk I.hs=y->LV P ty top Post 0 I' w' g'):LV P ty top Post 0 I w g:=by
 refine An hr s.ng fun I2 w2 hrl hI hi=>?_;obtain⟨s2,e1,e2,e3,e5,e4⟩:=s.rel hrl;obtain⟨g',w',h1,h2,h3,hos,h4,h5⟩:=h w2 e1 e2;refine .go g' w' #[] (I2.mk1 y) h1 (As9 hy hI ⟨s2.ph,.inl ⟨rfl,s2.col⟩⟩ h2 h3 h4 hos _) (h5 _ ⟨s2.ph,s2.col,s2.tag,s2.deaf,?_,fun b hb=>?_⟩ ⟨?_,e5,fun b hb=>?_⟩ ?_)
 ·show I2.hs+1=_;rw[h2,s2.hs]
 ·have hb':b < I2.hs+1:=hb;by_cases q:b=I2.hs
  ·subst q;right;rw[show (I2.mk1 y).bk I2.hs=y from upd_same _ _ _];exact hy
  ·rw[show (I2.mk1 y).bk b=I2.bk b from upd_ne _ _ q];exact s2.bk b (by omega)
 ·show I.hs<=I2.hs+1;omega
 ·rw[show (I2.mk1 y).bk b=I2.bk b from upd_ne _ _ (by omega)];exact e4 b hb
 ·rw[<- e3];exact upd_same _ _ _
theorem solo_goes (s:B3 I w) (hr:g.status=.running) (h:∀w2,w2.heap=w.heap->w2.tape=w.tape->(stepG P true g w2).goes fun g' w' es=>Own (I.S 0) (fun _=>False) w2 w' es /\
  ∀I' w1,w1.heap=w'.heap->w1.tape=w'.tape->B3 I' w1->C1 I I'->(∀b,I.hs<=b->b < w'.heap.size->I'.bk b=.priv 0)->LV P ty top Post 0 I' w1 g'):LV P ty top Post 0 I w g :=
 V6 s hr fun w2 e1 e2=>by
  obtain⟨g',w',es,h1,h2,h3⟩:=Dd (h w2 e1 e2);exact⟨g',w',es,h1,h2,fun I'=>h3 I' w' rfl rfl⟩
theorem Aao {y:BK} (hy:(∃s,y=.shd s)\/y=.lock) (s:B3 I w) (hr:g.status=.running) (h:∀w2,w2.heap=w.heap->w2.tape=w.tape->(stepG P true g w2).goes fun g' w' es=>((∃o,w'.heap=w2.heap.push o)/\w'.tape=w2.tape/\Cq w2 w'/\∀e∈es,False) /\
  ∀I' w1,w1.heap=w'.heap->w1.tape=w'.tape->B3 I' w1->C1 I I'->I'.bk I.hs=y->LV P ty top Post 0 I' w1 g'):LV P ty top Post 0 I w g :=
 Aqw hy s hr fun w2 e1 e2=>by
  obtain⟨g',w',es,h1,⟨⟨o,eo⟩,et,hos,h3⟩,h4⟩:=Dd (h w2 e1 e2);obtain rfl:=Ie h3;exact⟨g',_,h1,by rw[eo];simp,et,hos,(fun b hb=>by rw[eo,Array.getElem?_push,if_neg (Nat.ne_of_lt hb)]),fun I'=>h4 I' w' rfl rfl⟩
theorem Dc {S F:Nat->Prop} {w w':World} {o:Obj} {es:Array Event} (e:w'.heap=w.heap.push o) (et:w'.tape=w.tape) (eo:w'.os=w.os) (eu:w'.output=w.output) (he:∀e∈es,False):Own S F w w' es :=
 ⟨by rw[e];simp,et,eo,eu,(fun b hb _=>by rw[e,Array.getElem?_push,if_neg (Nat.ne_of_lt hb)]),fun e h=>(he e h).elim⟩
theorem Vk {S F:Nat->Prop} (w:World) (a:Addr) (v:Value) (hS:S a.block) {es:Array Event} (he:∀e∈es,e=⟨.cell a,true,false⟩):Own S F w (w.setCell a v) es :=
 ⟨by rw[C5];exact Nat.le_refl _,rfl,rfl,rfl,fun b _ hb=>Bh _ _ _ fun q=>hb (by rw[q];exact hS),fun e h=>.inl ⟨a,by rw[he e h],by rw[he e h],.inl (.inl hS)⟩⟩
theorem N7 {w:World} {A:Array Obj} {v u:Value} {t:TypeId} (h:w.heap=A.push (.cells #[u] t)):(w.setCell ⟨A.size,0,none⟩ v).heap=A.push (.cells #[v] t):=by
 refine Array.ext_getElem? fun b=>?_;by_cases hb:b=A.size
 ·subst hb;rw[Bg,if_pos rfl,h];simp
 ·rw[Bh _ _ _ hb,h,Array.getElem?_push,Array.getElem?_push,if_neg hb,if_neg hb]
theorem Za {main:Bool} {ops:Array Oper} {l:Nat} {rest:List Nat} {o:Oper} {f:FuncId} {x:Operand} {ats:Array TypeId} {caps:Array Value}
  (ho:ops[l]?=some o) (hw:Region.wanted o (yielded ops a.tmps)=true) (hk:b.kind≠.early) (hop:o.op=.go { callee:=.value x,args:=#[],argTypes:=ats }) (hx:a.eval x=.func (.func f) #[] caps) :
  stepG P main (G (b.at a (.inRegion ops (l::rest)::k)) cs) w=.spawn (G (b.at (a.put o.dst undef) (.inRegion ops rest::k)) cs) (born P { target:=.fn (.func f) caps,args:=#[] }) w #[]:=by
 have hr:(execOp a.eval o).run P w=.ok (.spawn { target:=.fn (.func f) caps,args:=#[] }) w:=by
  unfold execOp;simp[hop,resolve,Deferred.ofValue,hx]
 have he:(execOp a.eval o).events P w #[]=#[]:=by
  unfold execOp;simp[hop,resolve,Deferred.ofValue,hx]
 rw[stepG_spawn ho hw hk hr rfl,Ie (Ax he)]
end
structure Aac (w w2:World):Prop where
 heap:w2.heap=w.heap
 tape:w2.tape=w.tape
inductive Mi (P:Program) (F:Nat->Prop) (K:(Nat->Prop)->Goroutine->World->Prop):(Nat->Prop)->Goroutine->World->Prop
 | stop {S:Nat->Prop} {g:Goroutine} {w:World} (h:K S g w):Mi P F K S g w
 | step {S:Nat->Prop} {g:Goroutine} {w:World} (hg:g.status=.running) (h:∀w2,Aac w w2->∃g1 w3 es,stepG P true g w2=.go g1 w3 es/\Own S F w2 w3 es)
   (k:∀w2 g1 w3 es,Aac w w2->stepG P true g w2=.go g1 w3 es->Mi P F K (Fr S w2 w3) g1 w3):Mi P F K S g w
abbrev Mg:=Frame->World->Prop
def Vt.outR (R:Mg) (x:Vt):Prop:=x.l=[]/\∃T d,R x.r.fr (re x.w T d)
def Ag7 (P:Program) (R:Mg) (y x:Vt):Prop:=¬x.outR R/\∃T d,Nd P x.r x.l (re x.w T d) y.r y.l y.w
def L8 (P:Program) (base:List Frame) (R:Mg) (x:Vt):Prop:=∀(T:Tape) (d:Nat),∃(T2:Tape) (d2:Nat),(∀i,T2 (d2+i)=T (d+i))/\∃n fr w1,runN P n (lone x.r.fr (x.l.map Bt.fr++base) (re x.w T2 d2))=.next (lone fr base w1)/\R fr w1
section
variable {P:Program} {R:Mg} {x y:Vt} {base:List Frame}
theorem Alk {r:Bt} {l:List Bt} {w w1:World} {fr:Frame} (e:runN P 0 (lone r.fr (l.map Bt.fr++base) w)=.next (lone fr base w1)):l=[]/\r.fr=fr/\w=w1:=by
 simp only[runN,Stepped.next.injEq,lone,Machine.mk.injEq] at e;have:=e.2.1;simp only[Array.mk.injEq,List.cons.injEq,Goroutine.mk.injEq] at this;refine⟨?_,this.1.1,e.1⟩;have h2:=congrArg List.length this.1.2.1;simp at h2;exact h2
theorem If {T:Tape} {d:Nat} {w1:World} {fr:Frame} (e:runN P 0 (lone x.r.fr (x.l.map Bt.fr++base) (re x.w T d))=.next (lone fr base w1)) (h:R fr w1):x.outR R:=by
 obtain⟨h1,h2,h3⟩:=Alk e;exact⟨h1,T,d,by rw[h2,h3];exact h⟩
theorem Aph:∀(l:List Bt) (r:Bt) (chain:List PanicEntry) (w:World),Df P r.fn=true->(∀q∈l,Df P q.fn=true)->∀n fr w1,runN P n (lone (r.bad chain) (l.map Bt.fr++[Az]) w)=.next (lone fr [Az] w1)->∃c,fr.mode=.panicking c:=by
 intro l
 induction l with
 | nil =>
  intro r chain w hr hl n fr w1 e;have hs:step P (lone (r.bad chain) ([].map Bt.fr++[Az]) w)=.next (lone (Az.raise chain) [] w):=by
   obtain⟨fn,hf,_⟩:=Ks (r:=r) hr;refine Ja (es:=#[]) ?_;simp[stepG,Conc.G,Bt.bad,Bt.fr,unwind,Frame.catches,hf]
  have hs2:∃o w2,step P (lone (Az.raise chain) [] w)=.ended o w2:=by
   exact⟨_,_,step_lone_ended rfl⟩
  obtain⟨o,w2,hs2⟩:=hs2;cases n with
  | zero =>
   simp only[runN,Stepped.next.injEq,lone,Machine.mk.injEq] at e;have:=e.2.1;simp only[Array.mk.injEq,List.cons.injEq,Goroutine.mk.injEq] at this;exact⟨chain,by rw[<- this.1.1];rfl⟩
  | succ n =>
   rw[Dx hs] at e;have:=runN_ended hs2 e;simp[lone] at this
 | cons q l ih =>
  intro r chain w hr hl n fr w1 e;have hs:step P (lone (r.bad chain) ((q::l).map Bt.fr++[Az]) w)=.next (lone (q.bad chain) (l.map Bt.fr++[Az]) w):=by
   obtain⟨fn,hf,_⟩:=Ks (r:=r) hr;refine Ja (es:=#[]) ?_;rw[<- Fz q chain];simp[stepG,Conc.G,Bt.bad,Bt.fr,unwind,Frame.catches,hf]
  cases n with
  | zero =>
   simp only[runN,Stepped.next.injEq,lone,Machine.mk.injEq] at e;have:=e.2.1;simp only[Array.mk.injEq,List.cons.injEq,Goroutine.mk.injEq] at this;exact⟨chain,by rw[<- this.1.1];rfl⟩
  | succ n =>
   rw[Dx hs] at e;exact ih q chain w (hl q (by simp)) (fun y hy=>hl y (by simp[hy])) n fr w1 e
theorem Ms (hm:∀fr w c,R fr w->fr.mode≠.panicking c) (hr:Df P x.r.fn=true) (hl:∀q∈x.l,Df P q.fn=true) (ho:¬x.outR R) {n:Nat} {T:Tape} {d:Nat} {fr:Frame} {w1:World}
  (e:runN P n (lone x.r.fr (x.l.map Bt.fr++[Az]) (re x.w T d))=.next (lone fr [Az] w1)) (hR:R fr w1):¬Te P x.r x.l (re x.w T d):=by
 intro hd;cases n with
 | zero=>exact ho (If e hR)
 | succ n =>
  rcases hd [Az] with⟨v,w2,es,h⟩|⟨o,w2,es,h⟩
  ·rw[Dx (Ja h),Fz] at e;obtain⟨c,hc⟩:=Aph x.l x.r _ w2 hr hl n fr w1 e;exact hm _ _ c hR hc
  ·have hs:step P (lone x.r.fr (x.l.map Bt.fr++[Az]) (re x.w T d))=.ended o w2:=step_lone_ended (by
    show (stepG P true (Conc.G x.r.fr (x.l.map Bt.fr++[Az])) _).bare=_;rw[h];rfl)
   simp[runN,hs] at e
theorem Fy (hx:L8 P base R x) (hout:¬x.outR R) {T0:Tape} {d0:Nat} (h:Nd P x.r x.l (re x.w T0 d0) y.r y.l y.w):L8 P base R y:=by
 intro T d;obtain⟨T2,d2,hT,n,fr,w1,e,hR⟩:=hx (fun p q=>if p < y.w.drawn - d0 then T0 (d0+p) q else T (d+(p - (y.w.drawn - d0))) q) 0;have hle:d0<=y.w.drawn:=h.1;have hs:Aeq (re x.w T0 d0) y.w T2 d2:=fun i hi=>by
  have hi':d0+i < y.w.drawn:=hi;rw[hT i]
  funext q
  show (if 0+i < y.w.drawn - d0 then T0 (d0+(0+i)) q else _)=T0 (d0+i) q;rw[if_pos (by omega),Nat.zero_add]
 have hst:=Lu h hs base;cases n with
 | zero=>exact absurd (If e hR) hout
 | succ n =>
  rw[Dx (show step P (lone x.r.fr (x.l.map Bt.fr++base) (re x.w T2 d2))=_ from hst)] at e;refine⟨T2,d2+(y.w.drawn - d0),fun i=>?_,n,fr,w1,e,hR⟩;rw[Nat.add_assoc,hT]
  funext q
  show (if 0+(y.w.drawn - d0+i) < y.w.drawn - d0 then _ else T (d+(0+(y.w.drawn - d0+i) - (y.w.drawn - d0))) q)=T (d+i) q;rw[if_neg (by omega)]
  congr 2
  omega
theorem Abt (hx:∀(T:Tape) (d:Nat),∃n fr w1,runN P n (lone x.r.fr (x.l.map Bt.fr++base) (re x.w T d))=.next (lone fr base w1)/\R fr w1):Acc (Ag7 P R) x:=by
 refine Classical.byContradiction fun hn=>?_;obtain⟨f,h0,hf⟩:=Aek hn;have hT:∀k,∃p:Tape × Nat,¬(f k).outR R/\Nd P (f k).r (f k).l (re (f k).w p.1 p.2) (f (k+1)).r (f (k+1)).l (f (k+1)).w:=fun k=>by
  obtain⟨h1,T,d,h2⟩:=hf k;exact⟨(T,d),h1,h2⟩
 let T:Nat->Tape:=fun k=>(hT k).choose.1
 let d:Nat->Nat:=fun k=>(hT k).choose.2
 have hm:∀k,¬(f k).outR R/\Nd P (f k).r (f k).l (re (f k).w (T k) (d k)) (f (k+1)).r (f (k+1)).l (f (k+1)).w:=fun k=>(hT k).choose_spec
 let c:Nat->Nat:=fun k=>Nat.rec 0 (fun k p=>p+((f (k+1)).w.drawn - d k)) k
 have hc1:∀k,c (k+1)=c k+((f (k+1)).w.drawn - d k):=fun k=>rfl;have hc:∀k,c k<=c (k+1):=fun k=>by rw[hc1];omega
 have hst:∀k,step P (lone (f k).r.fr ((f k).l.map Bt.fr++base) (re (f k).w (Vg T d c) (c k)))=.next (lone (f (k+1)).r.fr ((f (k+1)).l.map Bt.fr++base) (re (f (k+1)).w (Vg T d c) (c (k+1)))):=fun k=>by
  refine Lu (hm k).2 (fun i hi=>?_) base;have hi':d k+i < (f (k+1)).w.drawn:=hi;exact Ahx hc (by rw[hc1];omega)
 have hrun:∀k n,runN P (k+n) (lone (f 0).r.fr ((f 0).l.map Bt.fr++base) (re (f 0).w (Vg T d c) (c 0)))=runN P n (lone (f k).r.fr ((f k).l.map Bt.fr++base) (re (f k).w (Vg T d c) (c k))):=fun k=>by
  induction k with
  | zero=>intro n;rw[Nat.zero_add]
  | succ k ih =>
   intro n;rw[Nat.add_assoc,Nat.add_comm 1 n,ih (n+1),Dx (hst k)]
 obtain⟨n,fr,w1,e,hR⟩:=hx (Vg T d c) (c 0);rw[<- h0] at e;have:=hrun n 0;rw[Nat.add_zero,e] at this;exact(hm n).1 (If this.symm hR)
end
section
variable {P:Program} {G:Nat->Bool} {fs:List Nat} {ρ ρ0:Bn} {F S:Nat->Prop} {base:List Frame} {R:Mg}
def Avi (P:Program) (G:Nat->Bool) (fs:List Nat) (F:Nat->Prop) (base:List Frame) (R:Mg) (ρ0:Bn) (S:Nat->Prop) (g:Goroutine) (W:World):Prop :=
 ∃(x:Vt) (ρ:Bn) (r':Bt),x.outR R/\RR P G fs [] ρ x.r r'/\g=Conc.G r'.fr base/\WR P.globals.size F ρ (re x.w W.tape W.drawn) W/\(∀a b,ρ a b->S b\/F b)/\ρ0.le ρ/\(∀a b,ρ a b->a=b)/\x.w.heap.size=W.heap.size
theorem Vv {gs:Nat} {w W W2:World} (h:WR gs F ρ (re w W.tape W.drawn) W) (hr:Aac W W2):WR gs F ρ (re w W2.tape W2.drawn) W2:=by
 refine⟨rfl,rfl,h.fn,h.inj,fun b hb=>by rw[hr.heap];exact h.low b hb,h.glob,h.gsize,h.plain,fun a b q=>?_⟩;rw[hr.heap];exact h.block a b q
theorem Alr (bh:∀f,fs.contains f=true->Cj P G fs f=true) (hm:∀fr w c,R fr w->fr.mode≠.panicking c) {x:Vt} (hacc:Acc (Ag7 P R) x) :
  ∀ {ρ:Bn} {r':Bt} {l':List Bt} {W:World} {S:Nat->Prop},RR P G fs [] ρ x.r r'->LR P G fs [] ρ x.l l'->WR P.globals.size F ρ (re x.w W.tape W.drawn) W->(∀g,G g=true->ρ g g)->(∀a b,ρ a b->S b\/F b)->ρ0.le ρ->(∀a b,ρ a b->a=b)->x.w.heap.size=W.heap.size ->
   L8 P [Az] R x->L8 P [] R x ->
   Mi P F (Avi P G fs F base R ρ0) S (Conc.G r'.fr (l'.map Bt.fr++base)) W:=by
 induction hacc with
 | intro x _ ih=>?_
 intro ρ r' l' W S h hl hw hG hS hle hid hsz qj mb;by_cases hout:x.outR R
 ·refine .stop ?_;have e:l'=[]:=by
   have:=hout.1;rw[this] at hl;cases hl;rfl
  subst e;exact⟨x,ρ,r',hout,h,rfl,hw,hS,hle,hid,hsz⟩
 have hne:x.r.ret=true->x.l≠[]:=fun e1 e2=>by
  obtain⟨T2,d2,_,n,fr,w1,e,hR⟩:=mb (fun _ _=>0) 0;cases n with
  | zero=>exact hout (If e hR)
  | succ n =>
   rw[e2] at e;obtain⟨o,w2,hs⟩:=Kv h.body e1 (re x.w T2 d2);have:runN P (n+1) (lone x.r.fr (List.map Bt.fr []++[]) (re x.w T2 d2))=.ended o w2:=by
    simp only[List.map_nil,List.append_nil,runN,hs]
   rw[this] at e;cases e
 have h':RR P G fs (L6 [] x.l) ρ x.r r':=by rw[Hg];exact h
 have both:∀W2,Aac W W2->Aeu P G fs [] F ρ x.r r' x.l l' (re x.w W2.tape W2.drawn) W2:=by
  intro W2 hr;have hw2:=Vv hw hr;rcases G8 bh h' hl hw2 hG hne (.inr (Hg _)) with hb|hd
  ·exact hb
  ·exfalso;obtain⟨T2,d2,hT,n,fr,w1,e,hR⟩:=qj W2.tape W2.drawn;have hnd:=Ms hm h.body (Vn hl) hout e hR;have hw3:WR P.globals.size F ρ (re x.w T2 d2) (re W2 T2 d2):=hw2.re T2 d2;rcases G8 bh h' hl hw3 hG hne (.inr (Hg _)) with hb|hd3
   ·obtain⟨r1,l1,w1,_,_,_,_,_,⟨_,_,e0,hmv⟩,_⟩:=hb;have hst:=hmv W2.tape W2.drawn (fun i _=>(hT i).symm) true [Az];rcases hd [Az] with⟨v,w4,es,hx⟩|⟨o,w4,es,hx⟩
    ·have e1:=hst.symm.trans hx;simp only[GStep.go.injEq,Conc.G,Goroutine.mk.injEq] at e1;have e2:=congrArg Frame.mode e1.1.1;rw[Fz] at e2;simp only[Bt.bad,Bt.fr] at e2;split at e2<;>cases e2
    ·have e1:=hst.symm.trans hx;cases e1
   ·exact hnd hd3
 refine .step rfl (fun W2 hr=>?_) fun W2 g1 W3 es hr hst=>?_
 ·obtain⟨r1,l1,w1,r1',l1',w1',ρ1,es,b1,b2,b3,b4,b5,b6,b7⟩:=both W2 hr;exact⟨_,w1',es,b2 true base,F0 hS b6 (fun a b q=>(b5.lt a b q).2) b7⟩
 ·obtain⟨r1,l1,w1,r1',l1',w1',ρ1,es',b1,b2,b3,b4,b5,b6,b7⟩:=both W2 hr;have e1:=(b2 true base).symm.trans hst;simp only[GStep.go.injEq] at e1;obtain⟨rfl,rfl,rfl⟩:=e1;have e2:re w1 w1'.tape w1'.drawn=w1:=by rw[<- b5.tape,<- b5.drawn];rfl
  obtain⟨hsz1,jv⟩:=b6.same (by show x.w.heap.size=W2.heap.size;rw[hr.heap];exact hsz) hid;refine ih ⟨r1,l1,w1⟩ ⟨hout,_,_,b1⟩ (by rw[Hg] at b3;exact b3) b4 (by rw[e2];exact b5) (fun g hg=>b6.le _ _ (hG g hg)) (Gu hS b6 fun a b q=>(b5.lt a b q).2) (Bn.le_trans hle b6.le) jv hsz1 (Fy qj hout b1) (Fy mb hout b1)
def Leaves (P:Program) (R:Value->World->Prop) (fr:Frame) (w1:World):Prop:=fr.mode=.returning/\∃v,R v w1/\∃fn,P.funcs[fr.fn]?=some fn/\(results fn fr.tmps).run P w1=.ok v w1
def Ap5 (P:Program) (F:Nat->Prop) (c:Frame) (rest:List Frame) (R:Value->World->Prop) (ρ:Bn) (S:Nat->Prop) (g:Goroutine) (W:World):Prop :=
 ∃v v' ρ1 w1,g=Conc.G (c.finish v') rest/\VR ρ1 v v'/\(∃T d,R v (re w1 T d))/\WR P.globals.size F ρ1 (re w1 W.tape W.drawn) W/\(∀a b,ρ1 a b->S b\/F b)/\ρ.le ρ1/\∀a b,ρ1 a b->a=b
theorem Ab3 (bh:∀f,fs.contains f=true->Cj P G fs f=true) {r r':Bt} {w0 W:World} {c:Frame} {rest:List Frame} {R:Value->World->Prop}
  (hr:RR P G fs [] ρ r r') (hw:WR P.globals.size F ρ (re w0 W.tape W.drawn) W) (hG:∀g,G g=true->ρ g g) (hS:∀a b,ρ a b->S b\/F b) (hid:∀a b,ρ a b->a=b) (hsz:w0.heap.size=W.heap.size)
  (ah:∀(base:List Frame) (T:Tape) (d:Nat),∃n fr w1,runN P n (lone r.fr base (re w0 T d))=.next (lone fr base w1)/\Leaves P R fr w1) :
  Mi P F (Ap5 P F c rest R ρ) S (Conc.G r'.fr (c::rest)) W:=by
 let x:Vt:=⟨r,[],w0⟩
 have hacc:Acc (Ag7 P (Leaves P R)) x:=Abt (base:=[]) fun T d=>ah [] T d;have h1:=Alr (base:=c::rest) (S:=S) (W:=W) (ρ0:=ρ) bh (fun fr w1 ch h e=>by rw[h.1] at e;cases e) hacc hr .nil hw hG hS (Bn.le_refl _) hid hsz
  (fun T d=>⟨T,d,fun _=>rfl,ah [Az] T d⟩) (fun T d=>⟨T,d,fun _=>rfl,ah [] T d⟩)
 have bind:∀ {K K2:(Nat->Prop)->Goroutine->World->Prop} {S:Nat->Prop} {g:Goroutine} {w:World},Mi P F K S g w->(∀S g w,K S g w->Mi P F K2 S g w)->Mi P F K2 S g w:=by
  intro K K2 S g w h hk
  induction h with
  | stop h=>exact hk _ _ _ h
  | step hg h _ ih=>exact .step hg h ih
 refine bind h1 fun S2 g W2 hE=>?_;obtain⟨y,ρ1,r',⟨_,T,d,hret,v,hR,fn,hfn,hres⟩,hr,rfl,hw1,hS1,hle,jv,hsz1⟩:=hE;have hret2:y.r.ret=true:=by
  cases hq:y.r.ret with
  | true=>rfl
  | false=>rw[show y.r.fr.mode=.run by simp[Bt.fr,hq]] at hret;cases hret
 have jb:∀W3,Aac W2 W3->∃ρ2 v' W4 es,stepG P true (Conc.G r'.fr (c::rest)) W3=.go (Conc.G (c.finish v') rest) W4 es/\VR ρ2 v v'/\WR P.globals.size F ρ2 (re y.w W3.tape W3.drawn) W4/\Left F ρ1 ρ2 (re y.w W3.tape W3.drawn) W3 (re y.w W3.tape W3.drawn) W4/\∀e∈es,EvR F ρ2 e:=fun W3 hr3=>by
  have hw3:=Vv hw1 hr3;have mn:=Om (P:=P) (fn:=fn) hr.tmps;have hrt:(results fn y.r.tmps).runT P (re y.w T d) #[]=(.ok v (re y.w T d),((results fn y.r.tmps).runT P (re y.w T d) #[]).2):=by
   refine Prod.ext ?_ rfl;rw[Sem.runT_fst];exact hres
  have h2:=(Iy P mn (re y.w T d) (re W3 T d) #[] (hw3.re T d) v _ _ hrt).2.2 W3.tape W3.drawn fun i hi=>by
   simp only[Pz] at hi;omega
  simp only[As2,Pz,Nat.sub_self,Nat.add_zero] at h2;obtain⟨ρ2,v',W4,new,r1,r2,r3,r4,r5⟩:=Aay P mn (re y.w W3.tape W3.drawn) W3 #[] #[] hw3 v _ _ h2;rw[Array.empty_append] at r1;refine⟨ρ2,v',W4,seen P r'.fn new,?_,r2,r3,r4,fun e he=>r5 e (Pu he)⟩;rw[Mm (hr.ret ▸ hret2) (show P.funcs[r'.fn]?=some fn from hr.fn ▸ (show P.funcs[y.r.fn]?=some fn from hfn)),r1];simp[doReturn,Bt.fr,GStep.after,Conc.G]
 refine .step rfl (fun W3 hr3=>?_) fun W3 g1 W4 es hr3 hst=>?_
 ·obtain⟨ρ2,v',W4,es,h1,h2,h3,h4,h5⟩:=jb W3 hr3;exact⟨_,W4,es,h1,F0 hS1 h4 (fun a b q=>(h3.lt a b q).2) h5⟩
 ·obtain⟨ρ2,v',W5,es',h1,h2,h3,h4,h5⟩:=jb W3 hr3;rw[h1] at hst;simp only[GStep.go.injEq] at hst;obtain⟨rfl,rfl,rfl⟩:=hst;have e2:re y.w W5.tape W5.drawn=re y.w W3.tape W3.drawn:=by rw[<- h3.tape,<- h3.drawn];rfl
  refine .stop ⟨v,v',ρ2,y.w,rfl,h2,⟨T,d,hR⟩,by rw[e2];exact h3,Gu hS1 h4 (fun a b q=>(h3.lt a b q).2),Bn.le_trans hle h4.le,(h4.same ?_ jv).2⟩;show y.w.heap.size=W3.heap.size;rw[hr3.heap];exact hsz1
theorem Aij (bh:∀f,fs.contains f=true->Cj P G fs f=true) {f:Nat} (hf:fs.contains f=true) {args args':Array Value} {w0 W:World} {c:Frame} {rest:List Frame} {R:Value->World->Prop}
  (hw:WR P.globals.size F ρ (re w0 W.tape W.drawn) W) (ha:Cx ρ args args') (hG:∀g,G g=true->ρ g g) (hS:∀a b,ρ a b->S b\/F b) (hid:∀a b,ρ a b->a=b) (hsz:w0.heap.size=W.heap.size)
  (hc:∀(T:Tape) (d:Nat),Calls P f args (re w0 T d) (fun e w'=>∃v,e=.returned v/\R v w')) :
  Mi P F (Ap5 P F c rest R ρ) S (Conc.G (Frame.enter P f args' .normal) (c::rest)) W :=
 Ab3 (r:=⟨f,(Frame.enter P f args .normal).tmps,(Frame.enter P f args .normal).todo,false⟩) (r':=⟨f,(Frame.enter P f args' .normal).tmps,(Frame.enter P f args' .normal).todo,false⟩) bh (V8 (bh f hf) ha) hw hG hS hid hsz fun base T d=>by
  obtain⟨e,w',fr,⟨v,rfl,hR⟩,hst,hfn,hm,hd,hk,fn,yl,hres⟩:=hc T d base;obtain⟨n,hn⟩:=hst;exact⟨n,fr,w',hn,hm,v,hR,fn,yl,hres⟩
theorem Aii (bh:∀f,fs.contains f=true->Cj P G fs f=true) {f:Nat} {fn:Func} (hf:P.funcs[f]?=some fn) (hfi:(P.inits.idxOf? f).isNone=true) {code:Code} (hok:Ee P G fs code=true) {ts ts':Array Value} {w0 W:World} {c b:Frame} {rest:List Frame} {R:Value->World->Prop}
  (bu:b.fn=f) (hbk:b.kind=.normal)
  (hw:WR P.globals.size F ρ (re w0 W.tape W.drawn) W) (ha:Cx ρ ts ts') (hG:∀g,G g=true->ρ g g) (hS:∀a b,ρ a b->S b\/F b) (hid:∀a b,ρ a b->a=b) (hsz:w0.heap.size=W.heap.size)
  (hc:∀(T:Tape) (d:Nat),code.wp P (bodyPost P fn (fun e w'=>∃v,e=.returned v/\R v w')) ⟨ts,[]⟩ (re w0 T d)) :
  Mi P F (Ap5 P F c rest R ρ) S (Conc.G (b.at ⟨ts',[]⟩ [.code code]) (c::rest)) W:=by
 have e0:∀t:Array Value,b.at ⟨t,[]⟩ [.code code]=Bt.fr ⟨f,t,[.code code],false⟩:=fun t=>by
  obtain⟨b1,b2,b3,b4,b5,b6⟩:=b;dsimp only at bu hbk;subst bu hbk;rfl
 rw[e0];refine Ab3 (r:=⟨f,ts,[.code code],false⟩) (r':=⟨f,ts',[.code code],false⟩) bh ⟨rfl,by simp,rfl,ha,fun it hit=>?_,?_⟩ hw hG hS hid hsz fun base T d=>?_
 ·simp only[List.mem_singleton] at hit;subst hit;exact hok
 ·unfold Df;rw[hf];exact hfi
 ·have hb:∀a todo,(b.at a todo).fn=f:=fun _ _=>bu;obtain⟨e,a',w',hq,harr⟩:=hc T d b [] base;rw[e0] at harr;cases e with
  | normal =>
   obtain⟨hd,v,hr,v2,e2,hR⟩:=hq;injection e2 with e2;subst e2;obtain⟨n,hn⟩:=Steps.trans harr (.one step_end);exact⟨n,_,w',hn,rfl,v,hR,fn,by show P.funcs[b.fn]?=_;rw[bu];exact hf,hr⟩
  | ret =>
   obtain⟨hd,v,hr,v2,e2,hR⟩:=hq;injection e2 with e2;subst e2;obtain⟨todo,n,hn⟩:=harr;exact⟨n,_,w',hn,rfl,v,hR,fn,by show P.funcs[b.fn]?=_;rw[bu];exact hf,hr⟩
  | panic chain =>
   obtain⟨hd,v2,e2,hR⟩:=hq;cases e2
  | exit id=>exact hq.elim
  | goto l=>exact hq.elim
  | outgrown =>
   obtain⟨v2,e2,hR⟩:=hq;cases e2
end
theorem Ny (ρ:Bn):∀v:Value,∃u,VR ρ u v
 | .agg cs=>by
  have h:∀i (hi:i < cs.size),∃u,VR ρ u cs[i]:=fun i hi=>Ny ρ cs[i];refine⟨.agg (Array.ofFn fun i:Fin cs.size=>(h i.1 i.2).choose),.agg (by simp) fun i h1 h2=>?_⟩;rw[Array.getElem_ofFn];exact(h i h2).choose_spec
 | .tuple cs=>by
  have h:∀i (hi:i < cs.size),∃u,VR ρ u cs[i]:=fun i hi=>Ny ρ cs[i];refine⟨.tuple (Array.ofFn fun i:Fin cs.size=>(h i.1 i.2).choose),.tuple (by simp) fun i h1 h2=>?_⟩;rw[Array.getElem_ofFn];exact(h i h2).choose_spec
 | .bool b=>⟨.bool b,.bool b⟩
 | .int .. | .float .. | .complex .. | .string .. | .pointer .. | .slice .. | .func .. | .nilFunc | .iface .. | .nilIface | .map .. | .chan ..=>⟨.nilIface,.nilIface _ rfl⟩
def As0:Addr:=⟨0,0,some 0⟩
open Classical in
noncomputable def Kn (ρ:Bn) (v:Value):Value:=if VR ρ v v then v else match v with
 | .slice (some _) 0 0=>.slice (some As0) 0 0
 | v=>(Ny ρ v).choose
theorem Aqd (ρ:Bn) (v:Value):VR ρ (Kn ρ v) v:=by
 unfold Kn;split
 ·assumption
 ·split
  ·exact .slz rfl
  ·exact(Ny ρ _).choose_spec
theorem Y8 {ρ:Bn} {v:Value} (h:VR ρ v v):Kn ρ v=v:=by unfold Kn;rw[if_pos h]
open Classical in
noncomputable def Aa9 (ρ:Bn) (F:Nat->Prop) (b:Nat):Obj->Obj
 | .cells cs t _=>.cells (cs.map (Kn ρ)) t (if F b then (0,cs.size) else (0,0))
 | _=>.cells #[] 0 (0,0)
noncomputable def Eb (ρ:Bn) (F:Nat->Prop) (W:World):World:={ W with heap:=W.heap.mapIdx (Aa9 ρ F) }
section
variable {ρ:Bn} {F T:Nat->Prop} {W:World} {gs:Nat}
theorem H8:(Eb ρ F W).heap.size=W.heap.size:=by simp[Eb]
theorem Rn (b:Nat):(Eb ρ F W).heap[b]?=(W.heap[b]?).map (Aa9 ρ F b):=by simp[Eb]
theorem Nq {a:Addr} {v:Value} (h:W.cell? a=some v) (hv:VR ρ v v):(Eb ρ F W).cell? a=some v:=by
 unfold World.cell? at h ⊢;rw[Rn];cases hb:W.heap[a.block]? with
 | none=>rw[hb] at h;cases h
 | some o =>
  rw[hb] at h;cases o with
  | cells cs t fr =>
   show (if a.spot.isSome then none else (cs.map (Kn ρ))[a.off]?)=_;dsimp only at h;split at h
   ·cases h
   ·rename_i hs;rw[if_neg hs,Array.getElem?_map,h,Option.map_some,Y8 hv]
  | _=>cases h
theorem Ait {ρ:Bn} (x:Addr):∃ad,Kn ρ (.slice (some x) 0 0)=.slice (some ad) 0 0:=by
 unfold Kn;split
 ·exact⟨x,rfl⟩
 ·exact⟨As0,rfl⟩
theorem Wl {a:Addr} {v:Value} (h:W.cell? a=some v):(Eb ρ F W).cell? a=some (Kn ρ v):=by
 unfold World.cell? at h ⊢;rw[Rn];cases hb:W.heap[a.block]? with
 | none=>rw[hb] at h;cases h
 | some o =>
  rw[hb] at h;cases o with
  | cells cs t fr =>
   show (if a.spot.isSome then none else (cs.map (Kn ρ))[a.off]?)=_;dsimp only at h;split at h
   ·cases h
   ·rename_i hs;rw[if_neg hs,Array.getElem?_map,h,Option.map_some]
  | _=>cases h
def Cw (T:Nat->Prop):Bn:=fun a b=>a=b/\T b
open Classical in
theorem Aad (hF:∀b,F b->b < W.heap.size) (hg:gs<=W.heap.size) (hT:∀b,T b->∃cs t fr,W.heap[b]?=some (.cells cs t fr)/\(¬F b->fr=(0,0))):WR gs F (Cw T) (re (Eb (Cw T) F W) W.tape W.drawn) W:=by
 refine⟨rfl,rfl,fun a b c h h'=>h.1.symm.trans h'.1,fun a b c h h'=>h.1.trans h'.1.symm,hF,fun a b h _=>h.1,?_,fun b o e=>?_,fun a b h=>?_⟩
 ·show gs<=(Eb (Cw T) F W).heap.size;rw[H8];exact hg
 ·have e2:(Eb (Cw T) F W).heap[b]?=some o:=e;rw[Rn] at e2;cases hb:W.heap[b]? with
  | none=>rw[hb] at e2;cases e2
  | some o2 =>
   rw[hb] at e2;simp only[Option.map_some,Option.some.injEq] at e2;subst e2;cases o2<;>exact .inl ⟨_,_,_,rfl⟩
 ·obtain⟨rfl,hb⟩:=h;obtain⟨cs,t,fr,e,vz⟩:=hT a hb;have e2:(re (Eb (Cw T) F W) W.tape W.drawn).heap[a]?=some (Aa9 (Cw T) F a (.cells cs t fr)):=by
   show (Eb (Cw T) F W).heap[a]?=_;rw[Rn,e];rfl
  refine⟨_,_,e2,e,?_⟩;show t=t/\Cx (Cw T) (cs.map (Kn (Cw T))) cs/\(F a->∀o,o < (cs.map (Kn (Cw T))).size->(if F a then (0,cs.size) else (0,0)).1<=o/\o < (if F a then (0,cs.size) else (0,0)).2)/\(¬F a->(if F a then (0,cs.size) else (0,0))=(0,0)/\fr=(0,0));refine⟨rfl,⟨by simp,fun i h1 h2=>?_⟩,fun hFa o ho=>?_,fun hFa=>?_⟩
  ·rw[Array.getElem_map];exact Aqd _ _
  ·rw[if_pos hFa];rw[Array.size_map] at ho;exact⟨Nat.zero_le _,ho⟩
  ·rw[if_neg hFa];exact⟨rfl,vz hFa⟩
end
section
variable {ty:TypeId} {top:Nat} {I I' I2:Ab} {p:Ph} {w w' w2:World} {i j n:Nat} {P:Program} {Post:Value->World->Prop} {es:Array Event} {g g':Goroutine} {c b:Frame} {rest:List Frame} {F T:Nat->Prop}
theorem Ow {K:(Nat->Prop)->Goroutine->World->Prop} {S:Nat->Prop} (h:Mi P F K S g w):∀I,B3 I w->(∀b,S b->I.S 0 b)->(∀b,F b->I.S 0 b) ->
  (∀S' g' w' I',B3 I' w'->C1 I I'->(∀b,I.hs<=b->b < I'.hs->I'.bk b=.priv 0)->(∀b,b < I.hs->¬S b->w'.heap[b]?=w.heap[b]?)->w'.tape=w.tape->(∀b,S' b->S b\/I.hs<=b)->K S' g' w'->LV P ty top Post 0 I' w' g')->LV P ty top Post 0 I w g:=by
 induction h with
 | stop h=>intro I s _ _ hK;exact hK _ _ _ I s (.refl _) (fun b h1 h2=>by omega) (fun _ _ _=>rfl) rfl (fun _ q=>.inl q) h
 | @step S g w hg h k ih =>
  intro I s hS hF hK;refine V6 s hg fun w2 e1 e2=>?_;obtain⟨g1,w3,es,h1,h2⟩:=h w2 ⟨e1,e2⟩;refine⟨g1,w3,es,h1,⟨h2.size,h2.tape,h2.os,h2.output,fun b hb hn=>h2.old b hb fun q=>hn (hS b q),fun e he=>?_⟩,fun I' s' l hnew=>?_⟩
  ·have hgr:∀b,Fr S w2 w3 b->Fr (I.S 0) w2 w3 b:=fun b hb=>hb.imp (hS b) id;rcases h2.ev e he with⟨ad,q1,q2,q3⟩|q|⟨r,q1,q2,q3⟩
   ·exact .inl ⟨ad,q1,q2,.inl (q3.elim (hgr _) fun q=>.inl (hF _ q.1))⟩
   ·exact .inr (.inl q)
   ·exact .inr (.inr ⟨r,q1,.inl (q2.elim (hgr _) fun q=>.inl (hF _ q)),q3⟩)
  ·have hs2:I.hs=w2.heap.size:=by rw[e1];exact s.hs
   refine ih w2 g1 w3 es ⟨e1,e2⟩ h1 I' s' (fun b hb=>?_) (fun b hb=>?_) fun S' g' w' I'' s'' l' hnew' hold gh dg hk=>hK S' g' w' I'' s'' (l.trans l') (fun b h3 h4=>?_) (fun b h3 h4=>?_) (gh.trans (h2.tape.trans e2)) (fun b q=>?_) hk
   ·rcases hb with hb|⟨h3,h4⟩
    ·obtain⟨q1,q2⟩:=hS b hb;exact⟨Nat.lt_of_lt_of_le q1 l.hs,(l.bk b q1).trans q2⟩
    ·exact⟨by rw[s'.hs];exact h4,hnew b (by omega) h4⟩
   ·obtain⟨q1,q2⟩:=hF b hb;exact⟨Nat.lt_of_lt_of_le q1 l.hs,(l.bk b q1).trans q2⟩
   ·by_cases q:b < I'.hs
    ·rw[l'.bk b q];exact hnew b h3 (by rw[<- s'.hs];exact q)
    ·exact hnew' b (by omega) h4
   ·have h5:b < w2.heap.size:=by omega
    refine(hold b (by have:=l.hs;omega) fun q=>q.elim h4 fun q=>by omega).trans ?_;rw[h2.old b h5 h4,e1]
   ·rcases dg b q with(q|⟨q,_⟩) | q
    ·exact .inl q
    ·exact .inr (by omega)
    ·exact .inr (Nat.le_trans l.hs q)
structure Hi (T:Nat->Prop) (n:Nat) (ρ:Bn) (w1 w':World):Prop where
 id:∀a b,ρ a b->a=b
 where_:∀a b,ρ a b->T b\/n<=b
 cell:∀(a:Addr) v,ρ a.block a.block->w1.cell? a=some v->∃v',w'.cell? a=some v'/\VR ρ v v'
 obj:∀b cs t fr,ρ b b->w1.heap[b]?=some (.cells cs t fr)->∃cs' fr',w'.heap[b]?=some (.cells cs' t fr')/\(n<=b->fr'=(0,0))
theorem Aas {gs:Nat} {ρ1:Bn} {w1 W:World} {S:Nat->Prop} (hw:WR gs T ρ1 (re w1 W.tape W.drawn) W) (hid:∀a b,ρ1 a b->a=b) (hS:∀a b,ρ1 a b->S b\/T b) (hn:∀b,S b->n<=b) (hT:∀b,T b->b < n):Hi T n ρ1 w1 W:=by
 refine⟨hid,fun a b h=>(hS a b h).elim (fun q=>.inr (hn b q)) .inl,fun a v h hc=>?_,fun b cs t fr h hc=>?_⟩
 ·rcases hw.cell (a:=a) (a':=a) ⟨h,rfl,rfl⟩ with⟨e1,_⟩|⟨u,u',e1,e2,e3⟩
  ·have:w1.cell? a=none:=e1;rw[this] at hc;cases hc
  ·have e1:w1.cell? a=some u:=e1;rw[e1] at hc;injection hc with hc;subst hc;exact⟨u',e2,e3⟩
 ·obtain⟨o,o',h1,h2,h3⟩:=hw.block b b h;have h1':w1.heap[b]?=some o:=h1;rw[hc] at h1';injection h1' with h1';subst h1';cases o' with
  | cells cs' t' fr' =>
   obtain⟨rfl,h4,h5,h6⟩:=h3;exact⟨_,_,h2,fun q=>(h6 fun q2=>by have:=hT b q2;omega).2⟩
  | _=>exact h3.elim
theorem Hi.cell_of {ρ:Bn} {w1:World} (h:Hi T n ρ w1 w') {b o:Nat} {v:Value} (hb:ρ b b) (hc:w1.cell? ⟨b,o,none⟩=some v):∃v',w'.cell? ⟨b,o,none⟩=some v'/\VR ρ v v':=h.cell ⟨b,o,none⟩ v hb hc
theorem Hi.int {ρ:Bn} {w1:World} (h:Hi T n ρ w1 w') {b o:Nat} {k:IntKind} {x:Int} (hb:ρ b b) (hc:w1.cell? ⟨b,o,none⟩=some (.int k x)):w'.cell? ⟨b,o,none⟩=some (.int k x):=by
 obtain⟨v',e,hv⟩:=h.cell_of hb hc;cases hv;exact e
theorem Hi.slice {ρ:Bn} {w1:World} (h:Hi T n ρ w1 w') {a:Option Addr} {l cp:Nat} {v':Value} (hsp:∀ad,a=some ad->ad.spot=none) (hv:VR ρ (.slice a l cp) v'):v'=.slice a l cp/\∀ad,a=some ad->ρ ad.block ad.block:=by
 cases hv with
 | snil=>exact⟨rfl,fun _ e=>by cases e⟩
 | slz q=>rw[hsp _ rfl] at q;cases q
 | @slice a a' _ _ q =>
  have e:a'=a:=by
   obtain⟨q1,q2,q3⟩:=q;have:=h.id _ _ q1;obtain⟨a1,a2,a3⟩:=a;obtain⟨b1,b2,b3⟩:=a';dsimp only at *;subst this q2 q3;rfl
  subst e;exact⟨rfl,fun ad e=>by cases e;exact q.block⟩
theorem Hi.slice_cell {ρ:Bn} {w1:World} (h:Hi T n ρ w1 w') {b o:Nat} {a:Option Addr} {l cp:Nat} (hsp:∀ad,a=some ad->ad.spot=none) (hb:ρ b b) (hc:w1.cell? ⟨b,o,none⟩=some (.slice a l cp)):w'.cell? ⟨b,o,none⟩=some (.slice a l cp)/\∀ad,a=some ad->ρ ad.block ad.block:=by
 obtain⟨v',e,hv⟩:=h.cell_of hb hc;obtain⟨rfl,q⟩:=h.slice hsp hv;exact⟨e,q⟩
theorem Aaf {ρ:Bn} {x:Bool} {v':Value} (h:VR ρ (.bool x) v'):v'=.bool x:=by cases h;rfl
theorem Aa8 {T:Nat->Prop} (s:B3 I w) (hgl:P.globals.size<=I.hs) (hT:∀b,T b->I.S 0 b/\∃cs t fr,w.heap[b]?=some (.cells cs t fr)):WR P.globals.size T (Cw T) (re (Eb (Cw T) T w) w.tape w.drawn) w :=
 Aad (F:=T) (T:=T) (fun b hb=>by have:=(hT b hb).1.1;rw[<- s.hs];exact this) (by rw[<- s.hs];exact hgl) fun b hb=>by
  obtain⟨_,cs,t,fr,e⟩:=hT b hb;exact⟨cs,t,fr,e,fun q=>absurd hb q⟩
theorem Tq {G:Nat->Bool} {fs:List Nat} (bh:∀f,fs.contains f=true->Cj P G fs f=true) {f:Nat} (hf:fs.contains f=true) (s:B3 I w) (hgl:P.globals.size<=I.hs) (T:Nat->Prop) (hT:∀b,T b->I.S 0 b/\∃cs t fr,w.heap[b]?=some (.cells cs t fr))
  {args:Array Value} (ha:Cx (Cw T) args args) (hG:∀g,G g=true->T g) (R:Value->World->Prop)
  (hc:∀(Tp:Tape) (d:Nat),Calls P f args (re (Eb (Cw T) T w) Tp d) (fun e w'=>∃v,e=.returned v/\R v w'))
  (hK:∀I' w' v v' ρ w1,B3 I' w'->C1 I I'->(∀b,I.hs<=b->b < I'.hs->I'.bk b=.priv 0)->(∀b,b < I.hs->w'.heap[b]?=w.heap[b]?)->w'.tape=w.tape->R v w1->VR ρ v v'->Hi T I.hs ρ w1 w'->LV P ty top Post 0 I' w' (Conc.G (c.finish v') rest)) :
  LV P ty top Post 0 I w (Conc.G (Frame.enter P f args .normal) (c::rest)):=by
 have h1:=Aij (P:=P) (G:=G) (fs:=fs) (F:=T) (S:=fun _=>False) (ρ:=Cw T) (c:=c) (rest:=rest) (R:=R) bh hf (w0:=Eb (Cw T) T w) (Aa8 s hgl hT) ha (fun g hg=>⟨rfl,hG g hg⟩) (fun a b h=>.inr (by obtain⟨rfl,h⟩:=h;exact h)) (fun a b h=>h.1) (H8) hc;refine Ow h1 I s (fun _ q=>q.elim) (fun b hb=>(hT b hb).1) fun S' g' w' I' s' l hnew hold gh dg hk=>?_;obtain⟨v,v',ρ1,w1,rfl,hv,⟨Tp,d,hR⟩,hw,hS,_,hid⟩:=hk;refine hK I' w' v v' ρ1 (re w1 Tp d) s' l hnew (fun b hb=>hold b hb fun q=>q) gh hR hv ?_;exact Aas (gs:=P.globals.size) (w1:=re w1 Tp d) (S:=S') hw hid hS (fun b q=>(dg b q).elim (fun q=>q.elim) id) fun b q=>(hT b q).1.1
theorem Ad3 {G:Nat->Bool} {fs:List Nat} (bh:∀f,fs.contains f=true->Cj P G fs f=true) {f:Nat} {fn:Func} (hf:P.funcs[f]?=some fn) (hfi:(P.inits.idxOf? f).isNone=true) {code:Code} (hok:Ee P G fs code=true) (bu:b.fn=f) (hbk:b.kind=.normal)
  (s:B3 I w) (hgl:P.globals.size<=I.hs) (T:Nat->Prop) (hT:∀b,T b->I.S 0 b/\∃cs t fr,w.heap[b]?=some (.cells cs t fr))
  {ts:Array Value} (ha:Cx (Cw T) ts ts) (hG:∀g,G g=true->T g) (R:Value->World->Prop)
  (hc:∀(Tp:Tape) (d:Nat),code.wp P (bodyPost P fn (fun e w'=>∃v,e=.returned v/\R v w')) ⟨ts,[]⟩ (re (Eb (Cw T) T w) Tp d))
  (hK:∀I' w' v v' ρ w1,B3 I' w'->C1 I I'->(∀b,I.hs<=b->b < I'.hs->I'.bk b=.priv 0)->(∀b,b < I.hs->w'.heap[b]?=w.heap[b]?)->w'.tape=w.tape->R v w1->VR ρ v v'->Hi T I.hs ρ w1 w'->LV P ty top Post 0 I' w' (Conc.G (c.finish v') rest)) :
  LV P ty top Post 0 I w (Conc.G (b.at ⟨ts,[]⟩ [.code code]) (c::rest)):=by
 have h1:=Aii (P:=P) (G:=G) (fs:=fs) (F:=T) (S:=fun _=>False) (ρ:=Cw T) (c:=c) (rest:=rest) (R:=R) bh hf hfi hok bu hbk (w0:=Eb (Cw T) T w) (Aa8 s hgl hT) ha (fun g hg=>⟨rfl,hG g hg⟩) (fun a b h=>.inr (by obtain⟨rfl,h⟩:=h;exact h)) (fun a b h=>h.1) (H8) hc;refine Ow h1 I s (fun _ q=>q.elim) (fun b hb=>(hT b hb).1) fun S' g' w' I' s' l hnew hold gh dg hk=>?_;obtain⟨v,v',ρ1,w1,rfl,hv,⟨Tp,d,hR⟩,hw,hS,_,hid⟩:=hk;refine hK I' w' v v' ρ1 (re w1 Tp d) s' l hnew (fun b hb=>hold b hb fun q=>q) gh hR hv ?_;exact Aas (gs:=P.globals.size) (w1:=re w1 Tp d) (S:=S') hw hid hS (fun b q=>(dg b q).elim (fun q=>q.elim) id) fun b q=>(hT b q).1.1
end
namespace Avv
abbrev W:=BitVec 32
def rot (x:W) (n:Nat):W:=x.rotateLeft n
theorem rot_xor (x y:W) (n:Nat):rot (x ^^^ y) n=rot x n ^^^ rot y n:=by
 unfold rot;refine BitVec.eq_of_getLsbD_eq fun i hi=>?_;simp only[BitVec.getLsbD_rotateLeft,BitVec.getLsbD_xor];by_cases h:i < n % 32<;>simp[h,hi]
theorem rot_zero (n:Nat):rot 0#32 n=0#32:=by
 unfold rot;refine BitVec.eq_of_getLsbD_eq fun i hi=>?_;simp only[BitVec.getLsbD_rotateLeft,BitVec.getLsbD_zero];by_cases h:i < n % 32<;>simp[h]
theorem rot_bit (x:W) (n i:Nat) (hi:i < 32):(rot x n).getLsbD i=x.getLsbD ((i+32 - n % 32) % 32):=by
 unfold rot;rw[BitVec.getLsbD_rotateLeft];by_cases h:i < n % 32
 ·rw[show (i+32 - n % 32) % 32=32 - n % 32+i by omega];simp[h]
 ·rw[show (i+32 - n % 32) % 32=i - n % 32 by omega];simp[h,hi]
theorem rot_rot (x:W) (m n:Nat):rot (rot x m) n=rot x (m+n):=by
 refine BitVec.eq_of_getLsbD_eq fun i hi=>?_;rw[rot_bit _ _ _ hi,rot_bit _ _ _ (Nat.mod_lt _ (by decide)),rot_bit _ _ _ hi]
 congr 1;omega
theorem rot_mod (x:W) (n:Nat):rot x (n % 32)=rot x n:=by
 refine BitVec.eq_of_getLsbD_eq fun i hi=>?_;rw[rot_bit _ _ _ hi,rot_bit _ _ _ hi]
 congr 1;omega
theorem rot_none (x:W):rot x 0=x:=by
 refine BitVec.eq_of_getLsbD_eq fun i hi=>?_;rw[rot_bit _ _ _ hi]
 congr 1;omega
theorem rot_shifts (x:W) (n:Nat) (h:n < 32):(x <<< n) ||| (x >>> (32 - n))=rot x n:=by
 unfold rot;rw[BitVec.rotateLeft_def,Nat.mod_eq_of_lt h]
def word (seed:W) (c:BitVec 8):W :=
 let x:=seed+(c.setWidth 32+1#32) * 0x9e3779b9#32
 let y:=(x ^^^ x >>> 16) * 0x85ebca6b#32
 let z:=(y ^^^ y >>> 13) * 0xc2b2ae35#32
 z ^^^ z >>> 16
def sumFrom (seed x:W) (l:List (BitVec 8)):W:=l.foldl (fun x c=>rot x 1 ^^^ word seed c) x
def sum (seed:W) (l:List (BitVec 8)):W:=sumFrom seed 0#32 l
theorem sumFrom_append (seed x:W) (a b:List (BitVec 8)):sumFrom seed x (a++b)=sumFrom seed (sumFrom seed x a) b:=List.foldl_append
theorem sumFrom_split (seed x:W) (l:List (BitVec 8)):sumFrom seed x l=rot x l.length ^^^ sum seed l:=by
 induction l generalizing x with
 | nil=>simp[sumFrom,sum,rot_none]
 | cons c l ih =>
  have e:∀y,sumFrom seed y (c::l)=sumFrom seed (rot y 1 ^^^ word seed c) l:=fun _=>rfl;rw[sum,e,e,ih,ih (rot 0#32 1 ^^^ _),rot_xor,rot_xor,rot_rot,rot_zero,rot_zero,BitVec.zero_xor,BitVec.xor_assoc,List.length_cons,Nat.add_comm 1]
theorem sum_snoc (seed:W) (l:List (BitVec 8)) (c:BitVec 8):sum seed (l++[c])=rot (sum seed l) 1 ^^^ word seed c:=by
 rw[sum,sumFrom_append];rfl
theorem sum_cons (seed:W) (c:BitVec 8) (l:List (BitVec 8)):sum seed (c::l)=rot (word seed c) l.length ^^^ sum seed l:=by
 have e:sum seed (c::l)=sumFrom seed (rot 0#32 1 ^^^ word seed c) l:=rfl;rw[e,sumFrom_split,rot_zero,BitVec.zero_xor]
theorem sum_slide (seed:W) (d c:BitVec 8) (l:List (BitVec 8)) :
  (rot (sum seed (d::l)) 1 ^^^ word seed c) ^^^ rot (word seed d) (l.length+1)=sum seed (l++[c]):=by
 have h:=sum_cons seed d (l++[c]);rw[List.length_append,List.length_singleton] at h;rw[<- sum_snoc,List.cons_append,h];have e:∀x y:W,(x ^^^ y) ^^^ x=y:=by
  intro x y;rw[BitVec.xor_comm x y,BitVec.xor_assoc,BitVec.xor_self,BitVec.xor_zero]
 exact e _ _
def part (seed:W) (l:List (BitVec 8)) (k:Nat):W:=((List.range k).map fun i=>rot (word seed (l.getD i 0#8)) ((l.length - 1 - i) % 32)).foldl (· ^^^ ·) 0#32
end Avv
open Go.RowKit
theorem Apm (N:Int):bits .and .i64 N 31=N % 32:=by
 have e2:bits .and .i64 N 31=IntKind.i64.wrap ((BitVec.ofInt 64 N) &&& (BitVec.ofInt 64 31)).toNat:=rfl;have e1:((BitVec.ofInt 64 N) &&& (BitVec.ofInt 64 31)).toNat=(N % 18446744073709551616).toNat % 32:=by
  rw[BitVec.toNat_and,BitVec.toNat_ofInt,show (BitVec.ofInt 64 31).toNat=31 from rfl];exact Nat.and_two_pow_sub_one_eq_mod _ 5
 rw[e2,e1,IntWalk.i64_in _ (by omega)];omega
theorem Afi (x:BitVec 32) (k:Nat) (hk:k < 32):x <<< k ||| x >>> (32 - k)=Avv.rot x k:=Avv.rot_shifts x k hk
def Avg (w:World) (v:Value) (e:Ending) (w':World):Prop:=∃n,e=.returned v/\w'=w.drewN n
theorem Ae4 (x:BitVec 32) (N:Int) (w:World):Calls prog 111 #[Af x,.int .i64 N] w (Avg w (Af (Avv.rot x (N % 32).toNat))):=by
 have hb:=Apm N;obtain⟨k,hk⟩:∃k:Nat,N % 32=k:=⟨(N % 32).toNat,by omega⟩;have hk32:k < 32:=by omega
 rw[hk] at hb ⊢;rw[Int.toNat_natCast];clear hk;have HR:=Lib.hid (Afi x k hk32);have h0:(0:Int)<=32 - (k:Int):=by omega
 have h3:(k:Int)<=32:=by omega
 have h1:((32:Int) - (k:Int)).toNat=32 - k:=by omega
 have h2:IntKind.i64.wrap (32 - (k:Int))=32 - (k:Int):=IntWalk.i64_in _ (by omega)
 go_enter func111,ntmps111
 go_wp2
 go_quiet (fail)
 go_wp2
 go_ret
 exact⟨_,Aqz HR.out,rfl⟩
theorem Alm (s:BitVec 32) (c:BitVec 8) (w:World):Calls prog 95 #[Af s,U8 c] w fun e w'=>e=.returned (Af (Avv.word s c))/\w=w':=by
 go_enter func95,ntmps95
 go_wp2
 go_ret
 exact⟨rfl,rfl⟩
structure B0 (w:World) (b:Nat) (s:BitVec 32) (win n at_:Nat) (x:BitVec 32) (ring:Nat->BitVec 8):Prop where
 words:∀i,i < 256->w.cell? ⟨b,i,none⟩=some (Af (Avv.word s (BitVec.ofNat 8 i)))
 ring:∀i,i < 63->w.cell? ⟨b,256+i,none⟩=some (U8 (ring i))
 win:w.cell? ⟨b,319,none⟩=some (.int .i64 win)
 n:w.cell? ⟨b,320,none⟩=some (.int .i64 n)
 at_:w.cell? ⟨b,321,none⟩=some (.int .i64 at_)
 x:w.cell? ⟨b,322,none⟩=some (Af x)
 thawed:∀o,w.frozen? ⟨b,o,none⟩=false
section
variable {w:World} {b:Nat} {s x:BitVec 32} {win n at_:Nat} {ring:Nat->BitVec 8}
theorem B0.word_at (h:B0 w b s win n at_ x ring) (c:BitVec 8):w.cell? ⟨b,idx c,none⟩=some (Af (Avv.word s c)):=by
 have:=h.words c.toNat c.isLt;rw[BitVec.ofNat_toNat,BitVec.setWidth_eq] at this;exact this
end
theorem Abh (c:BitVec 8):idx c < 256:=c.isLt
theorem E8 (x:BitVec 32) (N:Int) (w:World) (n:Nat):Calls prog 111 #[Af x,.int .i64 N] (w.drewN n) fun e w''=>e=.returned (Af (Avv.rot x (N % 32).toNat))/\∃m,w''=w.drewN m :=
 (Ae4 x N _).mono fun e w' ⟨m,he,hw⟩=>⟨he,n+m,by rw[hw,World.drewN_drewN]⟩
theorem Vl (w:World) (b win:Nat) (h:w.cell? ⟨b,319,none⟩=some (.int .i64 win)) (hw:0 < win) :
  Calls prog 110 #[.pointer (some ⟨b,0,none⟩)] w fun e w'=>e=.returned (.bool true)/\w=w':=by
 go_enter func110,ntmps110
 go_wp2
 go_ret
 exact⟨rfl,rfl⟩
def D8 (b:Nat) (w w':World):Prop:=w.grownBy w' (some b)
theorem D8.trans {b:Nat} {w w1 w2:World} (h:D8 b w w1) (k:D8 b w1 w2):D8 b w w2 :=
 ⟨k.os.trans h.os,k.tape.trans h.tape,k.output.trans h.output,Nat.le_trans h.size k.size,fun i hi hne=>(k.block i (Nat.lt_of_lt_of_le hi h.size) hne).trans (h.block i hi hne)⟩
theorem D8.drewN (b:Nat) (w:World) (n:Nat):D8 b w (w.drewN n):=⟨rfl,rfl,rfl,Nat.le_refl _,fun _ _ _=>rfl⟩
theorem D8.set (w:World) (b o:Nat) (v:Value):D8 b w (w.setCell ⟨b,o,none⟩ v) :=
 ⟨rfl,rfl,rfl,by simp,fun k _ hk=>Below.heap_setCell w ⟨b,o,none⟩ v k (fun e=>hk (by rw[e]))⟩
section
variable {w w':World} {b:Nat} {s x:BitVec 32} {win n at_:Nat} {ring:Nat->BitVec 8}
theorem B0.drewN (h:B0 w b s win n at_ x ring) (m:Nat):B0 (w.drewN m) b s win n at_ x ring:=⟨h.words,h.ring,h.win,h.n,h.at_,h.x,h.thawed⟩
theorem Aq {o o':Nat} {v u:Value} (h:w.cell? ⟨b,o',none⟩=some u) (hne:o'≠o):(w.setCell ⟨b,o,none⟩ v).cell? ⟨b,o',none⟩=some u:=by
 rw[World.cell?_setCell_other _ _ _ _ (by intro e;injection e with _ e2;exact hne e2.symm)];exact h
theorem Kq {o:Nat} {v u:Value} (h:w.cell? ⟨b,o,none⟩=some u):(w.setCell ⟨b,o,none⟩ v).cell? ⟨b,o,none⟩=some v:=World.cell?_setCell_same w _ v h
theorem B0.setX (h:B0 w b s win n at_ x ring) (y:BitVec 32):B0 (w.setCell ⟨b,322,none⟩ (Af y)) b s win n at_ y ring :=
 ⟨fun i hi=>Aq (h.words i hi) (by omega),fun i hi=>Aq (h.ring i hi) (by omega),Aq h.win (by omega),Aq h.n (by omega),Aq h.at_ (by omega),Kq h.x,
  fun o=>by rw[World.frozen?_setCell];exact h.thawed o⟩
theorem B0.setN (h:B0 w b s win n at_ x ring) (m:Nat):B0 (w.setCell ⟨b,320,none⟩ (.int .i64 m)) b s win m at_ x ring :=
 ⟨fun i hi=>Aq (h.words i hi) (by omega),fun i hi=>Aq (h.ring i hi) (by omega),Aq h.win (by omega),Kq h.n,Aq h.at_ (by omega),Aq h.x (by omega),
  fun o=>by rw[World.frozen?_setCell];exact h.thawed o⟩
theorem B0.setAt (h:B0 w b s win n at_ x ring) (m:Nat):B0 (w.setCell ⟨b,321,none⟩ (.int .i64 m)) b s win n m x ring :=
 ⟨fun i hi=>Aq (h.words i hi) (by omega),fun i hi=>Aq (h.ring i hi) (by omega),Aq h.win (by omega),Aq h.n (by omega),Kq h.at_,Aq h.x (by omega),
  fun o=>by rw[World.frozen?_setCell];exact h.thawed o⟩
theorem B0.setRing (h:B0 w b s win n at_ x ring) (k:Nat) (hk:k < 63) (c:BitVec 8):B0 (w.setCell ⟨b,256+k,none⟩ (U8 c)) b s win n at_ x (fun i=>if i=k then c else ring i) :=
 ⟨fun i hi=>Aq (h.words i hi) (by omega),
  fun i hi=>by
   by_cases e:i=k
   ·subst e;rw[if_pos rfl];exact Kq (h.ring i hi)
   ·rw[if_neg e];exact Aq (h.ring i hi) (by omega),
  Aq h.win (by omega),Aq h.n (by omega),Aq h.at_ (by omega),Aq h.x (by omega),fun o=>by rw[World.frozen?_setCell];exact h.thawed o⟩
end
structure O7 (win:Nat) (L:List (BitVec 8)) (at_:Nat) (ring:Nat->BitVec 8):Prop where
 len:L.length<=win
 lt:at_ < win
 cells:∀i,i < L.length->ring ((at_+(win - L.length)+i) % win)=Ad L i
theorem Rc (a n:Nat):(a+n) % n=a % n:=Nat.add_mod_right a n
theorem K8 {L:List (BitVec 8)} {c:BitVec 8} {i:Nat} (h:i < L.length):Ad (L++[c]) i=Ad L i:=by
 simp[Ad,List.getD_eq_getElem?_getD,List.getElem?_append_left h]
theorem K9 (L:List (BitVec 8)) (c:BitVec 8):Ad (L++[c]) L.length=c:=by
 simp[Ad,List.getD_eq_getElem?_getD]
theorem Anj {win at_ k:Nat} (hat:at_ < win) (h0:0 < k) (hk:k < win):(at_+k) % win≠at_:=by
 by_cases h:at_+k < win
 ·rw[Nat.mod_eq_of_lt h];omega
 ·rw[Nat.mod_eq_sub_mod (by omega),Nat.mod_eq_of_lt (by omega)];omega
theorem Ahn {win at_ k:Nat} (_hat:at_ < win):((at_+1) % win+k) % win=(at_+1+k) % win:=by rw[Nat.mod_add_mod]
theorem O7.push {win at_:Nat} {L:List (BitVec 8)} {ring:Nat->BitVec 8} (h:O7 win L at_ ring) (c:BitVec 8) (hlt:L.length < win) :
  O7 win (L++[c]) ((at_+1) % win) (fun i=>if i=at_ then c else ring i):=by
 have h2:=h.lt;refine⟨by simp;omega,Nat.mod_lt _ (by omega),fun i hi=>?_⟩;rw[List.length_append,List.length_singleton] at hi ⊢;have e:((at_+1) % win+(win - (L.length+1))+i) % win=(at_+(win - L.length+i)) % win:=by
  rw[Nat.add_assoc,Ahn h2];congr 1;omega
 rw[e];by_cases hi2:i < L.length
 ·rw[if_neg (Anj h2 (by omega) (by omega)),K8 hi2,<- h.cells i hi2,Nat.add_assoc]
 ·have:i=L.length:=by omega
  subst this;rw[show win - L.length+L.length=win by omega,Rc,Nat.mod_eq_of_lt h2,if_pos rfl,K9]
theorem O7.slide {win at_:Nat} {d:BitVec 8} {L:List (BitVec 8)} {ring:Nat->BitVec 8} (h:O7 win (d::L) at_ ring) (c:BitVec 8) (he:L.length+1=win) :
  ring at_=d/\O7 win (L++[c]) ((at_+1) % win) (fun i=>if i=at_ then c else ring i):=by
 have h2:=h.lt;have h0:=h.cells 0 (by simp);rw[List.length_cons,he,Nat.sub_self,Nat.add_zero,Nat.mod_eq_of_lt h2] at h0;refine⟨h0,by simp;omega,Nat.mod_lt _ (by omega),fun i hi=>?_⟩;rw[List.length_append,List.length_singleton] at hi ⊢;have e:((at_+1) % win+(win - (L.length+1))+i) % win=(at_+(1+i)) % win:=by
  rw[Nat.add_assoc,Ahn h2];congr 1;omega
 rw[e];by_cases hi2:i < L.length
 ·rw[if_neg (Anj h2 (by omega) (by omega)),K8 hi2];have:=h.cells (1+i) (by simp;omega);rw[List.length_cons,he,Nat.sub_self,Nat.add_zero] at this;rw[this];simp[Ad,List.getD_eq_getElem?_getD,Nat.add_comm]
 ·have:i=L.length:=by omega
  subst this;rw[show at_+(1+L.length)=at_+win by omega,Rc,Nat.mod_eq_of_lt h2,if_pos rfl,K9]
def Dn (w:World) (b:Nat) (s:BitVec 32) (win:Nat) (L:List (BitVec 8)):Prop:=∃at_ ring,B0 w b s win L.length at_ (Avv.sum s L) ring/\O7 win L at_ ring
def Lp (win:Nat) (L:List (BitVec 8)) (c:BitVec 8):List (BitVec 8):=if L.length < win then L++[c] else L.drop 1++[c]
def Avq (b:Nat) (w:World) (s:BitVec 32) (win:Nat) (L:List (BitVec 8)) (e:Ending) (w':World):Prop:=e=.returned (Af (Avv.sum s L))/\Dn w' b s win L/\D8 b w w'
theorem R8 (n:Nat) (h:n<=63):IntKind.i64.wrap ((n:Int)+1)=(n:Int)+1:=IntWalk.i64_in _ (by omega)
theorem Am9 (w:World) (b:Nat) (s x:BitVec 32) (win n at_:Nat) (ring:Nat->BitVec 8) (c:BitVec 8) (h:B0 w b s win n at_ x ring) (h1:1<=win) (h63:win<=63) (hn:n < win) (hat:at_ < win) :
  Calls prog 96 #[.pointer (some ⟨b,0,none⟩),U8 c] w fun e w' =>
   e=.returned (Af (Avv.rot x 1 ^^^ Avv.word s c))/\B0 w' b s win (n+1) ((at_+1) % win) (Avv.rot x 1 ^^^ Avv.word s c) (fun i=>if i=at_ then c else ring i)/\D8 b w w':=by
 obtain⟨X,hX⟩:∃X,Avv.rot x 1 ^^^ Avv.word s c=X:=⟨_,rfl⟩;obtain⟨ring',hR⟩:∃r',(fun i=>if i=at_ then c else ring i)=r':=⟨_,rfl⟩;rw[hX,hR];have HX:=Lib.hid hX;have HR:=Lib.hid hR;clear hX hR;have c1:=h.win;have c2:=h.x;have c3:=h.word_at c;have c4:=h.thawed 322;have hi:=Abh c;have ht:((n:Int)==(win:Int))=false:=by rw[beq_eq_false_iff_ne];omega
 go_enter func96,ntmps96
 go_wp2_with fail
 refine(Vl w b win c1 h1).mono ?_;rintro e w' ⟨rfl,rfl⟩
 go_wp2_with fail
 refine Cb 15 (by kernel_rfl) (by kernel_rfl) rfl ?_;simp only[List.take_succ_cons,List.take_zero,List.drop_zero]
 repeat (first|go_big_quiet_step (exact E8 _ _ _ _) | quiet_step (exact E8 _ _ _ _))
 refine wpQuiet_nil ?_;intro j;rw[show ((1:Int) % 32).toNat=1 from rfl];go_wp2;refine B9 (Db (by kernel_rfl) ?_);simp only[List.drop_succ_cons,List.drop_nil];refine wpQuiet_nil ?_;intro j';have h2:=((h.drewN j).setX (Avv.rot x 1 ^^^ Avv.word s c)).drewN j';have o2:=((D8.drewN b w j).trans (D8.set _ b 322 (Af (Avv.rot x 1 ^^^ Avv.word s c)))).trans (D8.drewN b _ j');rw[HX.out] at h2 o2 ⊢;generalize ((w.drewN j).setCell ⟨b,322,none⟩ (Af X)).drewN j'=w1 at *;clear c1 c2 c3 c4 h;have c1:=h2.win;have c2:=h2.n;have c3:=h2.thawed 320;have hw:=R8 n (by omega)
 go_wp2_with fail
 go_quiet (fail)
 go_wp2_with fail
 have h3:=(h2.drewN nq).setN (n+1);have o3:=(o2.trans (D8.drewN b _ nq)).trans (D8.set _ b 320 (.int .i64 ((n:Int)+1)));rw[show (((n+1:Nat):Int))=(n:Int)+1 from rfl] at h3;generalize (w1.drewN nq).setCell ⟨b,320,none⟩ (.int .i64 ((n:Int)+1))=w2 at *;clear h2 o2 c1 c2 c3 hw ht;have c1:=h3.at_;have c2:=h3.thawed (256+at_);have c3:=h3.ring at_ (by omega);have c4:at_ < 63:=by omega
 refine Cb 9 (by kernel_rfl) (by kernel_rfl) rfl ?_;simp only[List.take_succ_cons,List.take_zero,List.drop_zero]
 repeat (first|go_big_quiet_step (fail) | quiet_step (fail))
 refine wpQuiet_nil ?_;intro j2;go_wp2;refine B9 (Db (by kernel_rfl) ?_);simp only[List.drop_succ_cons,List.drop_nil];refine wpQuiet_nil ?_;intro j3;have h4:=((h3.drewN j2).setRing at_ c4 c).drewN j3;have o4:=((o3.trans (D8.drewN b _ j2)).trans (D8.set _ b (256+at_) (U8 c))).trans (D8.drewN b _ j3);generalize ((w2.drewN j2).setCell ⟨b,256+at_,none⟩ (U8 c)).drewN j3=w3 at *;rw[HR.out] at h4;clear h3 o3 c1 c2 c3;have c1:=h4.at_;have c2:=h4.win;have c3:=h4.thawed 321;have hw:=R8 at_ (by omega);have c5:(0:Int)<=(at_:Int)+1:=by omega
 go_wp2_with fail
 refine Cb 13 (by kernel_rfl) (by kernel_rfl) rfl ?_;simp only[List.take_succ_cons,List.take_zero,List.drop_zero]
 repeat (first|go_big_quiet_step (fail) | quiet_step (fail))
 refine wpQuiet_nil ?_;intro j4;go_wp2;refine B9 (Db (by kernel_rfl) ?_);simp only[List.drop_succ_cons,List.drop_nil];refine wpQuiet_nil ?_;intro j5;have h5:=((h4.drewN j4).setAt ((at_+1) % win)).drewN j5;have o5:=((o4.trans (D8.drewN b _ j4)).trans (D8.set _ b 321 (.int .i64 (((at_+1) % win:Nat):Int)))).trans (D8.drewN b _ j5);rw[show ((((at_+1) % win:Nat):Int))=((at_:Int)+1) % (win:Int) from rfl] at h5 o5;generalize ((w3.drewN j4).setCell ⟨b,321,none⟩ (.int .i64 (((at_:Int)+1) % (win:Int)))).drewN j5=w4 at *;clear h4 o4 c1 c2 c3 hw;have c1:=h5.x;go_wp2
 go_ret
 exact⟨rfl,h5,o5⟩
theorem Ana (w:World) (b:Nat) (s x:BitVec 32) (win n at_:Nat) (ring:Nat->BitVec 8) (c:BitVec 8) (h:B0 w b s win n at_ x ring) (h1:1<=win) (h63:win<=63) (hn:win=n) (hat:at_ < win) :
  Calls prog 96 #[.pointer (some ⟨b,0,none⟩),U8 c] w fun e w' =>
   e=.returned (Af (Avv.rot x 1 ^^^ Avv.word s c ^^^ Avv.rot (Avv.word s (ring at_)) (win % 32)))/\B0 w' b s win win ((at_+1) % win) (Avv.rot x 1 ^^^ Avv.word s c ^^^ Avv.rot (Avv.word s (ring at_)) (win % 32)) (fun i=>if i=at_ then c else ring i)/\D8 b w w':=by
 subst hn;obtain⟨X,hX⟩:∃X,Avv.rot x 1 ^^^ Avv.word s c=X:=⟨_,rfl⟩;obtain⟨ring',hR⟩:∃r',(fun i=>if i=at_ then c else ring i)=r':=⟨_,rfl⟩;obtain⟨Y,hY⟩:∃Y,X ^^^ Avv.rot (Avv.word s (ring at_)) (win % 32)=Y:=⟨_,rfl⟩;rw[hX,hR,hY];have HY:=Lib.hid hY;clear hY;have HX:=Lib.hid hX;have HR:=Lib.hid hR;clear hX hR;have c1:=h.win;have c2:=h.x;have c3:=h.word_at c;have c4:=h.thawed 322;have hi:=Abh c
 go_enter func96,ntmps96
 go_wp2_with fail
 refine(Vl w b win c1 h1).mono ?_;rintro e w' ⟨rfl,rfl⟩
 go_wp2_with fail
 refine Cb 15 (by kernel_rfl) (by kernel_rfl) rfl ?_;simp only[List.take_succ_cons,List.take_zero,List.drop_zero]
 repeat (first|go_big_quiet_step (exact E8 _ _ _ _) | quiet_step (exact E8 _ _ _ _))
 refine wpQuiet_nil ?_;intro j;rw[show ((1:Int) % 32).toNat=1 from rfl];go_wp2;refine B9 (Db (by kernel_rfl) ?_);simp only[List.drop_succ_cons,List.drop_nil];refine wpQuiet_nil ?_;intro j';have h2:=((h.drewN j).setX (Avv.rot x 1 ^^^ Avv.word s c)).drewN j';have o2:=((D8.drewN b w j).trans (D8.set _ b 322 (Af (Avv.rot x 1 ^^^ Avv.word s c)))).trans (D8.drewN b _ j');rw[HX.out] at h2 o2 ⊢;generalize ((w.drewN j).setCell ⟨b,322,none⟩ (Af X)).drewN j'=w1 at *;clear c1 c2 c3 c4 h;have c1:=h2.win;have c2:=h2.n
 go_wp2_with fail
 go_quiet (fail)
 have h2:=h2.drewN nq;have o2:=o2.trans (D8.drewN b _ nq);generalize w1.drewN nq=w2 at *;clear c1 c2;have c1:=h2.win;have c2:=h2.x;have c3:=h2.thawed 322;have c4:=h2.at_;have c5:=h2.ring at_ (by omega);have c6:at_ < 63:=by omega
 have c7:=h2.word_at (ring at_);have c8:=Abh (ring at_);generalize ring at_=d at *
 go_wp2_with fail
 refine Cb 26 (by kernel_rfl) (by kernel_rfl) rfl ?_;simp only[List.take_succ_cons,List.take_zero,List.drop_zero]
 repeat (first|go_big_quiet_step (exact E8 _ _ _ _) | quiet_step (exact E8 _ _ _ _))
 refine wpQuiet_nil ?_;intro k1;rw[HY.out];go_wp2;refine B9 (Db (by kernel_rfl) ?_);simp only[List.drop_succ_cons,List.drop_nil];refine wpQuiet_nil ?_;intro k2;have h3:=((h2.drewN k1).setX Y).drewN k2;have o3:=((o2.trans (D8.drewN b _ k1)).trans (D8.set _ b 322 (Af Y))).trans (D8.drewN b _ k2);generalize ((w2.drewN k1).setCell ⟨b,322,none⟩ (Af Y)).drewN k2=w2 at *;clear h2 o2 c1 c2 c3 c4 c5 c6 c7 c8;have c1:=h3.at_;have c2:=h3.thawed (256+at_);have c3:=h3.ring at_ (by omega);have c6:at_ < 63:=by omega
 go_wp2_with fail
 refine Cb 9 (by kernel_rfl) (by kernel_rfl) rfl ?_;simp only[List.take_succ_cons,List.take_zero,List.drop_zero]
 repeat (first|go_big_quiet_step (fail) | quiet_step (fail))
 refine wpQuiet_nil ?_;intro j2;go_wp2;refine B9 (Db (by kernel_rfl) ?_);simp only[List.drop_succ_cons,List.drop_nil];refine wpQuiet_nil ?_;intro j3;have h4:=((h3.drewN j2).setRing at_ c6 c).drewN j3;have o4:=((o3.trans (D8.drewN b _ j2)).trans (D8.set _ b (256+at_) (U8 c))).trans (D8.drewN b _ j3);generalize ((w2.drewN j2).setCell ⟨b,256+at_,none⟩ (U8 c)).drewN j3=w3 at *;rw[HR.out] at h4;clear h3 o3 c1 c2 c3;have c1:=h4.at_;have c2:=h4.win;have c3:=h4.thawed 321;have hw:=R8 at_ (by omega);have c5:(0:Int)<=(at_:Int)+1:=by omega
 go_wp2_with fail
 refine Cb 13 (by kernel_rfl) (by kernel_rfl) rfl ?_;simp only[List.take_succ_cons,List.take_zero,List.drop_zero]
 repeat (first|go_big_quiet_step (fail) | quiet_step (fail))
 refine wpQuiet_nil ?_;intro j4;go_wp2;refine B9 (Db (by kernel_rfl) ?_);simp only[List.drop_succ_cons,List.drop_nil];refine wpQuiet_nil ?_;intro j5;have h5:=((h4.drewN j4).setAt ((at_+1) % win)).drewN j5;have o5:=((o4.trans (D8.drewN b _ j4)).trans (D8.set _ b 321 (.int .i64 (((at_+1) % win:Nat):Int)))).trans (D8.drewN b _ j5);rw[show ((((at_+1) % win:Nat):Int))=((at_:Int)+1) % (win:Int) from rfl] at h5 o5;generalize ((w3.drewN j4).setCell ⟨b,321,none⟩ (.int .i64 (((at_:Int)+1) % (win:Int)))).drewN j5=w4 at *;clear h4 o4 c1 c2 c3 hw;have c1:=h5.x;go_wp2
 go_ret
 exact⟨rfl,h5,o5⟩
theorem Aq2 (w:World) (b:Nat) (s:BitVec 32) (win:Nat) (L:List (BitVec 8)) (c:BitVec 8) (h:Dn w b s win L) (h63:win<=63) :
  Calls prog 96 #[.pointer (some ⟨b,0,none⟩),U8 c] w fun e w'=>Avq b w s win (Lp win L c) e w':=by
 obtain⟨at_,ring,h1,h2⟩:=h;have h3:=h2.lt;have h4:=h2.len;by_cases hlt:L.length < win
 ·have e:Lp win L c=L++[c]:=if_pos hlt;rw[e];refine(Am9 w b s _ win L.length at_ ring c h1 (by omega) h63 hlt h3).mono ?_;rintro e w' ⟨he,hr,ho⟩;rw[<- Avv.sum_snoc] at he hr;refine⟨he,⟨_,_,?_,h2.push c hlt⟩,ho⟩;rw[List.length_append,List.length_singleton];exact hr
 ·have e:Lp win L c=L.drop 1++[c]:=if_neg hlt;rw[e];obtain⟨d,L,rfl⟩:∃d L',L=d::L':=by
   cases L with
   | nil=>simp at hlt;omega
   | cons d L'=>exact⟨d,L',rfl⟩
  rw[List.length_cons] at h4 hlt;have hn:win=L.length+1:=by omega
  obtain⟨hd,hs⟩:=h2.slide c hn.symm;refine(Ana w b s _ win _ at_ ring c h1 (by omega) h63 (by rw[List.length_cons];exact hn) h3).mono ?_;rintro e w' ⟨he,hr,ho⟩;rw[hd,Avv.rot_mod,hn,Avv.sum_slide] at he hr;rw[List.drop_succ_cons,List.drop_zero];refine⟨he,⟨_,_,?_,hs⟩,ho⟩;rw[List.length_append,List.length_singleton,<- hn];rw[<- hn] at hr;exact hr
theorem Ail (w:World) (b:Nat) (s:BitVec 32) (win:Nat) (L:List (BitVec 8)) (h:Dn w b s win L) :
  Calls prog 97 #[.pointer (some ⟨b,0,none⟩)] w fun e w'=>e=.returned (Af (Avv.sum s L))/\w=w':=by
 obtain⟨at_,ring,h1,h2⟩:=h;have h3:=h2.lt;have OK:=Vl w b win h1.win (by omega);have c1:=h1.x;generalize Avv.sum s L=X at *;clear h1 h2
 go_enter func97,ntmps97
 go_wp2_with fail
 refine OK.mono ?_;rintro e w' ⟨rfl,rfl⟩;go_wp2
 go_ret
 exact⟨rfl,rfl⟩
theorem Ak4 (w:World) (b:Nat) (s:BitVec 32) (win:Nat) (L:List (BitVec 8)) (h:Dn w b s win L) :
  Calls prog 98 #[.pointer (some ⟨b,0,none⟩)] w fun e w'=>e=.returned (.tuple #[])/\Dn w' b s win []/\D8 b w w':=by
 obtain⟨at_,ring,h1,h2⟩:=h;have h3:=h2.lt;have OK:=Vl w b win h1.win (by omega);have c1:=h1.n;have c2:=h1.at_;have c3:=h1.x;have c4:=h1.thawed 320;have c5:=h1.thawed 321;have c6:=h1.thawed 322;generalize Avv.sum s L=X at *;generalize L.length=n at *
 go_enter func98,ntmps98
 go_wp2_with fail
 refine OK.mono ?_;rintro e w' ⟨rfl,rfl⟩;go_wp2;refine bodyPost_end (results_none rfl _ _ _) rfl ⟨rfl,⟨0,ring,((h1.setN 0).setAt 0).setX 0#32,⟨Nat.zero_le _,by omega,fun i hi=>absurd hi (by simp)⟩⟩,?_⟩;exact((D8.set w b 320 _).trans (D8.set _ b 321 _)).trans (D8.set _ b 322 _)
def Hy:Array Value:=(List.replicate 256 (Af 0#32)++(List.replicate 63 (U8 0#8)++[.int .i64 0,.int .i64 0,.int .i64 0,Af 0#32])).toArray
theorem Ap9 (w:World):Sem.run prog (zeroValue 155) w=.ok (.agg Hy) w:=by kernel_rfl
theorem Aic (i:Nat) (h:i < 256):Hy[i]?=some (Af 0#32):=by
 unfold Hy;rw[List.getElem?_toArray,List.getElem?_append_left (by rw[List.length_replicate];exact h),List.getElem?_replicate,if_pos h]
theorem Aid (i:Nat) (h:i < 63):Hy[256+i]?=some (U8 0#8):=by
 unfold Hy;rw[List.getElem?_toArray,List.getElem?_append_right (by rw[List.length_replicate];omega),List.length_replicate,Nat.add_sub_cancel_left,List.getElem?_append_left (by rw[List.length_replicate];exact h),List.getElem?_replicate,if_pos h]
theorem Abx:∃Z:Array Value,(∀w,Sem.run prog (zeroValue 155) w=.ok (.agg Z) w)/\Z.size=323/\(∀i,i < 256->Z[i]?=some (Af 0#32))/\(∀i,i < 63->Z[256+i]?=some (U8 0#8))/\Z[319]?=some (.int .i64 0)/\Z[320]?=some (.int .i64 0)/\Z[321]?=some (.int .i64 0)/\Z[322]?=some (Af 0#32) :=
 ⟨Hy,Ap9,by kernel_rfl,Aic,Aid,by kernel_rfl,by kernel_rfl,by kernel_rfl,by kernel_rfl⟩
theorem De (w:World) (cs:Array Value) (E:TypeId) (i:Nat):(w.alloc (.cells cs E)).cell? ⟨w.heap.size,i,none⟩=cs[i]?:=by
 unfold World.cell?;rw[heap_alloc_new];simp
theorem R3 (w:World) (cs:Array Value) (E:TypeId) (i:Nat):(w.alloc (.cells cs E)).frozen? ⟨w.heap.size,i,none⟩=false:=by
 rw[RowKit.frozen?_alloc_cells];simp[World.frozen?]
structure Ob (w:World) (b:Nat) (s:BitVec 32) (win k:Nat):Prop where
 words:∀i,i < 256->∃v,w.cell? ⟨b,i,none⟩=some v/\(i < k->v=Af (Avv.word s (BitVec.ofNat 8 i)))
 ring:∀i,i < 63->w.cell? ⟨b,256+i,none⟩=some (U8 0#8)
 win:w.cell? ⟨b,319,none⟩=some (.int .i64 win)
 n:w.cell? ⟨b,320,none⟩=some (.int .i64 (0:Nat))
 at_:w.cell? ⟨b,321,none⟩=some (.int .i64 (0:Nat))
 x:w.cell? ⟨b,322,none⟩=some (Af 0#32)
 thawed:∀o,w.frozen? ⟨b,o,none⟩=false
section
variable {w:World} {b:Nat} {s:BitVec 32} {win k:Nat}
theorem Ob.drewN (h:Ob w b s win k) (m:Nat):Ob (w.drewN m) b s win k:=⟨h.words,h.ring,h.win,h.n,h.at_,h.x,h.thawed⟩
theorem Ob.step (h:Ob w b s win k) (hk:k < 256):Ob (w.setCell ⟨b,k,none⟩ (Af (Avv.word s (BitVec.ofNat 8 k)))) b s win (k+1) :=
 ⟨fun i hi=>by
   by_cases e:i=k
   ·subst e;obtain⟨v,hv,_⟩:=h.words i hi;exact⟨_,Kq hv,fun _=>rfl⟩
   ·obtain⟨v,hv,hw⟩:=h.words i hi;exact⟨v,Aq hv e,fun h2=>hw (by omega)⟩,
  fun i hi=>Aq (h.ring i hi) (by omega),Aq h.win (by omega),Aq h.n (by omega),Aq h.at_ (by omega),Aq h.x (by omega),fun o=>by rw[World.frozen?_setCell];exact h.thawed o⟩
theorem Ob.done (h:Ob w b s win 256) (hw:0 < win):Dn w b s win [] :=
 ⟨0,fun _=>0#8,⟨fun i hi=>by obtain⟨v,hv,e⟩:=h.words i hi;rw[hv,e hi],h.ring,h.win,h.n,h.at_,h.x,h.thawed⟩,⟨Nat.zero_le _,hw,fun i hi=>absurd hi (by simp)⟩⟩
end
theorem Akp (w:World) (s:BitVec 32) (win:Nat) (Z:Array Value) (T:TypeId) (hs:Z.size=323) (zw:∀i,i < 256->Z[i]?=some (Af 0#32)) (zr:∀i,i < 63->Z[256+i]?=some (U8 0#8)) (z1:Z[320]?=some (.int .i64 0)) (z2:Z[321]?=some (.int .i64 0)) (z3:Z[322]?=some (Af 0#32)) :
  Ob (w.alloc (.cells (Z.setIfInBounds 319 (.int .i64 win)) T)) w.heap.size s win 0:=by
 refine⟨fun i hi=>⟨Af 0#32,?_,fun h=>absurd h (by omega)⟩,fun i hi=>?_,?_,?_,?_,?_,fun o=>R3 w _ T o⟩
 ·rw[De,Array.getElem?_setIfInBounds_ne (by omega)];exact zw i hi
 ·rw[De,Array.getElem?_setIfInBounds_ne (by omega)];exact zr i hi
 ·rw[De,Array.getElem?_setIfInBounds_self_of_lt (by omega)]
 ·rw[De,Array.getElem?_setIfInBounds_ne (by omega)];exact z1
 ·rw[De,Array.getElem?_setIfInBounds_ne (by omega)];exact z2
 ·rw[De,Array.getElem?_setIfInBounds_ne (by omega)];exact z3
theorem Aez (s:BitVec 32) (c:BitVec 8) (w:World) (n:Nat):Calls prog 95 #[Af s,U8 c] (w.drewN n) fun e w''=>e=.returned (Af (Avv.word s c))/\∃m,w''=w.drewN m :=
 (Alm s c _).mono fun _ _ ⟨he,hw⟩=>⟨he,n,hw.symm⟩
def Ap2 (w:World) (s:BitVec 32) (win:Nat) (i:Value) (wr:World):Prop:=∃k:Nat,k<=256/\i=.int .i64 k/\Ob wr w.heap.size s win k/\Below w.heap.size w wr
end Go.Proofs.YtbicafgmfgdckaaGreatDoor
