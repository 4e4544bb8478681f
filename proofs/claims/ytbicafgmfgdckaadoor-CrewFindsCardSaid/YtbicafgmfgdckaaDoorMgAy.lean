/- each, by main. A lone world out of the company's: what may be touched is kept where it is alike to itself, all else says nothing. For any program. Words of 8, 32 and 64 bits as values of the model, and what each operation on them gives: for any program. Rows of bytes in memory, as lists of words of 8 bits: for any program. -/
import Derived.Test.YtbicafgmfgdckaaDoorMgAx
import Derived.Test.YtbicafgmfgdckaaDoorMgAg
import Derived.WalkKit
import Derived.WalkLawsBesides
import Derived.WalkSpells
import Derived.Laws.AppendOwnNone
import Derived.WalkSmall
namespace Go.Proofs.YtbicafgmfgdckaaDoor
open Go Go.RowKit Go.Conc Go.Conc.Lib Go.ConcR.Gen
open Go.ConcR (KK wgBlock WgAt stA smA rd wr mk DC0)
open Go.ConcN (sumTo upd upd_same upd_ne RelBy PermW WgLive)
section
variable {top:Nat} {γ γ' γ2:Gho} {p:Ph} {w w' w2:World} {i j k n W0:Nat} {Post:Value->World->Prop} {es:Array Event} {g g':Goroutine}
theorem Solo.over (hI:GInv wgLink.tWg top γ w) (hp:γ.ph=some p) (hf:p.f=0) (hd:γ.deaf 0=0):Solo γ.over w:=by
 have nocol:γ.col=none:=by
  cases hc:γ.col with
  | none=>rfl
  | some c=>have:=(hI.mate p c hp hc).1;have:=(hI.coll c hc).f.1;omega
 refine⟨rfl,nocol,by show upd γ.tag 0 Tag.solo 0=_;exact upd_same _ _ _,hd,hI.hs,fun b hb=>?_⟩
 cases q:γ.bk b with
 | shd s=>exact .inr (.inl ⟨s,over_shd.2 q⟩)
 | lock=>exact .inr (.inr (over_lock.2 q))
 | _=>exact .inl (over_not (by rw[q];simp) (by rw[q];simp))
theorem past_main (hf:p.f=0):γ.past p=γ.over:=by unfold Gho.past;rw[if_pos hf]
theorem enter_bk {kind:Kind} {out:Nat} {γE:Gho} (hk:p.kind=kind) (ho:p.out=out) (hf:p.f=0) {b:Nat} (hb:b < γE.hs) (h:γE.bk b=.priv 0\/(∃s,γE.bk b=.shd s)\/γE.bk b=.lock) (hout:kind=.fill->γE.bk out=.priv 0) :
  (∃s,γE.bk b=.shd s/\(γE.enter p (EachFx 0 kind out γE)).bk b=.shd s)\/(γE.bk b=.lock/\(γE.enter p (EachFx 0 kind out γE)).bk b=.lock)\/(γE.bk b=.priv 0/\(((γE.enter p (EachFx 0 kind out γE)).bk b=.fix 0/\¬(kind=.fill/\b=out))\/((γE.enter p (EachFx 0 kind out γE)).bk b=.mix/\kind=.fill/\b=out))):=by
 subst hk ho
 have no:∀y,γE.bk b=y->y≠.priv 0->(γE.enter p (EachFx 0 p.kind p.out γE)).bk b=y:=fun y e hy=>by
  simp only[Gho.enter]
  rw[if_neg (fun r=>by have r2:=r.2.1;rw[e] at r2;exact hy r2),if_neg (fun r=>by have r2:=hout r.1;rw[<- r.2,e] at r2;exact hy r2)]
  exact e
 rcases h with e|⟨s,e⟩|e
 ·right;right
  refine⟨e,?_⟩
  by_cases q:p.kind=.fill/\b=p.out
  ·right
   refine⟨?_,q⟩
   simp only[Gho.enter]
   rw[if_neg (fun r=>r.2.2 q),if_pos q]
  ·left
   refine⟨?_,q⟩
   simp only[Gho.enter]
   rw[if_pos ⟨hb,e,q⟩,hf]
 ·exact .inl ⟨s,e,no _ e (by simp)⟩
 ·exact .inr (.inl ⟨e,no _ e (by simp)⟩)
theorem lives_each0 {f:FuncId} {fn:Func} {cd:Code} {caps:Array Value} {c:Frame} {cs:List Frame} {kind:Kind} {out:Nat} {oty:TypeId} {val:Nat->Nat->Value} {hit:Nat->Prop} (s0:Solo γ w) (hff:Tryd.prog.funcs[f]?=some fn) (hfb:fn.body=some cd) (hfn:(fn.name == "runtime.NumGoroutine")=false)
  (hn:n<=1000) (hW:1<=W0) (hW2:W0<=1000) (hcnt:γ.cnt+W0<=top) (hkh:kind≠.hand) (hsk:kind=.seek->W0<=16/\(out < γ.hs/\γ.bk out=.lock)/\w.heap[out]?=some (.cells #[.int .i32 0,.int .u32 0,.int .i64 (-1)] oty (0,0))) (ho:kind=.fill->(out < γ.hs/\γ.bk out=.priv 0)/\∃cells,w.heap[out]?=some (.cells cells oty (0,0))/\cells.size=32 * n)
  (hjob:∀p γ' w' i,p.b<=i->i≠0->p.n=n->p.out=out->p.oty=oty->p.val=val->p.kind=kind->p.hit=hit->(∀b,b < γ.hs->γ.bk b=.priv 0->¬(kind=.fill/\b=out)->γ'.F i b/\p.H b=w.heap[b]?)->γ.hs<=γ'.hs->Job p top Post i γ' w' f caps)
  (hK:∀p γ6 w6 γ' w',Solo γ' w'->γ.hs<=γ'.hs->γ'.cnt=γ.cnt+W0->(∀b,b < γ.hs->γ'.bk b=γ.bk b)->(∀b,b < γ.hs->γ.bk b=.priv 0->¬(kind=.fill/\b=out)->w'.heap[b]?=w.heap[b]?)->w'.tape=w.tape ->
   p.n=n->p.out=out->p.oty=oty->p.val=val->p.kind=kind->p.hit=hit->w'.heap=w6.heap->Done p γ6 w6->LV Tryd.prog wgLink.tWg top Post 0 γ' w' (G (c.finish (.tuple #[])) cs)) :
  LV Tryd.prog wgLink.tWg top Post 0 γ w (G ((base 19).at ⟨#[.int .i64 n,.int .i64 W0,.func (.func f) #[] caps]++Array.replicate 20 undef,[]⟩ [.code (Tryd.f19.body.getD .skip)]) (c::cs)):=by
 refine lives_each_any (kind:=kind) (hit:=hit) s0.lon hff hfb hfn hn hW hW2 hcnt (.inl ⟨s0.col,hkh⟩) (fun e=>⟨(hsk e).1,rfl,(hsk e).2⟩) ho (fun p γ' w' j h1 h2 h3 h4 h5 h6 h7 h8 h8b h9 h10 _=>hjob p γ' w' j h2 h3 h4 h5 h6 h7 h8 h8b (fun b hb q hne=>h9 b hb (.inl ⟨q,hne⟩)) h10) fun p γE wE γ6 w6 γ7 w7 sE L hf hb hW' hn' ho' hoty hval hkd hhit hH hk6 hp6 ht6 hd6 hI6 hrl7=>?_
 rw[past_main hf] at hrl7
 have so:=Solo.over hI6 hp6 hf hd6
 obtain⟨s7,g1,g2,g3,g5,g4⟩:=so.rel hrl7
 obtain⟨hDone,_⟩:=thru_done hI6 hp6 (by rw[hf];exact ht6)
 have h6hs:γE.hs<=γ6.hs:=hk6.hs
 have hLs:=L.hs
 have bkE:∀b,b < γ.hs->γE.bk b=γ.bk b:=fun b hb=>L.bk b hb fun j hj q=>by
  rcases s0.bk b hb with e|⟨s,e⟩|e<;>(rw[e] at q;cases q)
  exact hj rfl
 have shape:∀b,b < γ.hs->γE.bk b=.priv 0\/(∃s,γE.bk b=.shd s)\/γE.bk b=.lock:=fun b hb=>by rw[bkE b hb];exact s0.bk b hb
 have kinds:=fun b (hb:b < γ.hs)=>enter_bk (p:=p) hkd ho' hf (Nat.lt_of_lt_of_le hb hLs) (shape b hb) fun e=>(bkE _ (ho e).1.1).trans (ho e).1.2
 have keepbk:∀b,b < γ.hs->γ6.bk b=(γE.enter p (EachFx 0 kind out γE)).bk b:=fun b hb=>hk6.bk b (Nat.lt_of_lt_of_le hb hLs) fun j hj q=>by
  rcases kinds b hb with⟨s,_,e⟩|⟨_,e⟩|⟨_,⟨e,_⟩|⟨e,_⟩⟩<;>(rw[e] at q;cases q)
 refine hK p γ6 w6 γ7 w7 s7 (by have q:γ7.hs=γ6.hs:=g3;omega) ?_ (fun b hb=>?_) (fun b hb hpv hne=>?_) (by rw[g2,hk6.tape,L.tape]) hn' ho' hoty hval hkd hhit g1 hDone
 ·have h1:=(hI6.core _ hp6).cnt
  unfold Gho.started at h1
  rw[show γ6.tag p.f=.thru by rw[hf];exact ht6] at h1
  rw[g5]
  show γ6.cnt=_
  rw[h1,hb,L.cnt,hW']
 ·rw[g4 b (by show b < γ6.hs;omega)]
  rcases kinds b hb with⟨s,e1,e⟩|⟨e1,e⟩|⟨e1,e⟩
  ·rw[over_shd.2 ((keepbk b hb).trans e),<- bkE b hb,e1]
  ·rw[over_lock.2 ((keepbk b hb).trans e),<- bkE b hb,e1]
  ·have no:∀y,γ6.bk b=y->y=.fix 0\/y=.mix:=fun y q=>by
    rw[keepbk b hb] at q
    rcases e with⟨e,_⟩|⟨e,_⟩
    ·exact .inl (q.symm.trans e)
    ·exact .inr (q.symm.trans e)
   rw[over_not (fun s q=>by rcases no _ q with r|r<;>cases r) (fun q=>by rcases no _ q with r|r<;>cases r),<- bkE b hb,e1]
 ·have e0:γE.bk b=.priv 0:=(bkE b hb).trans hpv
  have e2:(γE.enter p (EachFx 0 kind out γE)).bk b=.fix 0:=by
   rcases kinds b hb with⟨s,e1,_⟩|⟨e1,_⟩|⟨_,⟨e,_⟩|⟨_,q⟩⟩
   ·rw[e0] at e1;cases e1
   ·rw[e0] at e1;cases e1
   ·exact e
   ·exact absurd q hne
  rw[g1,hDone.fix b 0 (by omega) ((keepbk b hb).trans e2),hH b]
  exact L.heap b hb (Nat.not_le.2 hb) (.inl hpv)
theorem lives_each {f:FuncId} {fn:Func} {cd:Code} {caps:Array Value} {c:Frame} {cs:List Frame} {out:Nat} {oty:TypeId} {val:Nat->Nat->Value} (s0:Solo γ w) (hff:Tryd.prog.funcs[f]?=some fn) (hfb:fn.body=some cd) (hfn:(fn.name == "runtime.NumGoroutine")=false)
  (hn:n<=1000) (hW:1<=W0) (hW2:W0<=1000) (hcnt:γ.cnt+W0<=top) (ho:out < γ.hs/\γ.bk out=.priv 0) (hoc:∃cells,w.heap[out]?=some (.cells cells oty (0,0))/\cells.size=32 * n)
  (hjob:∀p γ' w' i,p.b<=i->i≠0->p.n=n->p.out=out->p.oty=oty->p.val=val->p.kind=.fill->(∀b,b < γ.hs->γ.bk b=.priv 0->b≠out->γ'.F i b/\p.H b=w.heap[b]?)->γ.hs<=γ'.hs->Job p top Post i γ' w' f caps)
  (hK:∀γ' w',Solo γ' w'->γ.hs<=γ'.hs->γ'.cnt=γ.cnt+W0->(∀b,b < γ.hs->γ'.bk b=γ.bk b)->(∀b,b < γ.hs->γ.bk b=.priv 0->b≠out->w'.heap[b]?=w.heap[b]?)->w'.tape=w.tape ->
   (∃cells,w'.heap[out]?=some (.cells cells oty (0,0))/\cells.size=32 * n/\∀x,x < n->∀o,o < 32->cells[32 * x+o]?=some (val x o))->LV Tryd.prog wgLink.tWg top Post 0 γ' w' (G (c.finish (.tuple #[])) cs)) :
  LV Tryd.prog wgLink.tWg top Post 0 γ w (G ((base 19).at ⟨#[.int .i64 n,.int .i64 W0,.func (.func f) #[] caps]++Array.replicate 20 undef,[]⟩ [.code (Tryd.f19.body.getD .skip)]) (c::cs)):=by
 refine lives_each0 (kind:=.fill) (hit:=fun _=>False) s0 hff hfb hfn hn hW hW2 hcnt (by simp) (fun e=>by cases e) (fun _=>⟨ho,hoc⟩) (fun p γ' w' j h2 h3 h4 h5 h6 h7 h8 _ h9 h10=>hjob p γ' w' j h2 h3 h4 h5 h6 h7 h8 (fun b hb q hne=>h9 b hb q fun r=>hne r.2) h10) fun p γ6 w6 γ' w' h1 h2 h3 h4 h5 h6 hn' ho' hoty hval hkd _ e hD=>?_
 refine hK γ' w' h1 h2 h3 h4 (fun b hb q hne=>h5 b hb q fun r=>hne r.2) h6 ?_
 rw[e]
 have:=hD.out hkd
 rw[ho',hoty,hn',hval] at this
 exact this
theorem lives_each_seek {f:FuncId} {fn:Func} {cd:Code} {caps:Array Value} {c:Frame} {cs:List Frame} {out:Nat} {oty:TypeId} {hit:Nat->Prop} (s0:Solo γ w) (hff:Tryd.prog.funcs[f]?=some fn) (hfb:fn.body=some cd) (hfn:(fn.name == "runtime.NumGoroutine")=false)
  (hn:n<=1000) (hW:1<=W0) (hW2:W0<=16) (hcnt:γ.cnt+W0<=top) (ho:out < γ.hs/\γ.bk out=.lock) (hoc:w.heap[out]?=some (.cells #[.int .i32 0,.int .u32 0,.int .i64 (-1)] oty (0,0)))
  (hjob:∀p γ' w' i,p.b<=i->i≠0->p.n=n->p.out=out->p.oty=oty->p.kind=.seek->p.hit=hit->(∀b,b < γ.hs->γ.bk b=.priv 0->γ'.F i b/\p.H b=w.heap[b]?)->γ.hs<=γ'.hs->Job p top Post i γ' w' f caps)
  (hK:∀γ' w',Solo γ' w'->γ.hs<=γ'.hs->γ'.cnt=γ.cnt+W0->(∀b,b < γ.hs->γ'.bk b=γ.bk b)->(∀b,b < γ.hs->γ.bk b=.priv 0->w'.heap[b]?=w.heap[b]?)->w'.tape=w.tape ->
   (∃(m:Nat) (v:Int) (a b:Value),w'.heap[out]?=some (.cells #[a,b,.int .i64 v] oty (0,0))/\BestV (fun x=>hit x/\x < m) v/\(m=n\/∃x,hit x/\x < m))->LV Tryd.prog wgLink.tWg top Post 0 γ' w' (G (c.finish (.tuple #[])) cs)) :
  LV Tryd.prog wgLink.tWg top Post 0 γ w (G ((base 19).at ⟨#[.int .i64 n,.int .i64 W0,.func (.func f) #[] caps]++Array.replicate 20 undef,[]⟩ [.code (Tryd.f19.body.getD .skip)]) (c::cs)):=by
 refine lives_each0 (kind:=.seek) (out:=out) (oty:=oty) (val:=fun _ _=>undef) (hit:=hit) s0 hff hfb hfn hn hW (by omega) hcnt (by simp) (fun _=>⟨hW2,ho,hoc⟩) (fun e=>by cases e) (fun p γ' w' j h2 h3 h4 h5 h6 _ h8 h8b h9 h10=>hjob p γ' w' j h2 h3 h4 h5 h6 h8 h8b (fun b hb q=>h9 b hb q fun r=>by cases r.1) h10) fun p γ6 w6 γ' w' h1 h2 h3 h4 h5 h6 hn' ho' hoty hval hkd hhit e hD=>?_
 refine hK γ' w' h1 h2 h3 h4 (fun b hb q=>h5 b hb q fun r=>by cases r.1) h6 ?_
 rw[e]
 obtain⟨_,q2,v,a,b,q3,q4,q5⟩:=hD.seek hkd
 rw[ho',hoty] at q3
 rw[hhit] at q4 q5
 rw[hn'] at q2
 refine⟨γ6.next,v,a,b,q3,q4,?_⟩
 cases hs:γ6.stp with
 | true=>exact .inr (q5 hs)
 | false=>exact .inl (q2 hs)
end
end Go.Proofs.YtbicafgmfgdckaaDoor
namespace Go.Proofs.YtbicafgmfgdckaaDoor
open Go Go.Conc
theorem exists_vr (ρ:Ren):∀v:Value,∃u,VR ρ u v
 | .agg cs=>by
  have h:∀i (hi:i < cs.size),∃u,VR ρ u cs[i]:=fun i hi=>exists_vr ρ cs[i]
  refine⟨.agg (Array.ofFn fun i:Fin cs.size=>(h i.1 i.2).choose),.agg (by simp) fun i h1 h2=>?_⟩
  rw[Array.getElem_ofFn]
  exact(h i h2).choose_spec
 | .tuple cs=>by
  have h:∀i (hi:i < cs.size),∃u,VR ρ u cs[i]:=fun i hi=>exists_vr ρ cs[i]
  refine⟨.tuple (Array.ofFn fun i:Fin cs.size=>(h i.1 i.2).choose),.tuple (by simp) fun i h1 h2=>?_⟩
  rw[Array.getElem_ofFn]
  exact(h i h2).choose_spec
 | .bool b=>⟨.bool b,.bool b⟩
 | .int .. | .float .. | .complex .. | .string .. | .pointer .. | .slice .. | .func .. | .nilFunc | .iface .. | .nilIface | .map .. | .chan ..=>⟨.nilIface,.nilIface _ rfl⟩
def voidA:Addr:=⟨0,0,some 0⟩
open Classical in
noncomputable def tameV (ρ:Ren) (v:Value):Value:=if VR ρ v v then v else match v with
 | .slice (some _) 0 0=>.slice (some voidA) 0 0
 | v=>(exists_vr ρ v).choose
theorem vr_tame (ρ:Ren) (v:Value):VR ρ (tameV ρ v) v:=by
 unfold tameV
 split
 ·assumption
 ·split
  ·exact .slz rfl
  ·exact(exists_vr ρ _).choose_spec
theorem tame_self {ρ:Ren} {v:Value} (h:VR ρ v v):tameV ρ v=v:=by unfold tameV;rw[if_pos h]
open Classical in
noncomputable def loneObj (ρ:Ren) (F:Nat->Prop) (b:Nat):Obj->Obj
 | .cells cs t _=>.cells (cs.map (tameV ρ)) t (if F b then (0,cs.size) else (0,0))
 | _=>.cells #[] 0 (0,0)
noncomputable def loneW (ρ:Ren) (F:Nat->Prop) (W:World):World:={ W with heap:=W.heap.mapIdx (loneObj ρ F) }
section
variable {ρ:Ren} {F T:Nat->Prop} {W:World} {gs:Nat}
theorem lone_size:(loneW ρ F W).heap.size=W.heap.size:=by simp[loneW]
theorem lone_get (b:Nat):(loneW ρ F W).heap[b]?=(W.heap[b]?).map (loneObj ρ F b):=by simp[loneW]
theorem lone_cell {a:Addr} {v:Value} (h:W.cell? a=some v) (hv:VR ρ v v):(loneW ρ F W).cell? a=some v:=by
 unfold World.cell? at h ⊢
 rw[lone_get]
 cases hb:W.heap[a.block]? with
 | none=>rw[hb] at h;cases h
 | some o =>
  rw[hb] at h
  cases o with
  | cells cs t fr =>
   show (if a.spot.isSome then none else (cs.map (tameV ρ))[a.off]?)=_
   dsimp only at h
   split at h
   ·cases h
   ·rename_i hs
    rw[if_neg hs,Array.getElem?_map,h,Option.map_some,tame_self hv]
  | _=>cases h
theorem tame_void {ρ:Ren} (x:Addr):∃ad,tameV ρ (.slice (some x) 0 0)=.slice (some ad) 0 0:=by
 unfold tameV
 split
 ·exact⟨x,rfl⟩
 ·exact⟨voidA,rfl⟩
theorem lone_cell_tame {a:Addr} {v:Value} (h:W.cell? a=some v):(loneW ρ F W).cell? a=some (tameV ρ v):=by
 unfold World.cell? at h ⊢
 rw[lone_get]
 cases hb:W.heap[a.block]? with
 | none=>rw[hb] at h;cases h
 | some o =>
  rw[hb] at h
  cases o with
  | cells cs t fr =>
   show (if a.spot.isSome then none else (cs.map (tameV ρ))[a.off]?)=_
   dsimp only at h
   split at h
   ·cases h
   ·rename_i hs
    rw[if_neg hs,Array.getElem?_map,h,Option.map_some]
  | _=>cases h
def diag (T:Nat->Prop):Ren:=fun a b=>a=b/\T b
open Classical in
theorem wr_lone (hF:∀b,F b->b < W.heap.size) (hg:gs<=W.heap.size) (hT:∀b,T b->∃cs t fr,W.heap[b]?=some (.cells cs t fr)/\(¬F b->fr=(0,0))):WR gs F (diag T) (re (loneW (diag T) F W) W.tape W.drawn) W:=by
 refine⟨rfl,rfl,fun a b c h h'=>h.1.symm.trans h'.1,fun a b c h h'=>h.1.trans h'.1.symm,hF,fun a b h _=>h.1,?_,fun b o e=>?_,fun a b h=>?_⟩
 ·show gs<=(loneW (diag T) F W).heap.size
  rw[lone_size];exact hg
 ·have e2:(loneW (diag T) F W).heap[b]?=some o:=e
  rw[lone_get] at e2
  cases hb:W.heap[b]? with
  | none=>rw[hb] at e2;cases e2
  | some o2 =>
   rw[hb] at e2
   simp only[Option.map_some,Option.some.injEq] at e2
   subst e2
   cases o2<;>exact .inl ⟨_,_,_,rfl⟩
 ·obtain⟨rfl,hb⟩:=h
  obtain⟨cs,t,fr,e,hfr⟩:=hT a hb
  have e2:(re (loneW (diag T) F W) W.tape W.drawn).heap[a]?=some (loneObj (diag T) F a (.cells cs t fr)):=by
   show (loneW (diag T) F W).heap[a]?=_
   rw[lone_get,e];rfl
  refine⟨_,_,e2,e,?_⟩
  show t=t/\VsR (diag T) (cs.map (tameV (diag T))) cs/\(F a->∀o,o < (cs.map (tameV (diag T))).size->(if F a then (0,cs.size) else (0,0)).1<=o/\o < (if F a then (0,cs.size) else (0,0)).2)/\(¬F a->(if F a then (0,cs.size) else (0,0))=(0,0)/\fr=(0,0))
  refine⟨rfl,⟨by simp,fun i h1 h2=>?_⟩,fun hFa o ho=>?_,fun hFa=>?_⟩
  ·rw[Array.getElem_map]
   exact vr_tame _ _
  ·rw[if_pos hFa]
   rw[Array.size_map] at ho
   exact⟨Nat.zero_le _,ho⟩
  ·rw[if_neg hFa]
   exact⟨rfl,hfr hFa⟩
end
end Go.Proofs.YtbicafgmfgdckaaDoor
namespace Go.Proofs.YtbicafgmfgdckaaDoor
open Go

theorem ofInt_toNat (n:Nat) (x:BitVec n):BitVec.ofInt n (x.toNat:Int)=x:=by
 rw[BitVec.ofInt_natCast,BitVec.ofNat_toNat,BitVec.setWidth_eq]
theorem wrap_u32_nat (n:Nat):IntKind.u32.wrap (n:Int)=((n % 4294967296:Nat):Int):=by rw[IntKind.wrap_u32'];omega
theorem wrap_u64_nat (n:Nat):IntKind.u64.wrap (n:Int)=((n % 18446744073709551616:Nat):Int):=by rw[IntKind.wrap_u64];omega
theorem wrap_u8_bv (n:Int):IntKind.u8.wrap n=((BitVec.ofInt 8 n).toNat:Int):=by rw[IntKind.wrap_u8',BitVec.toNat_ofInt];omega
theorem wrap_u32_bv (n:Int):IntKind.u32.wrap n=((BitVec.ofInt 32 n).toNat:Int):=by rw[IntKind.wrap_u32',BitVec.toNat_ofInt];omega
theorem wrap_u64_bv (n:Int):IntKind.u64.wrap n=((BitVec.ofInt 64 n).toNat:Int):=by rw[IntKind.wrap_u64,BitVec.toNat_ofInt];omega
def U8 (x:BitVec 8):Value:=.int .u8 x.toNat
def U32 (x:BitVec 32):Value:=.int .u32 x.toNat
def U64 (x:BitVec 64):Value:=.int .u64 x.toNat


section
variable (t:TypeId) (x y:BitVec 8) (n:Int)
theorem u8_of (h0:0<=n) (h1:n < 256):Value.int .u8 n=U8 (BitVec.ofInt 8 n):=by
 rw[U8,BitVec.toNat_ofInt];congr 1;omega
theorem u8_store (P:Program) (w:World) (a:Addr) (m:Go.Mode):(store a (U8 x) m).run P w=stored P w a (U8 x) m:=run_store P w a _ m rfl
attribute [go_sem] u8_store
theorem u8_cells:(U8 x).cells=#[U8 x]:=rfl
theorem u8_one:(U8 x).oneCell'=true:=rfl
theorem u8_match:Value.cells.match_1 (motive:=fun _=>Array Value) (U8 x) (fun cs=>cs) (fun v=>#[v])=#[U8 x]:=rfl
attribute [go_sem ↓ high] u8_cells u8_one
attribute [go_sem] u8_match
theorem u8_storeVar (a:Addr):storeVar t a (U8 x)=(do
  if 1≠(<- sizeOf t) then stuck "storeVar: the value has not the size of the variable"
  store a (U8 x)):=by
 unfold storeVar
 have e:storeCells a (U8 x).cells.toList=store a (U8 x):=by
  show (store (a.add 0) (U8 x) >>= fun _=>pure ())=_
  rw[show a.add 0=a from rfl]
  exact bind_pure_unit
 rw[e];rfl
attribute [go_sem ↓ high] u8_storeVar
theorem u8_guard (op:BinOp) (p q:Operand) (v:Value):eqGuard op t p q (U8 x) v=pure ():=by
 cases op<;>rfl
attribute [go_sem high] u8_guard
end

section
variable (t:TypeId) (x y:BitVec 32) (n:Int)
theorem u32_back (r:BitVec 32):Value.int .u32 (IntKind.wrap .u32 r.toNat)=U32 r:=by
 have h:=r.isLt
 rw[wrap_u32_nat,Nat.mod_eq_of_lt h];rfl
theorem u32_and:binOp .and t (U32 x) (U32 y)=pure (U32 (x &&& y)):=by
 have h:binOp .and t (U32 x) (U32 y)=pure (.int .u32 (IntKind.wrap .u32 ((BitVec.ofInt 32 (x.toNat:Int)) &&& (BitVec.ofInt 32 (y.toNat:Int))).toNat)):=rfl
 rw[h,u32_back];simp only[ofInt_toNat]
attribute [go_sem high] u32_and
theorem u32_or:binOp .or t (U32 x) (U32 y)=pure (U32 (x ||| y)):=by
 have h:binOp .or t (U32 x) (U32 y)=pure (.int .u32 (IntKind.wrap .u32 ((BitVec.ofInt 32 (x.toNat:Int)) ||| (BitVec.ofInt 32 (y.toNat:Int))).toNat)):=rfl
 rw[h,u32_back];simp only[ofInt_toNat]
attribute [go_sem high] u32_or
theorem u32_xor:binOp .xor t (U32 x) (U32 y)=pure (U32 (x ^^^ y)):=by
 have h:binOp .xor t (U32 x) (U32 y)=pure (.int .u32 (IntKind.wrap .u32 ((BitVec.ofInt 32 (x.toNat:Int)) ^^^ (BitVec.ofInt 32 (y.toNat:Int))).toNat)):=rfl
 rw[h,u32_back];simp only[ofInt_toNat]
attribute [go_sem high] u32_xor
theorem u32_xorc:binOp .xor t (U32 x) (.int .u32 n)=pure (U32 (x ^^^ BitVec.ofInt 32 n)):=by
 have h:binOp .xor t (U32 x) (.int .u32 n)=pure (.int .u32 (IntKind.wrap .u32 ((BitVec.ofInt 32 (x.toNat:Int)) ^^^ (BitVec.ofInt 32 n)).toNat)):=rfl
 rw[h,u32_back];simp only[ofInt_toNat]
attribute [go_sem high] u32_xorc
theorem u32_add:binOp .add t (U32 x) (U32 y)=pure (U32 (x+y)):=by
 have e:BitVec.ofInt 32 ((x.toNat:Int)+(y.toNat:Int))=x+y:=by rw[BitVec.ofInt_add];simp only[ofInt_toNat]
 have h:binOp .add t (U32 x) (U32 y)=pure (.int .u32 (IntKind.wrap .u32 ((x.toNat:Int)+(y.toNat:Int)))):=by simp[binOp,Op.intArith,U32]
 rw[h,wrap_u32_bv,e];rfl
attribute [go_sem high] u32_add
theorem u32_quoc (h0:0 < n) (h1:n < 4294967296):binOp .quo t (U32 x) (.int .u32 n)=pure (U32 (x / BitVec.ofInt 32 n)):=by
 obtain⟨m,rfl⟩:=Int.eq_ofNat_of_zero_le (Int.le_of_lt h0)
 have e:(x / BitVec.ofInt 32 (m:Int)).toNat=x.toNat / m:=by
  rw[BitVec.toNat_udiv,BitVec.ofInt_natCast,BitVec.toNat_ofNat,Nat.mod_eq_of_lt (show m < 2 ^ 32 by omega)]
 have h:binOp .quo t (U32 x) (.int .u32 (m:Int))=pure (.int .u32 (IntKind.wrap .u32 ((x.toNat:Int).tdiv m))):=by
  have hm:¬(m:Int)=0:=by omega
  show Op.intDiv .quo .u32 x.toNat (m:Int)=_
  unfold Op.intDiv;rw[if_neg hm]
 rw[h,show ((x.toNat:Int).tdiv m)=((x.toNat / m:Nat):Int) from rfl,<- e,u32_back]
attribute [go_sem high] u32_quoc
theorem u32_shr_nat (yk:IntKind) (m:Nat):binOp .shr t (U32 x) (.int yk (m:Int))=pure (U32 (x >>> m)):=by
 have h:binOp .shr t (U32 x) (.int yk (m:Int))=pure (.int .u32 ((x.toNat:Int) / 2 ^ min m 32)):=by
  show Op.shift .shr .u32 x.toNat yk (m:Int)=_
  rw[shift_shr_any _ _ _ _ (by omega)];rfl
 have e:((x.toNat:Int) / 2 ^ min m 32)=(((x >>> m).toNat:Nat):Int):=by
  have hp:((2:Int) ^ min m 32)=((2 ^ min m 32:Nat):Int):=by simp
  rw[hp,BitVec.toNat_ushiftRight,Nat.shiftRight_eq_div_pow,<- Int.natCast_ediv]
  congr 1
  by_cases hm:m<=32
  ·rw[Nat.min_eq_left hm]
  ·rw[Nat.min_eq_right (by omega),Nat.div_eq_of_lt x.isLt,Nat.div_eq_of_lt]
   exact Nat.lt_of_lt_of_le x.isLt (Nat.pow_le_pow_right (by decide) (by omega))
 rw[h,e];rfl
theorem u32_shl_nat (yk:IntKind) (m:Nat):binOp .shl t (U32 x) (.int yk (m:Int))=pure (U32 (x <<< m)):=by
 have h:binOp .shl t (U32 x) (.int yk (m:Int))=pure (.int .u32 (IntKind.wrap .u32 ((x.toNat:Int) * 2 ^ min m 32))):=by
  show Op.shift .shl .u32 x.toNat yk (m:Int)=_
  rw[shift_shl_any _ _ _ _ (by omega)];rfl
 have e:((x.toNat:Int) * 2 ^ min m 32)=((x.toNat * 2 ^ min m 32:Nat):Int):=by
  have hp:((2:Int) ^ min m 32)=((2 ^ min m 32:Nat):Int):=by simp
  rw[hp,Int.natCast_mul]
 have e2:x.toNat * 2 ^ min m 32 % 4294967296=(x <<< m).toNat:=by
  rw[BitVec.toNat_shiftLeft,Nat.shiftLeft_eq]
  by_cases hm:m<=32
  ·rw[Nat.min_eq_left hm]
  ·obtain⟨j,rfl⟩:∃j,m=32+j:=⟨m - 32,by omega⟩
   rw[Nat.min_eq_right (by omega),Nat.pow_add,Nat.mul_comm (2 ^ 32) (2 ^ j),<- Nat.mul_assoc,Nat.mul_mod_left]
   exact(Nat.mul_mod_left _ _).symm
 rw[h,e,wrap_u32_nat,e2];rfl
theorem u32_shrc (yk:IntKind) (h:0<=n):binOp .shr t (U32 x) (.int yk n)=pure (U32 (x >>> n.toNat)):=by
 obtain⟨m,rfl⟩:=Int.eq_ofNat_of_zero_le h
 exact u32_shr_nat t x yk m
theorem u32_shlc (yk:IntKind) (h:0<=n):binOp .shl t (U32 x) (.int yk n)=pure (U32 (x <<< n.toNat)):=by
 obtain⟨m,rfl⟩:=Int.eq_ofNat_of_zero_le h
 exact u32_shl_nat t x yk m
attribute [go_sem high] u32_shrc u32_shlc
theorem u32_not:Op.unary .xor (U32 x)=pure (U32 (~~~ x)):=by
 have e:(BitVec.ofInt 32 (IntKind.max .u32)) ^^^ x = ~~~ x:=by
  have:(BitVec.ofInt 32 (IntKind.max .u32))=BitVec.allOnes 32:=by decide
  rw[this,BitVec.allOnes_xor]
 show (pure (Value.int .u32 (IntKind.wrap .u32 ((BitVec.ofInt 32 (IntKind.max .u32)) ^^^ (BitVec.ofInt 32 (x.toNat:Int))).toNat)):Sem Value)=_
 rw[ofInt_toNat,e,u32_back]
attribute [go_sem high] u32_not
theorem u32_store (P:Program) (w:World) (a:Addr) (m:Go.Mode):(store a (U32 x) m).run P w=stored P w a (U32 x) m:=run_store P w a _ m rfl
attribute [go_sem] u32_store
theorem u32_cells:(U32 x).cells=#[U32 x]:=rfl
theorem u32_one:(U32 x).oneCell'=true:=rfl
theorem u32_match:Value.cells.match_1 (motive:=fun _=>Array Value) (U32 x) (fun cs=>cs) (fun v=>#[v])=#[U32 x]:=rfl
attribute [go_sem ↓ high] u32_cells u32_one
attribute [go_sem] u32_match
theorem u32_storeVar (a:Addr):storeVar t a (U32 x)=(do
  if 1≠(<- sizeOf t) then stuck "storeVar: the value has not the size of the variable"
  store a (U32 x)):=by
 unfold storeVar
 have e:storeCells a (U32 x).cells.toList=store a (U32 x):=by
  show (store (a.add 0) (U32 x) >>= fun _=>pure ())=_
  rw[show a.add 0=a from rfl]
  exact bind_pure_unit
 rw[e];rfl
attribute [go_sem ↓ high] u32_storeVar
theorem u32_guard (op:BinOp) (p q:Operand) (v:Value):eqGuard op t p q (U32 x) v=pure ():=by
 cases op<;>rfl
attribute [go_sem high] u32_guard
end

section
variable (t:TypeId) (x y:BitVec 64) (n:Int)
theorem u64_back (r:BitVec 64):Value.int .u64 (IntKind.wrap .u64 r.toNat)=U64 r:=by
 have h:=r.isLt
 rw[wrap_u64_nat,Nat.mod_eq_of_lt h];rfl
theorem u64_or:binOp .or t (U64 x) (U64 y)=pure (U64 (x ||| y)):=by
 have h:binOp .or t (U64 x) (U64 y)=pure (.int .u64 (IntKind.wrap .u64 ((BitVec.ofInt 64 (x.toNat:Int)) ||| (BitVec.ofInt 64 (y.toNat:Int))).toNat)):=rfl
 rw[h,u64_back];simp only[ofInt_toNat]
attribute [go_sem high] u64_or
theorem u64_add:binOp .add t (U64 x) (U64 y)=pure (U64 (x+y)):=by
 have e:BitVec.ofInt 64 ((x.toNat:Int)+(y.toNat:Int))=x+y:=by rw[BitVec.ofInt_add];simp only[ofInt_toNat]
 have h:binOp .add t (U64 x) (U64 y)=pure (.int .u64 (IntKind.wrap .u64 ((x.toNat:Int)+(y.toNat:Int)))):=by simp[binOp,Op.intArith,U64]
 rw[h,wrap_u64_bv,e];rfl
attribute [go_sem high] u64_add
theorem u64_mulc:binOp .mul t (U64 x) (.int .u64 n)=pure (U64 (x * BitVec.ofInt 64 n)):=by
 have e:BitVec.ofInt 64 ((x.toNat:Int) * n)=x * BitVec.ofInt 64 n:=by rw[BitVec.ofInt_mul];simp only[ofInt_toNat]
 have h:binOp .mul t (U64 x) (.int .u64 n)=pure (.int .u64 (IntKind.wrap .u64 ((x.toNat:Int) * n))):=by simp[binOp,Op.intArith,U64]
 rw[h,wrap_u64_bv,e];rfl
attribute [go_sem high] u64_mulc
theorem u64_quoc (h0:0 < n) (h1:n < 18446744073709551616):binOp .quo t (U64 x) (.int .u64 n)=pure (U64 (x / BitVec.ofInt 64 n)):=by
 obtain⟨m,rfl⟩:=Int.eq_ofNat_of_zero_le (Int.le_of_lt h0)
 have e:(x / BitVec.ofInt 64 (m:Int)).toNat=x.toNat / m:=by
  rw[BitVec.toNat_udiv,BitVec.ofInt_natCast,BitVec.toNat_ofNat,Nat.mod_eq_of_lt (show m < 2 ^ 64 by omega)]
 have h:binOp .quo t (U64 x) (.int .u64 (m:Int))=pure (.int .u64 (IntKind.wrap .u64 ((x.toNat:Int).tdiv m))):=by
  have hm:¬(m:Int)=0:=by omega
  show Op.intDiv .quo .u64 x.toNat (m:Int)=_
  unfold Op.intDiv;rw[if_neg hm]
 rw[h,show ((x.toNat:Int).tdiv m)=((x.toNat / m:Nat):Int) from rfl,<- e,u64_back]
theorem u64_remc (h0:0 < n) (h1:n < 18446744073709551616):binOp .rem t (U64 x) (.int .u64 n)=pure (U64 (x % BitVec.ofInt 64 n)):=by
 obtain⟨m,rfl⟩:=Int.eq_ofNat_of_zero_le (Int.le_of_lt h0)
 have e:(x % BitVec.ofInt 64 (m:Int)).toNat=x.toNat % m:=by
  rw[BitVec.toNat_umod,BitVec.ofInt_natCast,BitVec.toNat_ofNat,Nat.mod_eq_of_lt (show m < 2 ^ 64 by omega)]
 have h:binOp .rem t (U64 x) (.int .u64 (m:Int))=pure (.int .u64 ((x.toNat:Int).tmod m)):=by
  have hm:¬(m:Int)=0:=by omega
  show Op.intDiv .rem .u64 x.toNat (m:Int)=_
  unfold Op.intDiv;rw[if_neg hm]
 rw[h,show ((x.toNat:Int).tmod m)=((x.toNat % m:Nat):Int) from rfl,<- e];rfl
attribute [go_sem high] u64_quoc u64_remc
theorem u64_shr_nat (yk:IntKind) (m:Nat):binOp .shr t (U64 x) (.int yk (m:Int))=pure (U64 (x >>> m)):=by
 have h:binOp .shr t (U64 x) (.int yk (m:Int))=pure (.int .u64 ((x.toNat:Int) / 2 ^ min m 64)):=by
  show Op.shift .shr .u64 x.toNat yk (m:Int)=_
  rw[shift_shr_any _ _ _ _ (by omega)];rfl
 have e:((x.toNat:Int) / 2 ^ min m 64)=(((x >>> m).toNat:Nat):Int):=by
  have hp:((2:Int) ^ min m 64)=((2 ^ min m 64:Nat):Int):=by simp
  rw[hp,BitVec.toNat_ushiftRight,Nat.shiftRight_eq_div_pow,<- Int.natCast_ediv]
  congr 1
  by_cases hm:m<=64
  ·rw[Nat.min_eq_left hm]
  ·rw[Nat.min_eq_right (by omega),Nat.div_eq_of_lt x.isLt,Nat.div_eq_of_lt]
   exact Nat.lt_of_lt_of_le x.isLt (Nat.pow_le_pow_right (by decide) (by omega))
 rw[h,e];rfl
theorem u64_shl_nat (yk:IntKind) (m:Nat):binOp .shl t (U64 x) (.int yk (m:Int))=pure (U64 (x <<< m)):=by
 have h:binOp .shl t (U64 x) (.int yk (m:Int))=pure (.int .u64 (IntKind.wrap .u64 ((x.toNat:Int) * 2 ^ min m 64))):=by
  show Op.shift .shl .u64 x.toNat yk (m:Int)=_
  rw[shift_shl_any _ _ _ _ (by omega)];rfl
 have e:((x.toNat:Int) * 2 ^ min m 64)=((x.toNat * 2 ^ min m 64:Nat):Int):=by
  have hp:((2:Int) ^ min m 64)=((2 ^ min m 64:Nat):Int):=by simp
  rw[hp,Int.natCast_mul]
 have e2:x.toNat * 2 ^ min m 64 % 18446744073709551616=(x <<< m).toNat:=by
  rw[BitVec.toNat_shiftLeft,Nat.shiftLeft_eq]
  by_cases hm:m<=64
  ·rw[Nat.min_eq_left hm]
  ·obtain⟨j,rfl⟩:∃j,m=64+j:=⟨m - 64,by omega⟩
   rw[Nat.min_eq_right (by omega),Nat.pow_add,Nat.mul_comm (2 ^ 64) (2 ^ j),<- Nat.mul_assoc,Nat.mul_mod_left]
   exact(Nat.mul_mod_left _ _).symm
 rw[h,e,wrap_u64_nat,e2];rfl
theorem u64_shrc (yk:IntKind) (h:0<=n):binOp .shr t (U64 x) (.int yk n)=pure (U64 (x >>> n.toNat)):=by
 obtain⟨m,rfl⟩:=Int.eq_ofNat_of_zero_le h
 exact u64_shr_nat t x yk m
theorem u64_shlc (yk:IntKind) (h:0<=n):binOp .shl t (U64 x) (.int yk n)=pure (U64 (x <<< n.toNat)):=by
 obtain⟨m,rfl⟩:=Int.eq_ofNat_of_zero_le h
 exact u64_shl_nat t x yk m
attribute [go_sem high] u64_shrc u64_shlc
theorem u64_cells:(U64 x).cells=#[U64 x]:=rfl
theorem u64_one:(U64 x).oneCell'=true:=rfl
theorem u64_match:Value.cells.match_1 (motive:=fun _=>Array Value) (U64 x) (fun cs=>cs) (fun v=>#[v])=#[U64 x]:=rfl
attribute [go_sem ↓ high] u64_cells u64_one
attribute [go_sem] u64_match
theorem u64_storeVar (a:Addr):storeVar t a (U64 x)=(do
  if 1≠(<- sizeOf t) then stuck "storeVar: the value has not the size of the variable"
  store a (U64 x)):=by
 unfold storeVar
 have e:storeCells a (U64 x).cells.toList=store a (U64 x):=by
  show (store (a.add 0) (U64 x) >>= fun _=>pure ())=_
  rw[show a.add 0=a from rfl]
  exact bind_pure_unit
 rw[e];rfl
attribute [go_sem ↓ high] u64_storeVar
theorem u64_guard (op:BinOp) (p q:Operand) (v:Value):eqGuard op t p q (U64 x) v=pure ():=by
 cases op<;>rfl
attribute [go_sem high] u64_guard
end

section
variable (P:Program) (w:World) (src dst:TypeId)
theorem conv_8_64 (x:BitVec 8) (hs:(P.underlying src).isSome=true) (hd:P.underlying dst=some (.int .u64)):(convert src dst (U8 x)).run P w=.ok (U64 (x.setWidth 64)) w:=by
 have hk:P.intKind dst=.u64:=by simp[Program.intKind,hd]
 have h:=run_convert_int (P:=P) w src dst .u8 x.toNat hs (by rw[hk];exact hd)
 rw[hk] at h
 rw[U8,h,wrap_u64_bv]
 have e:BitVec.ofInt 64 (x.toNat:Int)=x.setWidth 64:=by rw[BitVec.ofInt_natCast,BitVec.ofNat_toNat]
 rw[e];rfl
attribute [go_sem high] conv_8_64
theorem conv_32_64 (x:BitVec 32) (hs:(P.underlying src).isSome=true) (hd:P.underlying dst=some (.int .u64)):(convert src dst (U32 x)).run P w=.ok (U64 (x.setWidth 64)) w:=by
 have hk:P.intKind dst=.u64:=by simp[Program.intKind,hd]
 have h:=run_convert_int (P:=P) w src dst .u32 x.toNat hs (by rw[hk];exact hd)
 rw[hk] at h
 rw[U32,h,wrap_u64_bv]
 have e:BitVec.ofInt 64 (x.toNat:Int)=x.setWidth 64:=by rw[BitVec.ofInt_natCast,BitVec.ofNat_toNat]
 rw[e];rfl
attribute [go_sem high] conv_32_64
theorem conv_64_8 (x:BitVec 64) (hs:(P.underlying src).isSome=true) (hd:P.underlying dst=some (.int .u8)):(convert src dst (U64 x)).run P w=.ok (U8 (x.setWidth 8)) w:=by
 have hk:P.intKind dst=.u8:=by simp[Program.intKind,hd]
 have h:=run_convert_int (P:=P) w src dst .u64 x.toNat hs (by rw[hk];exact hd)
 rw[hk] at h
 rw[U64,h,wrap_u8_bv]
 have e:BitVec.ofInt 8 (x.toNat:Int)=x.setWidth 8:=by rw[BitVec.ofInt_natCast,BitVec.ofNat_toNat]
 rw[e];rfl
attribute [go_sem high] conv_64_8
theorem conv_64_32 (x:BitVec 64) (hs:(P.underlying src).isSome=true) (hd:P.underlying dst=some (.int .u32)):(convert src dst (U64 x)).run P w=.ok (U32 (x.setWidth 32)) w:=by
 have hk:P.intKind dst=.u32:=by simp[Program.intKind,hd]
 have h:=run_convert_int (P:=P) w src dst .u64 x.toNat hs (by rw[hk];exact hd)
 rw[hk] at h
 rw[U64,h,wrap_u32_bv]
 have e:BitVec.ofInt 32 (x.toNat:Int)=x.setWidth 32:=by rw[BitVec.ofInt_natCast,BitVec.ofNat_toNat]
 rw[e];rfl
attribute [go_sem high] conv_64_32
end

section
variable {P:Program} (w:World)
end
end Go.Proofs.YtbicafgmfgdckaaDoor
namespace Go.Proofs.YtbicafgmfgdckaaDoor
open Go Go.RowKit

def byteAt (l:List (BitVec 8)) (k:Nat):BitVec 8:=l.getD k 0#8
def BytesAt (w:World) (b off:Nat) (l:List (BitVec 8)):Prop:=∀i,i < l.length->w.cell? ⟨b,off+i,none⟩=some (U8 (byteAt l i))
structure Reads (w:World) (a:Option Addr) (cap:Nat) (l:List (BitVec 8)):Prop where
 fits:l.length<=cap
 room:cap<=9223372036854775807
 null:a=none->cap=0
 bytes:l=[]\/∃b off,a=some ⟨b,off,none⟩/\BytesAt w b off l
def Owns (w:World) (B:Nat) (E:TypeId) (v:Value) (l:List (BitVec 8)):Prop:=w.ownsRow B E 1 v l.length (l.map U8)

theorem byteAt_lt {l:List (BitVec 8)} {k:Nat} (h:k < l.length):byteAt l k=l[k]:=by simp[byteAt,List.getD_eq_getElem?_getD,List.getElem?_eq_getElem h]
theorem take_snoc (l:List (BitVec 8)) (k:Nat) (h:k < l.length):l.take (k+1)=l.take k++[byteAt l k]:=by
 rw[List.take_succ_eq_append_getElem h,byteAt_lt h]
theorem list_ext {l m:List (BitVec 8)} (hl:l.length=m.length) (h:∀i,i < l.length->byteAt l i=byteAt m i):l=m:=by
 refine List.ext_getElem hl fun i h1 h2=>?_
 rw[<- byteAt_lt h1,<- byteAt_lt h2,h i h1]
theorem byteAt_take {l:List (BitVec 8)} {n i:Nat} (h:i < n):byteAt (l.take n) i=byteAt l i:=by simp[byteAt,List.getD_eq_getElem?_getD,h]
theorem byteAt_drop (l:List (BitVec 8)) (n i:Nat):byteAt (l.drop n) i=byteAt l (n+i):=by simp[byteAt,List.getD_eq_getElem?_getD]

theorem BytesAt.take {w:World} {b off:Nat} {l:List (BitVec 8)} (h:BytesAt w b off l) (n:Nat):BytesAt w b off (l.take n):=by
 intro i hi
 have h1:i < l.length/\i < n:=by rw[List.length_take] at hi;omega
 rw[h i h1.1,byteAt_take h1.2]
theorem BytesAt.drop {w:World} {b off:Nat} {l:List (BitVec 8)} (h:BytesAt w b off l) (n:Nat):BytesAt w b (off+n) (l.drop n):=by
 intro i hi
 rw[List.length_drop] at hi
 have:=h (n+i) (by omega)
 rw[show off+n+i=off+(n+i) by omega,this,byteAt_drop]
theorem BytesAt.mono {w w':World} {b off:Nat} {l:List (BitVec 8)} (h:BytesAt w b off l) (hw:∀o v,w.cell? ⟨b,o,none⟩=some v->w'.cell? ⟨b,o,none⟩=some v):BytesAt w' b off l :=
 fun i hi=>hw _ _ (h i hi)

def Keeps (w w':World):Prop:=∀a v,w.cell? a=some v->w'.cell? a=some v
theorem Keeps.drewN (w:World) (n:Nat):Keeps w (w.drewN n):=fun _ _ h=>h
theorem Keeps.alloc (w:World) (o:Obj):Keeps w (w.alloc o):=fun p v h=>by
 rw[World.cell?_of_block (w:=w) (Below.heap_alloc w o p.block (World.block_lt_of_cell? w p h))];exact h
theorem Keeps.below {w w':World} (h:Below w.heap.size w w'):Keeps w w':=fun p v e=>by
 rw[h.cell (World.block_lt_of_cell? w p e)];exact e

section
variable {w w':World} {a:Option Addr} {cap:Nat} {l:List (BitVec 8)}
theorem Reads.keeps (h:Reads w a cap l) (k:Keeps w w'):Reads w' a cap l:=by
 refine⟨h.fits,h.room,h.null,?_⟩
 rcases h.bytes with e|⟨b,off,e,hb⟩
 ·exact .inl e
 ·exact .inr ⟨b,off,e,hb.mono fun o v hv=>k _ _ hv⟩
theorem Reads.take (h:Reads w a cap l) (n:Nat):Reads w a cap (l.take n):=by
 refine⟨Nat.le_trans (by rw[List.length_take];omega) h.fits,h.room,h.null,?_⟩
 rcases h.bytes with rfl|⟨b,off,e,hb⟩
 ·exact .inl (by simp)
 ·exact .inr ⟨b,off,e,hb.take n⟩
end

theorem reads_nil (w:World):Reads w none 0 []:=⟨by simp,by omega,fun _=>rfl,.inl rfl⟩

section
variable {w w':World} {B:Nat} {E:TypeId} {v:Value} {l:List (BitVec 8)}
theorem owns_nil (w:World) (B:Nat) (E:TypeId):Owns w B E (.slice none 0 0) []:=World.ownsRow_nil w B E 1
theorem Owns.reads (h:Owns w B E v l):∃a cap,v=.slice a l.length cap/\Reads w a cap l:=by
 rcases h.2 with⟨rfl,h0⟩|⟨g,cap,cur,rfl,_,hg,hn,hc,hs,ht⟩
 ·have:l=[]:=List.eq_nil_of_length_eq_zero h0
  subst this
  exact⟨none,0,rfl,reads_nil w⟩
 ·refine⟨some ⟨g,0,none⟩,cap,rfl,hn,by unfold maxLen at hc;omega,(by intro e;cases e),.inr ⟨g,0,rfl,fun i hi=>?_⟩⟩
  have:=h.cells (g:=g) rfl i (U8 (byteAt l i)) (by rw[List.getElem?_map,List.getElem?_eq_getElem hi,byteAt_lt hi];rfl)
  simpa [Addr.add_lit] using this
theorem Owns.below (h:Owns w B E v l) (hb:Below w.heap.size w w'):Owns w' B E v l :=
 h.kept (row:=none) ⟨hb.os,hb.tape,hb.output,hb.size,fun k hk _=>hb.block k hk⟩ (by cases hv:v.ownBlock<;>simp)
theorem Owns.mono {B':Nat} (h:Owns w B E v l) (hB:B'<=B):Owns w B' E v l:=by
 refine⟨h.1,?_⟩
 rcases h.2 with e|⟨g,cap,cur,e,hb,r⟩
 ·exact .inl e
 ·exact .inr ⟨g,cap,cur,e,Nat.le_trans hB hb,r⟩
end

structure ByteSlice (P:Program) (t e:TypeId):Prop where
 slice:P.underlying t=some (.slice e)
 info:(P.info? e).map (fun i=>(i.zero,i.size,i.bytes))=some (some (.int .u8 0),1,1)

theorem wpList_append_bytes {P:Program} {w:World} {ops:Array Oper} {rest:List Oper} {o:Oper} {act:Act} {Q:Exit->Act->World->Prop} {t e:TypeId} (T:ByteSlice P t e)
  (hgd:o.guard=none) (s x:Operand) (ho:o.op=.call { callee:=.builtin .append,args:=#[s,x],argTypes:=#[t,t] })
  (B:Nat) (v:Value) (l:List (BitVec 8)) (hs:act.eval s=v) (hown:Owns w B e v l)
  (a:Option Addr) (cap:Nat) (m:List (BitVec 8)) (hx:act.eval x=.slice a m.length cap) (hm:Reads w a cap m)
  (hlen:l.length+m.length<=140737488355328) (hbase:B<=w.heap.size)
  (h:∀v' w',Owns w' B e v' (l++m)->w.grownBy w' v.ownBlock->wpList P ops Q rest (act.put o.dst v') w'):wpList P ops Q (o::rest) act w:=by
 obtain⟨i,hi,hz0,hz1,hz2⟩:=info_parts T.info
 have fin:∀v' w',w'.ownsRow B e 1 v' (l.length+m.length) (l.map U8++m.map U8)->w.grownBy w' v.ownBlock->wpList P ops Q rest (act.put o.dst v') w':=by
  intro v' w' h1 h2
  exact h v' w' (by unfold Owns;rw[List.length_append,List.map_append];exact h1) h2
 by_cases hn:a=none
 ·subst hn
  have hc:=hm.null rfl
  have hm0:m=[]:=List.eq_nil_of_length_eq_zero (by have:=hm.fits;omega)
  subst hc hm0
  refine wpList_append_own_none hgd s x t ho B e i 1 T.slice hi v l.length (l.map U8) hs hown (by simpa using hx) ?_
  exact fin v w (by simpa [Owns] using hown) ⟨rfl,rfl,rfl,Nat.le_refl _,fun _ _ _=>rfl⟩
 ·obtain⟨ad,rfl⟩:=Option.ne_none_iff_exists'.1 hn
  refine wpList_append_own w hgd s x t ho B e i (.int .u8 0) 1 1 T.slice hi hz0 hz1 hz2 rfl (by decide) v l.length (l.map U8) hs hown ad m.length cap (m.map U8) hx (by simp) ?_ ?_ ?_ ?_ hbase ?_
  ·intro j u hu
   rcases hm.bytes with rfl|⟨b,off,e1,hb⟩
   ·simp at hu
   ·obtain rfl:=Option.some.inj e1
    rw[List.getElem?_map] at hu
    obtain⟨c,hc,rfl⟩:=Option.map_eq_some_iff.1 hu
    obtain⟨hj,hc'⟩:=List.getElem?_eq_some_iff.1 hc
    rw[Addr.add_lit,hb j hj,byteAt_lt hj,hc']
  ·intro u hu
   obtain⟨c,_,rfl⟩:=List.mem_map.1 hu
   rfl
  ·unfold maxLen;omega
  ·omega
  ·intro v' w' h1 h2 _
   exact fin v' w' h1 h2

theorem bytes_lit (w:World) (cs:Array Value) (E:TypeId) (fr:Nat × Nat) (l:List (BitVec 8)) (h:cs.toList=l.map U8):BytesAt (w.alloc (.cells cs E fr)) w.heap.size 0 l:=by
 intro i hi
 have:(w.alloc (.cells cs E fr)).cell? ⟨w.heap.size,0+i,none⟩=cs[i]?:=by
  unfold World.cell?;rw[heap_alloc_new];simp
 rw[this,<- Array.getElem?_toList,h,List.getElem?_map,List.getElem?_eq_getElem hi,byteAt_lt hi];rfl
theorem reads_lit (w:World) (cs:Array Value) (E:TypeId) (fr:Nat × Nat) (l:List (BitVec 8)) (h:cs.toList=l.map U8) (hl:l.length<=9223372036854775807) :
  Reads (w.alloc (.cells cs E fr)) (some ⟨w.heap.size,0,none⟩) l.length l :=
 ⟨Nat.le_refl _,hl,(by intro e;cases e),.inr ⟨_,_,rfl,bytes_lit w cs E fr l h⟩⟩

def RowAt (w:World) (B:Nat) (E:TypeId) (g cap n:Nat) (l:List (BitVec 8)):Prop :=
 w.ownsRow B E 1 (.slice (some ⟨g,0,none⟩) n cap) n (l.map U8)/\l.length=n
section
variable {w w':World} {B:Nat} {E:TypeId} {g cap n:Nat} {l:List (BitVec 8)} {v:Value}
theorem Owns.row (h:Owns w B E v l) (hl:l.length≠0):∃g cap,v=.slice (some ⟨g,0,none⟩) l.length cap/\RowAt w B E g cap l.length l/\B<=g/\g < w.heap.size:=by
 rcases h.2 with⟨_,h0⟩|⟨g,cap,cur,rfl,hb,_⟩
 ·exact(hl h0).elim
 ·exact⟨g,cap,rfl,⟨h,rfl⟩,hb,(h.lt g rfl).2⟩
theorem RowAt.owns (h:RowAt w B E g cap n l):Owns w B E (.slice (some ⟨g,0,none⟩) n cap) l:=by
 obtain⟨h1,rfl⟩:=h;exact h1
theorem RowAt.reads (h:RowAt w B E g cap n l):Reads w (some ⟨g,0,none⟩) cap l:=by
 obtain⟨h1,rfl⟩:=h
 obtain⟨a,c,e,r⟩:=Owns.reads (v:=.slice (some ⟨g,0,none⟩) l.length cap) h1
 simp only[Value.slice.injEq,true_and] at e
 obtain⟨rfl,rfl⟩:=e
 exact r
theorem RowAt.cell (h:RowAt w B E g cap n l) (j:Nat) (hj:j < n):w.cell? ⟨g,j,none⟩=some (U8 (byteAt l j)):=by
 rw[h.1.cellAt j (by omega),List.getElem?_map,List.getElem?_eq_getElem (by rw[h.2];exact hj),byteAt_lt (by rw[h.2];exact hj)];rfl
theorem RowAt.thawed (h:RowAt w B E g cap n l) (j:Nat):w.frozen? ⟨g,j,none⟩=false:=h.1.frozenAt j
theorem RowAt.set (h:RowAt w B E g cap n l) (j:Nat) (x:BitVec 8):RowAt (w.setCell ⟨g,j,none⟩ (U8 x)) B E g cap n (l.set j x):=by
 have:=(h.1.stored j (U8 x)).1
 exact⟨by rw[List.map_set];exact this,by rw[List.length_set];exact h.2⟩
theorem RowAt.drewN (h:RowAt w B E g cap n l) (m:Nat):RowAt (w.drewN m) B E g cap n l:=h
end
end Go.Proofs.YtbicafgmfgdckaaDoor
