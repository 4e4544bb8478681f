/- The crew's pact: the steps of who looks for something, at the two locks. For any program. The crew's pact: who has a lock: its words, the guarded cell, the end of the feeding, the end of a job. For any program. -/
import Derived.Test.YtbicafgmfgdckaaDoorMgAm
import Derived.Test.YtbicafgmfgdckaaDoorMgAn
namespace Go.Proofs.YtbicafgmfgdckaaDoor
open Go Go.Conc
open Go.ConcR (KK wgBlock WgAt stA smA rd wr mk DC0)
open Go.ConcN (sumTo upd upd_same upd_ne RelBy PermW WgLive)

def Ph.mB (p:Ph) (m:Nat):Nat:=if m=0 then p.out else p.once
def Ph.mO (_p:Ph) (m:Nat):Nat:=if m=0 then 0 else 1
abbrev Ph.muA (p:Ph) (m:Nat):Addr:=⟨p.mB m,p.mO m,none⟩
abbrev Ph.msA (p:Ph) (m:Nat):Addr:=⟨p.mB m,p.mO m+1,none⟩
section
variable {ty:TypeId} {top:Nat} {γ γ' γ2:Gho} {p:Ph} {c:Col} {w w' w2:World} {i j k n m y:Nat} {t u:Trace} {P:Program} {Post:Value->World->Prop} {es:Array Event} {a b:ML} {x x':MW} {wk:Prop}
theorem seek_alone (hI:GInv ty top γ w) (hp:γ.ph=some p) (hk:p.kind=.seek):γ.col=none/\p.f=0:=by
 have hc:γ.col=none:=by
  cases hc:γ.col with
  | none=>rfl
  | some c=>have:=(hI.mate p c hp hc).2.1;rw[hk] at this;cases this
 exact⟨hc,(hI.alone p hp hc).1⟩
theorem SeekI.nbs (h:SeekI γ p w) (hC:Core ty γ p w):p.out≠p.wg/\p.out≠p.jobs/\p.out≠p.stop/\p.out≠p.once:=by
 refine⟨fun e=>?_,fun e=>?_,fun e=>?_,fun e=>?_⟩<;>have:=h.bout
 ·rw[e,hC.bwg] at this;cases this
 ·rw[e,hC.bjobs] at this;cases this
 ·rw[e,hC.bstop] at this;cases this
 ·rw[e,h.bonce] at this;cases this
theorem offer_ne {cases:Array CommCase} {bl:Bool} {cc:CommCase} {r:Nat} (hI:GInv ty top γ w) (hp:γ.ph=some p) (hk:p.kind=.seek) (h:GOffer j γ cases bl) (hc:cc∈cases) (hr:cc.chan=.chan (some r)):r≠p.out/\r≠p.once:=by
 obtain⟨q1,⟨s,q2⟩,_⟩:=offer_shd hI h hc hr
 have hS:=(hI.core p hp).seek hk
 refine⟨fun e=>(by rw[e,hS.bout] at q2;cases q2),fun e=>?_⟩
 have no:=(seek_alone hI hp hk).1
 subst e
 cases h with
 | idle p' z h1 _ _ _ h5 =>
  obtain rfl:=same_ph hp h1
  subst h5
  simp only[List.mem_toArray,List.mem_singleton] at hc
  subst hc
  exact hS.ne.2.1 (rc_chan hr)
 | peek p' z h1 _ _ _ h5 =>
  obtain rfl:=same_ph hp h1
  subst h5
  simp only[List.mem_toArray,List.mem_singleton] at hc
  subst hc
  exact hS.ne.2.2 (rc_chan hr)
 | feed p' z z' h1 _ _ _ _ h6 =>
  obtain rfl:=same_ph hp h1
  subst h6
  simp only[List.mem_toArray,List.mem_cons,List.not_mem_nil,or_false] at hc
  rcases hc with rfl|rfl
  ·exact hS.ne.2.1 (sc_chan hr)
  ·exact hS.ne.2.2 (rc_chan hr)
 | coll c z h1=>rw[no] at h1;cases h1
 | give c x z h1=>rw[no] at h1;cases h1
def Gho.setSk (γ:Gho) (s:Sk) (i d:Nat):Gho:={ γ with sk:=s,deaf:=upd γ.deaf i d }
theorem seek_core (hI:GInv ty top γ w) (hp:γ.ph=some p) (ht:γ.tag i=.busy y) {s:Sk} {d:Nat} (hS:SeekI (γ.setSk s i d) p w') (hk:p.kind=.seek) (hsz:w'.heap.size=w.heap.size) (hh:∀b,b≠p.out->b≠p.once->w'.heap[b]?=w.heap[b]?):GInv ty top (γ.setSk s i d) w':=by
 have h:=hI.core p hp
 have hS0:=h.seek hk
 have hn:=hS0.nbs h
 have hno:=(seek_alone hI hp hk).1
 refine⟨by rw[hsz];exact hI.hs,hI.cnt,hI.main,hI.un,fun q=>?_,fun p' hp'=>?_,fun c hc=>?_,fun c hc=>?_,hI.mate,hI.alone,hI.top⟩
 ·have q':γ.ph=none:=q
  rw[hp] at q';cases q'
 ·obtain rfl:=same_ph hp hp'
  refine⟨h.bwg,h.bjobs,h.bstop,h.ne,fun b m hb e=>?_,h.fixm,h.fd,h.ftag,h.cnt,h.add,h.rest,h.wtag,h.early,?_,?_,(hh _ (Ne.symm hn.2.2.1) (Ne.symm hS0.ne.2.2)).trans h.stop,h.stpk,h.job,h.nle,h.full,⟨h.busy.1,h.busy.2⟩,fun j hj=>?_,h.small,h.pos,(fun q=>by rw[hk] at q;cases q),fun _=>hS,h.nomix⟩
  ·rw[hh b (fun q=>by have e':γ.bk b=.fix m:=e;rw[q,hS0.bout] at e';cases e') (fun q=>by have e':γ.bk b=.fix m:=e;rw[q,hS0.bonce] at e';cases e')];exact h.fix b m hb e
  ·obtain⟨st,sm,q1,q2⟩:=h.wgm
   exact⟨st,sm,q1.of_block (hh _ (Ne.symm hn.1) (Ne.symm hS0.ne.1)),q2⟩
  ·obtain⟨s',q⟩:=h.jobs
   exact⟨s',(hh _ (Ne.symm hn.2.1) (Ne.symm hS0.ne.2.1)).trans q⟩
  ·refine(upd_ne _ _ fun e=>?_).trans (h.hear j hj)
   subst e
   have hj':γ.tag j=.idle\/γ.tag j=.feed:=hj
   rw[ht] at hj'
   rcases hj' with e|e<;>cases e
 ·have hc':γ.col=some c:=hc
  rw[hno] at hc';cases hc'
 ·have hc':γ.col=some c:=hc
  rw[hno] at hc';cases hc'
theorem seek_rel (hI:GInv ty top γ w) (hp:γ.ph=some p) (hji:j≠i) {s:Sk} {d:Nat} (hk:p.kind=.seek) (ht:w'.tape=w.tape) (hh:∀b,b≠p.out->b≠p.once->w'.heap[b]?=w.heap[b]?) (hml:∀m,s.ml m j=γ.sk.ml m j) (hr:SkRel j p γ w (γ.setSk s i d) w'):Rel j γ w (γ.setSk s i d) w':=by
 have h:=hI.core p hp
 have hS0:=h.seek hk
 have noph:∀ {q:Prop},γ.ph=none->q:=fun q=>by rw[hp] at q;cases q
 refine⟨rfl,upd_ne _ _ hji,⟨rfl,rfl⟩,fun _=>⟨Nat.le_refl _,fun _ _ _=>rfl,fun _ h1 h2=>⟨h1,h2⟩,fun b _ e=>hh b (fun q=>?_) (fun q=>?_),ht,fun _ h=>h.1,fun h _=>h,rfl,fun _ _ _=>⟨rfl,Nat.le_refl _⟩,fun _ _ q=>noph q,fun _ _ _ _ q=>noph q,fun _ _=>Nat.le_refl _,fun _ _ _=>Iff.rfl,fun _ _ h=>h,hml,fun p' hp' _=>by obtain rfl:=same_ph hp hp'.1;exact hr⟩⟩
 ·rw[q,hS0.bout] at e;rcases e with e|⟨m,_,e⟩<;>cases e
 ·rw[q,hS0.bonce] at e;rcases e with e|⟨m,_,e⟩<;>cases e
theorem do_sk {s:Sk} (hI:GInv ty top γ w) (hp:γ.ph=some p) (hk:p.kind=.seek) (hb:p.b<=i) (hi:i < γ.cnt) (ht:γ.tag i=.busy y) (hlo:s.lo=γ.sk.lo) (hS:SeekI (γ.setSk s i (deafBehind (γ.deaf i) es)) p w')
  (hsz:w'.heap.size=w.heap.size) (htp:w'.tape=w.tape) (hos:Passed w w') (hh:∀b,b≠p.out->b≠p.once->w'.heap[b]?=w.heap[b]?) (hes:∀e∈es,ShEv γ i e) (hml:∀j,j≠i->∀m,s.ml m j=γ.sk.ml m j)
  (hrel:∀j,j≠i->SkRel j p γ w (γ.setSk s i (deafBehind (γ.deaf i) es)) w') (hwt:wk\/∀j m,j≠i->m < 2->γ.sk.ml m j=.que->(γ.sk.mw m).q=0->(s.mw m).q=0):(crewPact P ty top Post).Do i γ w (γ.setSk s i (deafBehind (γ.deaf i) es)) w' wk es:=by
 have h:=hI.core p hp
 have hS0:=h.seek hk
 have hn:=hS0.nbs h
 refine⟨seek_core hI hp ht hS hk hsz hh,fun j hj=>seek_rel hI hp hj hk htp hh (hml j hj) (hrel j hj),fun t fn pos hT=>GTr.cells' (γ':=γ.setSk s i (deafBehind (γ.deaf i) es)) hT hI (by rw[hp];simp) hi (crew_place hI hp (.inr hb)) hes rfl rfl rfl rfl rfl rfl hlo (fun _ _=>rfl) (fun _ hk=>upd_ne _ _ hk) (upd_same _ _ _) id fun p' hp' _ q=>?_,fun j cases c r _ hof hc hr=>.inl ?_,?_,rfl,hos⟩
 ·have q':(γ.tag i).said:=q
  rw[ht] at q';exact q'.elim
 ·obtain⟨q1,q2⟩:=offer_ne hI hp hk hof hc hr
  exact hh r q1 q2
 ·refine hwt.imp id fun hwt j hj hw=>?_
  cases hw with
  | wg p' st h1 h2 h3 h4 =>
   obtain rfl:=same_ph hp h1
   exact .wg p st h1 h2 h3 (h4.of_block (hh _ (Ne.symm hn.1) (Ne.symm hS0.ne.1)))
  | que p' m h1 h2 h3 h4 h5=>exact .que p' m h1 h2 h3 ((hml j hj m).trans h4) (hwt j m hj h3 h4 h5)
inductive MuTo (p:Ph) (m:Nat) (x x':MW) (w w':World):Prop
 | same:w'.heap=w.heap->w'.tape=w.tape->Passed w w'->x'.code=x.code->x'.q=x.q->MuTo p m x x' w w'
 | st:w'=w.setCell (p.muA m) (.int .i32 (x'.code:Nat))->x'.q=x.q->MuTo p m x x' w w'
 | sm:w'=w.setCell (p.msA m) (.int .u32 (x'.q:Nat))->x'.code=x.code->MuTo p m x x' w w'
def Sk.go (s:Sk) (m i:Nat) (y:ML) (x:MW):Sk:={ s with ml:=fun k=>if k=m then upd (s.ml m) i y else s.ml k,mw:=fun k=>if k=m then x else s.mw k }
theorem go_ml (s:Sk) (m i:Nat) (b:ML) (x:MW):(s.go m i b x).ml m i=b:=by simp[Sk.go,upd_same]
theorem go_ml2 (s:Sk) {m k j i:Nat} (b:ML) (x:MW) (h:j≠i\/k≠m):(s.go m i b x).ml k j=s.ml k j:=by
 simp only[Sk.go]
 by_cases e:k=m
 ·rw[if_pos e,upd_ne _ _ (h.resolve_right fun q=>q e),e]
 ·rw[if_neg e]
theorem go_mw (s:Sk) (m i:Nat) (b:ML) (x:MW):(s.go m i b x).mw m=x:=by simp[Sk.go]
theorem go_mw2 (s:Sk) {m k:Nat} (i:Nat) (b:ML) (x:MW) (h:k≠m):(s.go m i b x).mw k=s.mw k:=by simp[Sk.go,h]
theorem mu_cases (hm:m < 2):m=0\/m=1:=by omega
theorem SeekI.at_ (h:SeekI γ p w) (hm:m < 2):w.cell? (p.muA m)=some (.int .i32 ((γ.sk.mw m).code:Nat))/\w.cell? (p.msA m)=some (.int .u32 ((γ.sk.mw m).q:Nat))/\∀o,w.frozen? ⟨p.mB m,o,none⟩=false:=by
 obtain⟨v,q,_⟩:=h.best
 have q2:=h.once
 rcases mu_cases hm with rfl|rfl
 ·simp[World.cell?,World.frozen?,Ph.muA,Ph.msA,Ph.mB,Ph.mO,q]
 ·simp[World.cell?,World.frozen?,Ph.muA,Ph.msA,Ph.mB,Ph.mO,q2]
theorem SeekI.bkm (h:SeekI γ p w) (hs:γ.hs=w.heap.size) (hm:m < 2):p.mB m < γ.hs/\((∃s,γ.bk (p.mB m)=.shd s)\/(γ.bk (p.mB m)=.mix/\γ.ow (p.mB m) (p.mO m)=none)\/(γ.bk (p.mB m)=.lock/\p.mO m+1 < 2)):=by
 rcases mu_cases hm with rfl|rfl
 ·exact⟨(h.lt hs).1,.inr (.inr ⟨h.bout,by simp[Ph.mO]⟩)⟩
 ·exact⟨(h.lt hs).2,.inl ⟨_,h.bonce⟩⟩
theorem MuTo.size (h:MuTo p m x x' w w'):w'.heap.size=w.heap.size:=by
 cases h with
 | same h=>rw[h]
 | st h=>rw[h,size_cell]
 | sm h=>rw[h,size_cell]
theorem MuTo.tape (h:MuTo p m x x' w w'):w'.tape=w.tape:=by
 cases h with
 | same _ h=>exact h
 | st h=>rw[h];rfl
 | sm h=>rw[h];rfl
theorem MuTo.os (h:MuTo p m x x' w w'):Passed w w':=by
 cases h with
 | same _ _ h=>exact h
 | st h=>rw[h];exact .of rfl rfl
 | sm h=>rw[h];exact .of rfl rfl
theorem MuTo.old (h:MuTo p m x x' w w') {b:Nat} (hb:b≠p.mB m):w'.heap[b]?=w.heap[b]?:=by
 cases h with
 | same h=>rw[h]
 | st h=>rw[h];exact heap_cell_ne _ _ _ hb
 | sm h=>rw[h];exact heap_cell_ne _ _ _ hb
theorem MuTo.best {v:Int} {t:TypeId} (h:MuTo p 0 x x' w w') (q:w.heap[p.out]?=some (.cells #[.int .i32 (x.code:Nat),.int .u32 (x.q:Nat),.int .i64 v] t (0,0))):w'.heap[p.out]?=some (.cells #[.int .i32 (x'.code:Nat),.int .u32 (x'.q:Nat),.int .i64 v] t (0,0)):=by
 cases h with
 | same h1 _ _ h2 h3=>rw[h1,h2,h3];exact q
 | st h1 h2=>rw[h1,h2,heap_setCell];simp[Ph.muA,Ph.mB,Ph.mO,q]
 | sm h1 h2=>rw[h1,h2,heap_setCell];simp[Ph.msA,Ph.mB,Ph.mO,q]
theorem MuTo.once {v:Value} {t:TypeId} (h:MuTo p 1 x x' w w') (q:w.heap[p.once]?=some (.cells #[v,.int .i32 (x.code:Nat),.int .u32 (x.q:Nat)] t (0,0))):w'.heap[p.once]?=some (.cells #[v,.int .i32 (x'.code:Nat),.int .u32 (x'.q:Nat)] t (0,0)):=by
 cases h with
 | same h1 _ _ h2 h3=>rw[h1,h2,h3];exact q
 | st h1 h2=>rw[h1,h2,heap_setCell];simp[Ph.muA,Ph.mB,Ph.mO,q]
 | sm h1 h2=>rw[h1,h2,heap_setCell];simp[Ph.msA,Ph.mB,Ph.mO,q]
theorem MuTo.cell (h:MuTo p m x x' w w') (hm:m < 2) (hn:p.out≠p.once) {v:Int} {e f:Value} {t:TypeId} (q:w.heap[p.out]?=some (.cells #[e,f,.int .i64 v] t (0,0))):w'.cell? ⟨p.out,2,none⟩=w.cell? ⟨p.out,2,none⟩:=by
 rcases mu_cases hm with rfl|rfl
 ·cases h with
  | same h1=>simp only[World.cell?,h1]
  | st h1=>rw[h1];simp[World.cell?,heap_setCell,Ph.muA,Ph.mB,Ph.mO,q]
  | sm h1=>rw[h1];simp[World.cell?,heap_setCell,Ph.msA,Ph.mB,Ph.mO,q]
 ·have:w'.heap[p.out]?=w.heap[p.out]?:=h.old hn
  simp only[World.cell?,this]
theorem lock_seek (hS:SeekI γ p w) (hC:Core ty γ p w) (hm:m < 2) (ht:γ.tag i=.busy y) (ha:γ.sk.ml m i=a) (hs:MStep a (γ.sk.mw m) b x') (hw:MuTo p m (γ.sk.mw m) x' w w') (hi:p.b<=i/\i < p.b+p.W) (h0:m=0->a≠.own 1/\b≠.own 1) (h1:m=1->a≠.own 2) (h2:∀k,k≠m->k < 2->γ.sk.ml k i=.off\/γ.sk.ml k i=.fresh) (d:Nat) :
  SeekI (γ.setSk (γ.sk.go m i b x') i d) p w':=by
 have hmi:=MuI.step (hS.mi m hm) hi.1 hi.2 (by rw[ha];exact hs)
 have hn:=(hS.nbs hC).2.2.2
 have other:∀ {k z},(γ.sk.go m i b x').ml k z=γ.sk.ml k z\/(k=m/\z=i):=fun {k z}=>by
  by_cases e:k=m/\z=i
  ·exact .inr e
  ·exact .inl (go_ml2 _ _ _ (by omega))
 refine⟨hS.bout,hS.bonce,hS.ne,hS.W,?_,?_,fun k hk=>?_,fun k z hk q=>?_,hS.left,fun z q=>?_,fun q=>hS.lo0 fun z r=>?_,fun z=>?_,hS.took,hS.done,hS.stp,fun q1 q2=>?_,hS.od1,hS.nogive⟩
 ·obtain⟨v,q,q2⟩:=hS.best
  refine⟨v,?_,q2⟩
  show w'.heap[p.out]?=some (.cells #[.int .i32 (((γ.sk.go m i b x').mw 0).code:Nat),.int .u32 (((γ.sk.go m i b x').mw 0).q:Nat),.int .i64 v] p.oty (0,0))
  rcases mu_cases hm with rfl|rfl
  ·rw[go_mw];exact hw.best q
  ·rw[go_mw2 _ _ _ _ (by omega),hw.old hn];exact q
 ·show w'.heap[p.once]?=some (.cells #[.int .u32 (if γ.sk.od then 1 else 0),.int .i32 (((γ.sk.go m i b x').mw 1).code:Nat),.int .u32 (((γ.sk.go m i b x').mw 1).q:Nat)] p.onty (0,0))
  rcases mu_cases hm with rfl|rfl
  ·rw[go_mw2 _ _ _ _ (by omega),hw.old (Ne.symm hn)];exact hS.once
  ·rw[go_mw];exact hw.once hS.once
 ·show MuI p.b p.W ((γ.sk.go m i b x').ml k) ((γ.sk.go m i b x').mw k)
  by_cases e:k=m
  ·subst e
   rw[go_mw,show (γ.sk.go k i b x').ml k=upd (γ.sk.ml k) i b from if_pos rfl]
   exact hmi.1
  ·rw[go_mw2 _ _ _ _ e,show (γ.sk.go m i b x').ml k=γ.sk.ml k from if_neg e]
   exact hS.mi k hk
 ·rcases other (k:=k) (z:=z) with e|⟨_,rfl⟩
  ·exact hS.busy k z hk (by rw[<- e];exact q)
  ·exact⟨y,ht⟩
 ·rcases other (k:=0) (z:=z) with e|⟨e,rfl⟩
  ·exact hS.lo1 z (e.symm.trans q)
  ·subst e
   exact absurd ((go_ml _ _ _ _ _).symm.trans q) (h0 rfl).2
 ·rcases other (k:=0) (z:=z) with e|⟨e,rfl⟩
  ·exact q z (e.trans r)
  ·subst e
   exact(h0 rfl).1 (ha.symm.trans r)
 ·by_cases e:z=i
  ·subst e
   rcases mu_cases hm with rfl|rfl
   ·have:=h2 1 (by omega) (by omega)
    right;right
    rw[show (γ.setSk (γ.sk.go 0 z b x') z d).sk.ml 1 z=γ.sk.ml 1 z from go_ml2 _ _ _ (by omega)]
    exact this
   ·have:=h2 0 (by omega) (by omega)
    rw[show (γ.setSk (γ.sk.go 1 z b x') z d).sk.ml 0 z=γ.sk.ml 0 z from go_ml2 _ _ _ (by omega)]
    exact this.imp id .inl
  ·rw[show (γ.setSk (γ.sk.go m i b x') i d).sk.ml 0 z=γ.sk.ml 0 z from go_ml2 _ _ _ (.inl e),show (γ.setSk (γ.sk.go m i b x') i d).sk.ml 1 z=γ.sk.ml 1 z from go_ml2 _ _ _ (.inl e)]
   exact hS.two z
 ·obtain⟨z,q⟩:=hS.od0 q1 q2
  refine⟨z,?_⟩
  rcases other (k:=1) (z:=z) with e|⟨e,rfl⟩
  ·exact e.trans q
  ·subst e
   exact absurd (ha.symm.trans q) (h1 rfl)
theorem lock_rel (hS:SeekI γ p w) (hC:Core ty γ p w) (hm:m < 2) (ha:γ.sk.ml m i=a) (hs:MStep a (γ.sk.mw m) b x') (hw:MuTo p m (γ.sk.mw m) x' w w') (hi:p.b<=i/\i < p.b+p.W) (hji:j≠i) (d:Nat):SkRel j p γ w (γ.setSk (γ.sk.go m i b x') i d) w':=by
 have hmi:=MuI.step (hS.mi m hm) hi.1 hi.2 (by rw[ha];exact hs)
 obtain⟨v,q,_⟩:=hS.best
 have eml:(γ.sk.go m i b x').ml m=upd (γ.sk.ml m) i b:=if_pos rfl
 refine⟨fun k hk=>?_,fun k hk e=>?_,fun _=>⟨hw.cell hm (hS.nbs hC).2.2.2 q,fun _=>Iff.rfl⟩,fun _ _=>⟨rfl,rfl⟩,fun _ q=>q⟩
 ·show (γ.sk.go m i b x').V p k<=γ.sk.V p k/\(((γ.sk.go m i b x').mw k).code=(γ.sk.mw k).code\/(γ.sk.go m i b x').V p k < γ.sk.V p k)
  by_cases e:k=m
  ·subst e
   have e1:(γ.sk.go k i b x').V p k=6 * γ.sk.left+mN ML.wt p.b p.W (upd (γ.sk.ml k) i b)+x'.q:=by
    unfold Sk.V
    rw[eml,go_mw];rfl
   rw[e1,go_mw]
   unfold Sk.V
   obtain⟨_,r1,r2⟩:=hmi
   exact⟨by omega,r2.imp id fun r=>by omega⟩
  ·have e1:(γ.sk.go m i b x').V p k=γ.sk.V p k:=by
    unfold Sk.V
    rw[go_mw2 _ _ _ _ e,show (γ.sk.go m i b x').ml k=γ.sk.ml k from if_neg e];rfl
   rw[e1,go_mw2 _ _ _ _ e]
   exact⟨Nat.le_refl _,.inl rfl⟩
 ·show (γ.sk.mw k).w<=((γ.sk.go m i b x').mw k).w
  by_cases e2:k=m
  ·subst e2
   rw[go_mw]
   obtain⟨r1,r2⟩:=(hS.mi k hm).range (i:=j) (by rw[e];simp)
   exact((hS.mi k hm).hand_keep hi.1 hi.2 (by rw[ha];exact hs) r1 r2 hji e).1
  ·rw[go_mw2 _ _ _ _ e2];exact Nat.le_refl _
theorem worker_range (hI:GInv ty top γ w) (hp:γ.ph=some p) (hb:p.b<=i) (hi:i < γ.cnt):p.b<=i/\i < p.b+p.W:=⟨hb,by have:=(hI.core p hp).cntW;omega⟩
theorem sh_mu (hS:SeekI γ p w) (hs:γ.hs=w.heap.size) (hm:m < 2) (z:Bool) (o:Nat) (ho:o=p.mO m\/o=p.mO m+1):ShEv γ i ⟨.cell ⟨p.mB m,o,none⟩,z,true⟩:=by
 refine .inl ⟨_,z,rfl,(hS.bkm hs hm).1,?_⟩
 rcases mu_cases hm with rfl|rfl
 ·exact .inr (.inr ⟨hS.bout,by show o < 2;simp[Ph.mO] at ho;omega⟩)
 ·exact .inl ⟨_,hS.bonce⟩
theorem setSk_same (γ:Gho) (i:Nat):γ.setSk γ.sk i (γ.deaf i)=γ:=by
 have:upd γ.deaf i (γ.deaf i)=γ.deaf:=by funext k;by_cases e:k=i<;>simp[upd,e]
 unfold Gho.setSk
 rw[this]
end
end Go.Proofs.YtbicafgmfgdckaaDoor
namespace Go.Proofs.YtbicafgmfgdckaaDoor
open Go Go.Conc
open Go.ConcR (KK wgBlock WgAt stA smA rd wr mk DC0)
open Go.ConcN (sumTo upd upd_same upd_ne RelBy PermW WgLive)
section
variable {ty:TypeId} {top:Nat} {γ γ' γ2:Gho} {p:Ph} {c:Col} {w w' w2:World} {i j k n m y:Nat} {t u:Trace} {P:Program} {Post:Value->World->Prop} {es:Array Event} {a b:ML} {x x':MW} {wk:Prop}
theorem MuI.keep (h:MuI p.b p.W (γ.sk.ml m) x) (ha:γ.sk.ml m i=.own k) (k':Nat):MuI p.b p.W (upd (γ.sk.ml m) i (.own k')) x/\mN ML.wt p.b p.W (upd (γ.sk.ml m) i (.own k'))<=mN ML.wt p.b p.W (γ.sk.ml m):=by
 have hr:=h.range (i:=i) (by rw[ha];simp)
 obtain⟨q1,q2,_⟩:=MuI.step h hr.1 hr.2 (by rw[ha];exact MStep.keep k k')
 exact⟨q1,by omega⟩
def Sk.own (s:Sk) (m i k:Nat) (o:Option Nat) (B:Nat) (tk:Nat->Prop) (od:Bool):Sk:={ s with ml:=fun z=>if z=m then upd (s.ml m) i (.own k) else s.ml z,took:=tk,od:=od,lo:=if m=0 then upd s.lo B o else s.lo }
theorem own_ml (s:Sk) (m i k:Nat) (o:Option Nat) (B:Nat) (tk:Nat->Prop) (od:Bool):(s.own m i k o B tk od).ml m i=.own k:=by simp[Sk.own,upd_same]
theorem own_ml2 (s:Sk) {m i k:Nat} {o:Option Nat} {B:Nat} {tk:Nat->Prop} {od:Bool} {z j:Nat} (h:j≠i\/z≠m):(s.own m i k o B tk od).ml z j=s.ml z j:=by
 simp only[Sk.own]
 by_cases e:z=m
 ·rw[if_pos e,upd_ne _ _ (h.resolve_right fun q=>q e),e]
 ·rw[if_neg e]
theorem own_mlm (s:Sk) (m i k:Nat) (o:Option Nat) (B:Nat) (tk:Nat->Prop) (od:Bool):(s.own m i k o B tk od).ml m=upd (s.ml m) i (.own k):=if_pos rfl
theorem own_mln (s:Sk) {m i k:Nat} {o:Option Nat} {B:Nat} {tk:Nat->Prop} {od:Bool} {z:Nat} (h:z≠m):(s.own m i k o B tk od).ml z=s.ml z:=if_neg h
theorem own_seek {o:Option Nat} {tk:Nat->Prop} {od stp:Bool} {d k':Nat} (hS:SeekI γ p w) (hm:m < 2) (ht:γ.tag i=.busy y) (ha:γ.sk.ml m i=.own k) (h2:∀z,z≠m->z < 2->γ.sk.ml z i=.off\/γ.sk.ml z i=.fresh)
  (h0:m=0->(k'=1->o=some i)/\(k'≠1->o=none)) (hb:∃v:Int,w'.heap[p.out]?=some (.cells #[.int .i32 ((γ.sk.mw 0).code:Nat),.int .u32 ((γ.sk.mw 0).q:Nat),.int .i64 v] p.oty (0,0))/\BestV tk v)
  (hon:w'.heap[p.once]?=some (.cells #[.int .u32 (if od then 1 else 0),.int .i32 ((γ.sk.mw 1).code:Nat),.int .u32 ((γ.sk.mw 1).q:Nat)] p.onty (0,0))) (htk:∀x,tk x->p.hit x/\x < γ.next) (hmono:∀x,γ.sk.took x->tk x) (hstp:stp=true->∃x,tk x)
  (hod0:od=false->stp=true->(m=1/\k'=2)\/(m=0/\γ.sk.od=false/\γ.stp=true)) (hod1:od=true->stp=true):SeekI { (γ.setSk (γ.sk.own m i k' o p.out tk od) i d) with stp:=stp } p w':=by
 have hmi:=MuI.keep (hS.mi m hm) ha k'
 refine⟨hS.bout,hS.bonce,hS.ne,hS.W,hb,hon,fun z hz=>?_,fun z j hz q=>?_,hS.left,fun j q=>?_,fun q=>?_,fun j=>?_,htk,fun x q1 q2=>hmono x (hS.done x q1 q2),hstp,fun q1 q2=>?_,hod1,hS.nogive⟩
 ·show MuI p.b p.W ((γ.sk.own m i k' o p.out tk od).ml z) (γ.sk.mw z)
  by_cases e:z=m
  ·subst e;rw[own_mlm];exact hmi.1
  ·rw[own_mln _ e];exact hS.mi z hz
 ·have q':(γ.sk.own m i k' o p.out tk od).ml z j≠.off:=q
  by_cases e:j=i
  ·subst e;exact⟨y,ht⟩
  ·rw[own_ml2 _ (.inl e)] at q';exact hS.busy z j hz q'
 ·have q':(γ.sk.own m i k' o p.out tk od).ml 0 j=.own 1:=q
  show (γ.sk.own m i k' o p.out tk od).lo p.out=some j
  by_cases e:m=0
  ·subst e
   by_cases e2:j=i
   ·subst e2
    rw[own_ml] at q'
    injection q' with q'
    show (if 0=0 then upd γ.sk.lo p.out o else γ.sk.lo) p.out=_
    rw[if_pos rfl,upd_same]
    exact(h0 rfl).1 q'
   ·rw[own_ml2 _ (.inl e2)] at q'
    exact absurd ((hS.mi 0 (by omega)).one q' ha) e2
  ·rw[own_mln _ (Ne.symm e)] at q'
   show (if m=0 then upd γ.sk.lo p.out o else γ.sk.lo) p.out=_
   rw[if_neg e]
   exact hS.lo1 j q'
 ·show (if m=0 then upd γ.sk.lo p.out o else γ.sk.lo) p.out=none
  by_cases e:m=0
  ·subst e
   rw[if_pos rfl,upd_same]
   exact(h0 rfl).2 fun e=>q i (by show (γ.sk.own 0 i k' o p.out tk od).ml 0 i=_;rw[own_ml,e])
  ·rw[if_neg e]
   exact hS.lo0 fun j r=>q j ((own_ml2 _ (.inr (Ne.symm e))).trans r)
 ·show (γ.sk.own m i k' o p.out tk od).ml 0 j=_\/(γ.sk.own m i k' o p.out tk od).ml 0 j=_\/(γ.sk.own m i k' o p.out tk od).ml 1 j=_\/(γ.sk.own m i k' o p.out tk od).ml 1 j=_
  by_cases e:j=i
  ·subst e
   rcases mu_cases hm with rfl|rfl
   ·rw[own_mln (z:=1) _ (by omega)]
    exact .inr (.inr (h2 1 (by omega) (by omega)))
   ·rw[own_mln (z:=0) _ (by omega)]
    exact(h2 0 (by omega) (by omega)).imp id .inl
  ·rw[own_ml2 _ (.inl e),own_ml2 _ (.inl e)];exact hS.two j
 ·rcases hod0 q1 q2 with⟨rfl,rfl⟩|⟨rfl,r1,r2⟩
  ·exact⟨i,own_ml _ _ _ _ _ _ _ _⟩
  ·obtain⟨z,r⟩:=hS.od0 r1 r2
   exact⟨z,(own_ml2 _ (.inr (by omega))).trans r⟩
theorem own_skrel {o:Option Nat} {tk:Nat->Prop} {od stp:Bool} {d k':Nat} (hS:SeekI γ p w) (hm:m < 2) (ha:γ.sk.ml m i=.own k) (hji:j≠i) (hmono:∀x,γ.sk.took x->tk x) (hc:(m=0/\k=1)\/(w'.cell? ⟨p.out,2,none⟩=w.cell? ⟨p.out,2,none⟩/\tk=γ.sk.took)) (hod:m=1\/(od=γ.sk.od/\stp=γ.stp)) :
  SkRel j p γ w { (γ.setSk (γ.sk.own m i k' o p.out tk od) i d) with stp:=stp } w':=by
 have hmi:=MuI.keep (hS.mi m hm) ha k'
 refine⟨fun z hz=>⟨?_,.inl rfl⟩,fun z hz _=>Nat.le_refl _,fun q=>?_,fun z q=>?_,hmono⟩
 ·show (γ.sk.own m i k' o p.out tk od).V p z<=γ.sk.V p z
  unfold Sk.V
  by_cases e:z=m
  ·subst e
   rw[own_mlm]
   show 6 * γ.sk.left+_+(γ.sk.mw z).q<=6 * γ.sk.left+_+(γ.sk.mw z).q
   have:=hmi.2
   omega
  ·rw[own_mln _ e];exact Nat.le_refl _
 ·rcases hc with⟨rfl,rfl⟩|⟨q1,q2⟩
  ·exact absurd ((hS.mi 0 (by omega)).one q ha) hji
  ·exact⟨q1,fun x=>by show tk x↔_;rw[q2]⟩
 ·rcases hod with rfl|q2
  ·exact absurd ((hS.mi 1 (by omega)).one q ha) hji
  ·exact q2
theorem own_lock_tr {o:Option Nat} {tk:Nat->Prop} {od:Bool} {d k':Nat} (hT:GTr γ t) (hI:GInv ty top γ w) (hp:γ.ph=some p) (hk:p.kind=.seek) (hb:p.b<=i) (hi:i < γ.cnt) (ht:γ.tag i=.busy y) {mm:Mark} (hmm:mm≠.disable/\mm≠.enable/\(MemAct.mark mm).touch?=none/\∀a,mm≠.release a) (hd:γ.deaf i=d)
  {z:MemOp} (hz:z.g=i/\z.act=.mark mm) (hP:∀l,blk l=p.out->¬γ.wh.sh l->PermO o ⟨p.out,0,none⟩ (fun k=>γ.live k l) (t++#[z]) l):GTr (γ.setSk (γ.sk.own 0 i k' o p.out tk od) i d) (t++#[z]):=by
 have hS:=(hI.core p hp).seek hk
 have hmem:∀op∈#[z],op.g=i/\op.act.touch?=none/\op.act≠.mark .disable/\op.act≠.mark .enable/\∀a,op.act≠.mark (.release a):=fun op hop=>by
  rw[one_op hop,hz.2]
  exact⟨hz.1,hmm.2.2.1,by simp[hmm.1],by simp[hmm.2.1],fun a q=>hmm.2.2.2 a (by injection q)⟩
 have hs:∀op∈#[z],op.act.touch?=none:=fun op hop=>(hmem op hop).2.1
 have hD:DTr γ.wh (t++#[z]) γ.cnt:=hT.d.silent (Nat.le_refl _) fun op hop=>⟨(hmem op hop).2.1,by rw[(hmem op hop).1];exact hi⟩
 refine GTr.own (γ':=γ.setSk (γ.sk.own 0 i k' o p.out tk od) i d) hT rfl rfl (fun op hop=>(hmem op hop).1) (crew_place hI hp (.inr hb)) (fun _ _ q=>by rw[hp] at q;cases q) ?_ (fun z hz=>upd_ne _ _ hz) ?_ (fun op hop=>(hmem op hop).2.2.2.2) (fun m a ha=>hT.low m a (touch_silent hs ha)) (fun _ _ q1 q2=>⟨q1,q2⟩) (fun p' hp' _ q=>?_) (fun _ _ q=>by rw[hp] at q;cases q)
 ·refine hD.anew (fun m op x hm hx hs=>.inl ⟨hs,rfl⟩) (fun l h1 h2=>?_) (fun l h1 h2 k hk=>hD.ro l h1 h2 k hk) fun _ _ _ q=>q
  by_cases e:blk l=p.out
  ·have e2:(γ.setSk (γ.sk.own 0 i k' o p.out tk od) i d).wh.own l=o:=by
    show (match γ.bk (blk l) with
     | .priv i=>some i
     | .mix=>some ((γ.mixAt l).getD 0)
     | .lock=>(if 0=0 then upd γ.sk.lo p.out o else γ.sk.lo) (blk l)
     | _=>some 0)=o
    rw[e,hS.bout]
    show (if 0=0 then upd γ.sk.lo p.out o else γ.sk.lo) p.out=o
    rw[if_pos rfl,upd_same]
   rw[e2,show (γ.setSk (γ.sk.own 0 i k' o p.out tk od) i d).wh.lk l=⟨p.out,0,none⟩ by show (⟨blk l,0,none⟩:Addr)=_;rw[e]]
   exact hP l e h1
  ·have e2:(γ.setSk (γ.sk.own 0 i k' o p.out tk od) i d).wh.own l=γ.wh.own l:=by
    show (match γ.bk (blk l) with
     | .priv i=>some i
     | .mix=>some ((γ.mixAt l).getD 0)
     | .lock=>(if 0=0 then upd γ.sk.lo p.out o else γ.sk.lo) (blk l)
     | _=>some 0)=match γ.bk (blk l) with
     | .priv i=>some i
     | .mix=>some ((γ.mixAt l).getD 0)
     | .lock=>γ.sk.lo (blk l)
     | _=>some 0
    rw[if_pos rfl,upd_ne _ _ e]
   rw[e2]
   exact hD.own l h1 h2
 ·show Deaf (t++#[z]) i=upd γ.deaf i d i
  rw[upd_same,Go.ConcN.Deaf_still t i _ fun op hop=>⟨(hmem op hop).2.2.1,(hmem op hop).2.2.2.1⟩,hT.deaf]
  exact hd
 ·have q':(γ.tag i).said:=q
  rw[ht] at q';exact q'.elim
theorem seek_wait {s:Sk} {d:Nat} {stp:Bool} (hI:GInv ty top γ w) (hp:γ.ph=some p) (hk:p.kind=.seek) (hh:w'.heap[p.wg]?=w.heap[p.wg]?) (hml:∀m,s.ml m j=γ.sk.ml m j) (hq:∀m,s.mw m=γ.sk.mw m) (hw:GWait ty j γ w):GWait ty j { (γ.setSk s i d) with stp:=stp } w':=by
 cases hw with
 | wg p' st h1 h2 h3 h4 =>
  obtain rfl:=same_ph hp h1
  exact .wg p st h1 h2 h3 (h4.of_block hh)
 | que p' m h1 h2 h3 h4 h5=>exact .que p' m h1 h2 h3 ((hml m).trans h4) (by show (s.mw m).q=0;rw[hq];exact h5)
theorem ofEv_mk {fn:FuncId} {pos:String} (mm:Mark):MemOp.ofEvents i fn pos #[mk mm]=#[{ g:=i,fn,pos,act:=.mark mm }]:=by rw[ofEvents_eq];simp[Go.ConcR.ofEvent_mk]
theorem do_acq (hI:GInv ty top γ w) (hp:γ.ph=some p) (hk:p.kind=.seek) (hb:p.b<=i) (hi:i < γ.cnt) (ht:γ.tag i=.busy y) (ha:γ.sk.ml 0 i=.own 0) (hd:γ.deaf i=0) (h2:∀z,z≠0->z < 2->γ.sk.ml z i=.off\/γ.sk.ml z i=.fresh) (wk:Prop) :
  (crewPact P ty top Post).Do i γ w (γ.setSk (γ.sk.own 0 i 1 (some i) p.out γ.sk.took γ.sk.od) i 0) w wk #[mk (.acquire (p.muA 0))]:=by
 have hC:=hI.core p hp
 have hS:=hC.seek hk
 have hS':SeekI (γ.setSk (γ.sk.own 0 i 1 (some i) p.out γ.sk.took γ.sk.od) i 0) p w:=own_seek (stp:=γ.stp) hS (by omega) ht ha h2 (fun _=>⟨fun _=>rfl,fun q=>absurd rfl q⟩) hS.best hS.once hS.took (fun _ q=>q) hS.stp (fun q1 q2=>.inr ⟨rfl,q1,q2⟩) hS.od1
 refine⟨seek_core hI hp ht hS' hk rfl fun _ _ _=>rfl,fun j hj=>seek_rel hI hp hj hk rfl (fun _ _ _=>rfl) (fun z=>own_ml2 _ (.inl hj)) (own_skrel (stp:=γ.stp) hS (by omega) ha hj (fun _ q=>q) (.inr ⟨rfl,rfl⟩) (.inr ⟨rfl,rfl⟩)),fun t fn pos hT=>?_,fun _ _ _ _ _ _ _ _=>.inl rfl,.inr fun j hj hw=>seek_wait (stp:=γ.stp) hI hp hk rfl (fun z=>own_ml2 _ (.inl hj)) (fun _=>rfl) hw,rfl,.refl _⟩
 rw[ofEv_mk]
 refine own_lock_tr hT hI hp hk hb hi ht ⟨by simp,by simp,rfl,by simp⟩ hd ⟨rfl,rfl⟩ fun l e hns=>?_
 have hro:¬γ.wh.ro l:=by rintro⟨m,q⟩;rw[e,hS.bout] at q;cases q
 have:=hT.d.own l hns hro
 have e1:γ.wh.own l=none:=by
  simp only[Gho.wh,e,hS.bout]
  exact hS.lo0 fun j q=>by
   have:=(hS.mi 0 (by omega)).one q ha
   subst this
   rw[ha] at q;cases q
 rw[e1] at this
 have e2:γ.wh.lk l=p.muA 0:=by show (⟨blk l,0,none⟩:Addr)=_;rw[e];rfl
 rw[e2] at this
 exact FreeL.acquire (show FreeL _ _ t l from this) (hT.nrel.app fun op hop a=>by rw[one_op hop];simp) ⟨rfl,rfl⟩ (by rw[hT.deaf];exact hd) ⟨hi,by rw[ht];simp,fun m q=>by rw[e,hS.bout] at q;cases q⟩
theorem do_unown (hI:GInv ty top γ w) (hp:γ.ph=some p) (hk:p.kind=.seek) (hb:p.b<=i) (hi:i < γ.cnt) (ht:γ.tag i=.busy y) (ha:γ.sk.ml 0 i=.own 1) (hd:γ.deaf i=0) (h2:∀z,z≠0->z < 2->γ.sk.ml z i=.off\/γ.sk.ml z i=.fresh) (wk:Prop) :
  (crewPact P ty top Post).Do i γ w (γ.setSk (γ.sk.own 0 i 3 none p.out γ.sk.took γ.sk.od) i 0) w wk #[mk (.releaseMerge (p.muA 0))]:=by
 have hC:=hI.core p hp
 have hS:=hC.seek hk
 have hS':SeekI (γ.setSk (γ.sk.own 0 i 3 none p.out γ.sk.took γ.sk.od) i 0) p w:=own_seek (stp:=γ.stp) hS (by omega) ht ha h2 (fun _=>⟨fun q=>(by cases q),fun _=>rfl⟩) hS.best hS.once hS.took (fun _ q=>q) hS.stp (fun q1 q2=>.inr ⟨rfl,q1,q2⟩) hS.od1
 refine⟨seek_core hI hp ht hS' hk rfl fun _ _ _=>rfl,fun j hj=>seek_rel hI hp hj hk rfl (fun _ _ _=>rfl) (fun z=>own_ml2 _ (.inl hj)) (own_skrel (stp:=γ.stp) hS (by omega) ha hj (fun _ q=>q) (.inr ⟨rfl,rfl⟩) (.inr ⟨rfl,rfl⟩)),fun t fn pos hT=>?_,fun _ _ _ _ _ _ _ _=>.inl rfl,.inr fun j hj hw=>seek_wait (stp:=γ.stp) hI hp hk rfl (fun z=>own_ml2 _ (.inl hj)) (fun _=>rfl) hw,rfl,.refl _⟩
 rw[ofEv_mk]
 refine own_lock_tr hT hI hp hk hb hi ht ⟨by simp,by simp,rfl,by simp⟩ hd ⟨rfl,rfl⟩ fun l e hns=>?_
 have hro:¬γ.wh.ro l:=by rintro⟨m,q⟩;rw[e,hS.bout] at q;cases q
 have:=hT.d.own l hns hro
 have e1:γ.wh.own l=some i:=by
  simp only[Gho.wh,e,hS.bout]
  exact hS.lo1 i ha
 rw[e1] at this
 exact FreeL.release (show Perm t i l from this) ⟨rfl,rfl⟩ (by rw[hT.deaf];exact hd)
theorem do_at {tk:Nat->Prop} (hI:GInv ty top γ w) (hp:γ.ph=some p) (hk:p.kind=.seek) (hb:p.b<=i) (hi:i < γ.cnt) (ht:γ.tag i=.busy y) (ha:γ.sk.ml 0 i=.own 1) (h2:∀z,z≠0->z < 2->γ.sk.ml z i=.off\/γ.sk.ml z i=.fresh)
  (hw:w'=w\/∃v:Int,w'=w.setCell ⟨p.out,2,none⟩ (.int .i64 v)) (hbv:∀v:Int,w'.cell? ⟨p.out,2,none⟩=some (.int .i64 v)->BestV tk v) (htk:∀x,tk x->p.hit x/\x < γ.next) (hmono:∀x,γ.sk.took x->tk x) (hes:∀e∈es,∃z,e=⟨.cell ⟨p.out,2,none⟩,z,false⟩) (wk:Prop) :
  (crewPact P ty top Post).Do i γ w (γ.setSk (γ.sk.own 0 i 1 (some i) p.out tk γ.sk.od) i (γ.deaf i)) w' wk es:=by
 have hC:=hI.core p hp
 have hS:=hC.seek hk
 have hn:=hS.nbs hC
 have hsz:w'.heap.size=w.heap.size:=by rcases hw with rfl|⟨v,rfl⟩<;>first|rfl|exact size_cell _ _ _
 have htp:w'.tape=w.tape:=by rcases hw with rfl|⟨v,rfl⟩<;>rfl
 have hos:Passed w w':=by rcases hw with rfl|⟨v,rfl⟩<;>exact .of rfl rfl
 have hh:∀b,b≠p.out->w'.heap[b]?=w.heap[b]?:=fun b hb=>by rcases hw with rfl|⟨v,rfl⟩<;>first|rfl|exact heap_cell_ne _ _ _ hb
 have hbest:∃v:Int,w'.heap[p.out]?=some (.cells #[.int .i32 ((γ.sk.mw 0).code:Nat),.int .u32 ((γ.sk.mw 0).q:Nat),.int .i64 v] p.oty (0,0))/\BestV tk v:=by
  obtain⟨v,q,_⟩:=hS.best
  rcases hw with rfl|⟨v',rfl⟩
  ·exact⟨v,q,hbv v (by simp[World.cell?,q])⟩
  ·have e:(w.setCell ⟨p.out,2,none⟩ (.int .i64 v')).heap[p.out]?=some (.cells #[.int .i32 ((γ.sk.mw 0).code:Nat),.int .u32 ((γ.sk.mw 0).q:Nat),.int .i64 v'] p.oty (0,0)):=by rw[heap_setCell];simp[q]
   exact⟨v',e,hbv v' (by simp[World.cell?,e])⟩
 have hS':SeekI (γ.setSk (γ.sk.own 0 i 1 (some i) p.out tk γ.sk.od) i (γ.deaf i)) p w':=own_seek (stp:=γ.stp) hS (by omega) ht ha h2 (fun _=>⟨fun _=>rfl,fun q=>absurd rfl q⟩) hbest ((hh _ (Ne.symm hn.2.2.2)).trans hS.once) htk hmono (fun q=>let ⟨x,r⟩:=hS.stp q;⟨x,hmono x r⟩) (fun q1 q2=>.inr ⟨rfl,q1,q2⟩) hS.od1
 have elo:(γ.sk.own 0 i 1 (some i) p.out tk γ.sk.od).lo=γ.sk.lo:=by
  show (if 0=0 then upd γ.sk.lo p.out (some i) else γ.sk.lo)=_
  rw[if_pos rfl]
  funext z
  by_cases e:z=p.out
  ·rw[e,upd_same,hS.lo1 i ha]
  ·exact upd_ne _ _ e
 refine⟨seek_core hI hp ht hS' hk hsz fun b h1 _=>hh b h1,fun j hj=>seek_rel hI hp hj hk htp (fun b h1 _=>hh b h1) (fun z=>own_ml2 _ (.inl hj)) (own_skrel (stp:=γ.stp) hS (by omega) ha hj hmono (.inl ⟨rfl,rfl⟩) (.inr ⟨rfl,rfl⟩)),fun t fn pos hT=>?_,fun j cases c r _ hof hc hr=>.inl (hh r (offer_ne hI hp hk hof hc hr).1),.inr fun j hj hw=>seek_wait (stp:=γ.stp) hI hp hk (hh _ (Ne.symm hn.1)) (fun z=>own_ml2 _ (.inl hj)) (fun _=>rfl) hw,rfl,hos⟩
 have hns:¬γ.wh.sh (.cell ⟨p.out,2,none⟩):=by
  rintro(⟨s,q⟩|⟨q,_⟩|⟨_,q⟩)
  ·have q':γ.bk p.out=.shd s:=q
   rw[hS.bout] at q';cases q'
  ·have q':γ.bk p.out=.mix:=q
   rw[hS.bout] at q';cases q'
  ·exact absurd q (by simp[lockSh])
 have hro:¬γ.wh.ro (.cell ⟨p.out,2,none⟩):=by rintro⟨m,q⟩;have q':γ.bk p.out=.fix m:=q;rw[hS.bout] at q';cases q'
 have how:γ.wh.own (.cell ⟨p.out,2,none⟩)=some i:=by
  simp only[Gho.wh,blk,hS.bout]
  exact hS.lo1 i ha
 have evt:∀e∈es,∀z,(MemAct.ofEvent e).touch?=some z->z.loc=.cell ⟨p.out,2,none⟩/\z.kind=.plain:=fun e he z hz=>by
  obtain⟨b,rfl⟩:=hes e he
  rw[Go.ConcR.ofEvent_cell] at hz
  simp only[MemAct.touch?,Option.some.injEq] at hz
  subst hz
  exact⟨rfl,rfl⟩
 refine GTr.own (γ':=γ.setSk (γ.sk.own 0 i 1 (some i) p.out tk γ.sk.od) i (γ.deaf i)) hT rfl rfl (fun op hop=>by obtain⟨e,_,rfl⟩:=mem_ofEv hop;rfl) (crew_place hI hp (.inr hb)) (fun _ _ q=>by rw[hp] at q;cases q) (((hT.d.low (γ':=γ.setSk (γ.sk.own 0 i 1 (some i) p.out tk γ.sk.od) i (γ.deaf i)) hT.low (fun _ _=>rfl) rfl elo fun k l _ hk=>hk)).app hi fun op hop=>?_) (fun z hz=>upd_ne _ _ hz) ?_ (fun op hop a e=>?_) (fun m a ha=>?_) (fun _ _ q1 q2=>⟨q1,q2⟩) (fun p' hp' _ q=>?_) (fun _ _ q=>by rw[hp] at q;cases q)
 ·obtain⟨e,he,rfl⟩:=mem_ofEv hop
  refine⟨rfl,fun z hz=>.inr ?_⟩
  obtain⟨e1,e2⟩:=evt e he z hz
  rw[e1]
  refine⟨hns,by rw[e2];simp,rfl,.inl ⟨hro,?_⟩⟩
  have:(γ.setSk (γ.sk.own 0 i 1 (some i) p.out tk γ.sk.od) i (γ.deaf i)).wh.own (.cell ⟨p.out,2,none⟩)=γ.wh.own (.cell ⟨p.out,2,none⟩):=by
   simp only[Gho.wh]
   rw[show (γ.setSk (γ.sk.own 0 i 1 (some i) p.out tk γ.sk.od) i (γ.deaf i)).sk.lo=γ.sk.lo from elo]
   rfl
  rw[this];exact how
 ·rw[Deaf_own,deafBehind_still _ fun e he=>by obtain⟨b,rfl⟩:=hes e he;simp]
  exact(hT.deaf i).trans (upd_same _ _ _).symm
 ·obtain⟨e',he,rfl⟩:=mem_ofEv hop
  obtain⟨b,rfl⟩:=hes e' he
  rw[Go.ConcR.ofEvent_cell] at e;cases e
 ·obtain⟨z,hz,hza⟩:=touch_of ha
  rcases getElem?_append_cases hz with⟨_,hz'⟩|⟨_,hop⟩
  ·exact hT.low m a (by rw[touchAt_of hz'];exact hza)
  ·obtain⟨e,he,rfl⟩:=mem_ofEv hop
   rw[(evt e he a hza).1]
   exact(hS.lt hI.hs).1
 ·have q':(γ.tag i).said:=q
  rw[ht] at q';exact q'.elim
theorem do_made (hI:GInv ty top γ w) (hp:γ.ph=some p) (hk:p.kind=.seek) (hb:p.b<=i) (hi:i < γ.cnt) (ht:γ.tag i=.busy y) (ha:γ.sk.ml 1 i=.own 2) (h2:∀z,z≠1->z < 2->γ.sk.ml z i=.off\/γ.sk.ml z i=.fresh) (hst:γ.stp=true) (wk:Prop) :
  (crewPact P ty top Post).Do i γ w (γ.setSk (γ.sk.own 1 i 1 none p.out γ.sk.took true) i (γ.deaf i)) (w.setCell ⟨p.once,0,none⟩ (.int .u32 1)) wk #[wr ⟨p.once,0,none⟩]:=by
 have hC:=hI.core p hp
 have hS:=hC.seek hk
 have hn:=hS.nbs hC
 have hh:∀b,b≠p.once->(w.setCell ⟨p.once,0,none⟩ (.int .u32 1)).heap[b]?=w.heap[b]?:=fun b hb=>heap_cell_ne _ _ _ hb
 have hS':SeekI (γ.setSk (γ.sk.own 1 i 1 none p.out γ.sk.took true) i (γ.deaf i)) p (w.setCell ⟨p.once,0,none⟩ (.int .u32 1)):=own_seek (stp:=γ.stp) hS (by omega) ht ha h2 (fun q=>by cases q) (by rw[hh _ hn.2.2.2];exact hS.best) (by rw[heap_setCell];simp[hS.once]) hS.took (fun _ q=>q) hS.stp (fun q1 _=>by cases q1) fun _=>hst
 refine do_sk (es:=#[wr ⟨p.once,0,none⟩]) hI hp hk hb hi ht rfl (by simpa [deafBehind,wr] using hS') (size_cell _ _ _) rfl (.of rfl rfl) (fun b _ h=>hh b h) (fun e he=>?_) (fun j hj z=>own_ml2 _ (.inl hj)) (fun j hj=>?_) (.inr fun _ _ _ _ _ q=>q)
 ·simp only[List.mem_toArray,List.mem_singleton] at he
  subst he
  exact .inl ⟨_,true,rfl,(hS.lt hI.hs).2,.inl ⟨_,hS.bonce⟩⟩
 ·have:=own_skrel (stp:=γ.stp) (tk:=γ.sk.took) (od:=true) (o:=none) (k':=1) (d:=γ.deaf i) (w':=w.setCell ⟨p.once,0,none⟩ (.int .u32 1)) hS (show 1 < 2 by omega) ha hj (fun _ q=>q) (.inr ⟨by simp only[World.cell?,hh p.out hn.2.2.2],rfl⟩) (.inl rfl)
  exact this
end
end Go.Proofs.YtbicafgmfgdckaaDoor
