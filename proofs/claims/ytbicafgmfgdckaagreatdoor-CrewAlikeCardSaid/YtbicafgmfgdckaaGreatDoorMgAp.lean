/- A piece. -/
import Derived.Test.YtbicafgmfgdckaaGreatDoorMgAn
set_option maxRecDepth 100000
set_option maxHeartbeats 16000000
set_option linter.all false
namespace Go.Proofs.YtbicafgmfgdckaaGreatDoor
open Go.Proofs.Tryz
open Go Go.Conc
open Go.ConcR (KK wgBlock WgAt stA smA rd wr mk DC0)
open Go.ConcN (sumTo upd upd_same upd_ne RelBy PermW WgLive)
def Ph.mB (p:Ph) (m:Nat):Nat:=if m=0 then p.out else p.once
def Ph.mO (_p:Ph) (m:Nat):Nat:=if m=0 then 0 else 1
abbrev Ph.muA (p:Ph) (m:Nat):Addr:=⟨p.mB m,p.mO m,none⟩
abbrev Ph.msA (p:Ph) (m:Nat):Addr:=⟨p.mB m,p.mO m+1,none⟩
section
variable {ty:TypeId} {top:Nat} {I I' I2:Ab} {p:Ph} {c:Ir} {w w' w2:World} {i j k n m y:Nat} {t u:Trace} {P:Program} {Post:Value->World->Prop} {es:Array Event} {a b:ML} {x x':MW} {wk:Prop}
theorem Ln (hI:Ae ty top I w) (hp:I.ph=some p) (hk:p.kind=.seek):I.col=none/\p.f=0:=by
 have hc:I.col=none:=by
  cases hc:I.col with
  | none=>rfl
  | some c=>have:=(hI.mate p c hp hc).2.1;rw[hk] at this;cases this
 exact⟨hc,(hI.alone p hp hc).1⟩
theorem Co.nbs (h:Co I p w) (hC:Core ty I p w):p.out≠p.wg/\p.out≠p.jobs/\p.out≠p.stop/\p.out≠p.once:=by
 refine⟨fun e=>?_,fun e=>?_,fun e=>?_,fun e=>?_⟩<;>have:=h.bout
 ·rw[e,hC.bwg] at this;cases this
 ·rw[e,hC.bjobs] at this;cases this
 ·rw[e,hC.bstop] at this;cases this
 ·rw[e,h.bonce] at this;cases this
theorem Adg {cases:Array CommCase} {bl:Bool} {cc:CommCase} {r:Nat} (hI:Ae ty top I w) (hp:I.ph=some p) (hk:p.kind=.seek) (h:Ft j I cases bl) (hc:cc∈cases) (hr:cc.chan=.chan (some r)):r≠p.out/\r≠p.once:=by
 obtain⟨q1,⟨s,q2⟩,_⟩:=Kx hI h hc hr;have hS:=(hI.core p hp).seek hk;refine⟨fun e=>(by rw[e,hS.bout] at q2;cases q2),fun e=>?_⟩;have no:=(Ln hI hp hk).1;subst e;cases h with
 | idle p' z h1 _ _ _ h5 =>
  obtain rfl:=Ag hp h1;subst h5;simp only[List.mem_toArray,List.mem_singleton] at hc;subst hc;exact hS.ne.2.1 (Ed hr)
 | peek p' z h1 _ _ _ h5 =>
  obtain rfl:=Ag hp h1;subst h5;simp only[List.mem_toArray,List.mem_singleton] at hc;subst hc;exact hS.ne.2.2 (Ed hr)
 | feed p' z z' h1 _ _ _ _ h6 =>
  obtain rfl:=Ag hp h1;subst h6;simp only[List.mem_toArray,List.mem_cons,List.not_mem_nil,or_false] at hc;rcases hc with rfl|rfl
  ·exact hS.ne.2.1 (Pw hr)
  ·exact hS.ne.2.2 (Ed hr)
 | coll c z h1=>rw[no] at h1;cases h1
 | give c x z h1=>rw[no] at h1;cases h1
def Ab.setSk (I:Ab) (s:Sk) (i d:Nat):Ab:={ I with sk:=s,deaf:=upd I.deaf i d }
theorem Nj (hI:Ae ty top I w) (hp:I.ph=some p) (ht:I.tag i=.busy y) {s:Sk} {d:Nat} (hS:Co (I.setSk s i d) p w') (hk:p.kind=.seek) (hsz:w'.heap.size=w.heap.size) (hh:∀b,b≠p.out->b≠p.once->w'.heap[b]?=w.heap[b]?):Ae ty top (I.setSk s i d) w':=by
 have h:=hI.core p hp;have kx:=h.seek hk;have hn:=kx.nbs h;have hno:=(Ln hI hp hk).1;refine⟨by rw[hsz];exact hI.hs,hI.cnt,hI.main,hI.un,fun q=>?_,fun p' hp'=>?_,fun c hc=>?_,fun c hc=>?_,hI.mate,hI.alone,hI.top⟩
 ·have q':I.ph=none:=q;rw[hp] at q';cases q'
 ·obtain rfl:=Ag hp hp';refine⟨h.bwg,h.bjobs,h.bstop,h.ne,fun b m hb e=>?_,h.fixm,h.fd,h.ftag,h.cnt,h.add,h.rest,h.wtag,h.early,?_,?_,(hh _ (Ne.symm hn.2.2.1) (Ne.symm kx.ne.2.2)).trans h.stop,h.stpk,h.job,h.nle,h.full,⟨h.busy.1,h.busy.2⟩,fun j hj=>?_,h.small,h.pos,(fun q=>by rw[hk] at q;cases q),fun _=>hS,h.nomix⟩
  ·rw[hh b (fun q=>by have e':I.bk b=.fix m:=e;rw[q,kx.bout] at e';cases e') (fun q=>by have e':I.bk b=.fix m:=e;rw[q,kx.bonce] at e';cases e')];exact h.fix b m hb e
  ·obtain⟨st,sm,q1,q2⟩:=h.wgm;exact⟨st,sm,q1.of_block (hh _ (Ne.symm hn.1) (Ne.symm kx.ne.1)),q2⟩
  ·obtain⟨s',q⟩:=h.jobs;exact⟨s',(hh _ (Ne.symm hn.2.1) (Ne.symm kx.ne.2.1)).trans q⟩
  ·refine(upd_ne _ _ fun e=>?_).trans (h.hear j hj);subst e;have hj':I.tag j=.idle\/I.tag j=.feed:=hj;rw[ht] at hj';rcases hj' with e|e<;>cases e
 ·have hc':I.col=some c:=hc;rw[hno] at hc';cases hc'
 ·have hc':I.col=some c:=hc;rw[hno] at hc';cases hc'
theorem Pv (hI:Ae ty top I w) (hp:I.ph=some p) (dx:j≠i) {s:Sk} {d:Nat} (hk:p.kind=.seek) (ht:w'.tape=w.tape) (hh:∀b,b≠p.out->b≠p.once->w'.heap[b]?=w.heap[b]?) (cu:∀m,s.ml m j=I.sk.ml m j) (hr:Ec j p I w (I.setSk s i d) w'):G5 j I w (I.setSk s i d) w':=by
 have h:=hI.core p hp;have kx:=h.seek hk;have noph:∀ {q:Prop},I.ph=none->q:=fun q=>by rw[hp] at q;cases q
 refine⟨rfl,upd_ne _ _ dx,⟨rfl,rfl⟩,fun _=>⟨Nat.le_refl _,fun _ _ _=>rfl,fun _ h1 h2=>⟨h1,h2⟩,fun b _ e=>hh b (fun q=>?_) (fun q=>?_),ht,fun _ h=>h.1,fun h _=>h,rfl,fun _ _ _=>⟨rfl,Nat.le_refl _⟩,fun _ _ q=>noph q,fun _ _ _ _ q=>noph q,fun _ _=>Nat.le_refl _,fun _ _ _=>Iff.rfl,fun _ _ h=>h,cu,fun p' hp' _=>by obtain rfl:=Ag hp hp'.1;exact hr⟩⟩
 ·rw[q,kx.bout] at e;rcases e with e|⟨m,_,e⟩<;>cases e
 ·rw[q,kx.bonce] at e;rcases e with e|⟨m,_,e⟩<;>cases e
theorem Ao5 {s:Sk} (hI:Ae ty top I w) (hp:I.ph=some p) (hk:p.kind=.seek) (hb:p.b<=i) (hi:i < I.cnt) (ht:I.tag i=.busy y) (hlo:s.lo=I.sk.lo) (hS:Co (I.setSk s i (deafBehind (I.deaf i) es)) p w')
  (hsz:w'.heap.size=w.heap.size) (gh:w'.tape=w.tape) (hos:Cq w w') (hh:∀b,b≠p.out->b≠p.once->w'.heap[b]?=w.heap[b]?) (hes:∀e∈es,S9 I i e) (cu:∀j,j≠i->∀m,s.ml m j=I.sk.ml m j)
  (hrel:∀j,j≠i->Ec j p I w (I.setSk s i (deafBehind (I.deaf i) es)) w') (hwt:wk\/∀j m,j≠i->m < 2->I.sk.ml m j=.que->(I.sk.mw m).q=0->(s.mw m).q=0):(Al P ty top Post).Do i I w (I.setSk s i (deafBehind (I.deaf i) es)) w' wk es:=by
 have h:=hI.core p hp;have kx:=h.seek hk;have hn:=kx.nbs h;refine⟨Nj hI hp ht hS hk hsz hh,fun j hj=>Pv hI hp hj hk gh hh (cu j hj) (hrel j hj),fun t fn pos hT=>Iq.cells' (I':=I.setSk s i (deafBehind (I.deaf i) es)) hT hI (by rw[hp];simp) hi (Fs hI hp (.inr hb)) hes rfl rfl rfl rfl rfl rfl hlo (fun _ _=>rfl) (fun _ hk=>upd_ne _ _ hk) (upd_same _ _ _) id fun p' hp' _ q=>?_,fun j cases c r _ hof hc hr=>.inl ?_,?_,rfl,hos⟩
 ·have q':(I.tag i).said:=q;rw[ht] at q';exact q'.elim
 ·obtain⟨q1,q2⟩:=Adg hI hp hk hof hc hr;exact hh r q1 q2
 ·refine hwt.imp id fun hwt j hj hw=>?_;cases hw with
  | wg p' st h1 h2 h3 h4 =>
   obtain rfl:=Ag hp h1;exact .wg p st h1 h2 h3 (h4.of_block (hh _ (Ne.symm hn.1) (Ne.symm kx.ne.1)))
  | que p' m h1 h2 h3 h4 h5=>exact .que p' m h1 h2 h3 ((cu j hj m).trans h4) (hwt j m hj h3 h4 h5)
inductive Kk (p:Ph) (m:Nat) (x x':MW) (w w':World):Prop
 | same:w'.heap=w.heap->w'.tape=w.tape->Cq w w'->x'.code=x.code->x'.q=x.q->Kk p m x x' w w'
 | st:w'=w.setCell (p.muA m) (.int .i32 (x'.code:Nat))->x'.q=x.q->Kk p m x x' w w'
 | sm:w'=w.setCell (p.msA m) (.int .u32 (x'.q:Nat))->x'.code=x.code->Kk p m x x' w w'
def Sk.go (s:Sk) (m i:Nat) (y:ML) (x:MW):Sk:={ s with ml:=fun k=>if k=m then upd (s.ml m) i y else s.ml k,mw:=fun k=>if k=m then x else s.mw k }
theorem As7 (s:Sk) (m i:Nat) (b:ML) (x:MW):(s.go m i b x).ml m i=b:=by simp[Sk.go,upd_same]
theorem O1 (s:Sk) {m k j i:Nat} (b:ML) (x:MW) (h:j≠i\/k≠m):(s.go m i b x).ml k j=s.ml k j:=by
 simp only[Sk.go];by_cases e:k=m
 ·rw[if_pos e,upd_ne _ _ (h.resolve_right fun q=>q e),e]
 ·rw[if_neg e]
theorem Ru (s:Sk) (m i:Nat) (b:ML) (x:MW):(s.go m i b x).mw m=x:=by simp[Sk.go]
theorem M5 (s:Sk) {m k:Nat} (i:Nat) (b:ML) (x:MW) (h:k≠m):(s.go m i b x).mw k=s.mw k:=by simp[Sk.go,h]
theorem E0 (hm:m < 2):m=0\/m=1:=by omega
theorem Co.at_ (h:Co I p w) (hm:m < 2):w.cell? (p.muA m)=some (.int .i32 ((I.sk.mw m).code:Nat))/\w.cell? (p.msA m)=some (.int .u32 ((I.sk.mw m).q:Nat))/\∀o,w.frozen? ⟨p.mB m,o,none⟩=false:=by
 obtain⟨v,q,_⟩:=h.best;have q2:=h.once;rcases E0 hm with rfl|rfl
 ·simp[World.cell?,World.frozen?,Ph.muA,Ph.msA,Ph.mB,Ph.mO,q]
 ·simp[World.cell?,World.frozen?,Ph.muA,Ph.msA,Ph.mB,Ph.mO,q2]
theorem Co.bkm (h:Co I p w) (hs:I.hs=w.heap.size) (hm:m < 2):p.mB m < I.hs/\((∃s,I.bk (p.mB m)=.shd s)\/(I.bk (p.mB m)=.mix/\I.ow (p.mB m) (p.mO m)=none)\/(I.bk (p.mB m)=.lock/\p.mO m+1 < 2)):=by
 rcases E0 hm with rfl|rfl
 ·exact⟨(h.lt hs).1,.inr (.inr ⟨h.bout,by simp[Ph.mO]⟩)⟩
 ·exact⟨(h.lt hs).2,.inl ⟨_,h.bonce⟩⟩
theorem Kk.size (h:Kk p m x x' w w'):w'.heap.size=w.heap.size:=by
 cases h with
 | same h=>rw[h]
 | st h=>rw[h,C5]
 | sm h=>rw[h,C5]
theorem Kk.tape (h:Kk p m x x' w w'):w'.tape=w.tape:=by
 cases h with
 | same _ h=>exact h
 | st h=>rw[h];rfl
 | sm h=>rw[h];rfl
theorem Kk.os (h:Kk p m x x' w w'):Cq w w':=by
 cases h with
 | same _ _ h=>exact h
 | st h=>rw[h];exact .of rfl rfl
 | sm h=>rw[h];exact .of rfl rfl
theorem Kk.old (h:Kk p m x x' w w') {b:Nat} (hb:b≠p.mB m):w'.heap[b]?=w.heap[b]?:=by
 cases h with
 | same h=>rw[h]
 | st h=>rw[h];exact Bh _ _ _ hb
 | sm h=>rw[h];exact Bh _ _ _ hb
theorem Kk.best {v:Int} {t:TypeId} (h:Kk p 0 x x' w w') (q:w.heap[p.out]?=some (.cells #[.int .i32 (x.code:Nat),.int .u32 (x.q:Nat),.int .i64 v] t (0,0))):w'.heap[p.out]?=some (.cells #[.int .i32 (x'.code:Nat),.int .u32 (x'.q:Nat),.int .i64 v] t (0,0)):=by
 cases h with
 | same h1 _ _ h2 h3=>rw[h1,h2,h3];exact q
 | st h1 h2=>rw[h1,h2,Bg];simp[Ph.muA,Ph.mB,Ph.mO,q]
 | sm h1 h2=>rw[h1,h2,Bg];simp[Ph.msA,Ph.mB,Ph.mO,q]
theorem Kk.once {v:Value} {t:TypeId} (h:Kk p 1 x x' w w') (q:w.heap[p.once]?=some (.cells #[v,.int .i32 (x.code:Nat),.int .u32 (x.q:Nat)] t (0,0))):w'.heap[p.once]?=some (.cells #[v,.int .i32 (x'.code:Nat),.int .u32 (x'.q:Nat)] t (0,0)):=by
 cases h with
 | same h1 _ _ h2 h3=>rw[h1,h2,h3];exact q
 | st h1 h2=>rw[h1,h2,Bg];simp[Ph.muA,Ph.mB,Ph.mO,q]
 | sm h1 h2=>rw[h1,h2,Bg];simp[Ph.msA,Ph.mB,Ph.mO,q]
theorem Kk.cell (h:Kk p m x x' w w') (hm:m < 2) (hn:p.out≠p.once) {v:Int} {e f:Value} {t:TypeId} (q:w.heap[p.out]?=some (.cells #[e,f,.int .i64 v] t (0,0))):w'.cell? ⟨p.out,2,none⟩=w.cell? ⟨p.out,2,none⟩:=by
 rcases E0 hm with rfl|rfl
 ·cases h with
  | same h1=>simp only[World.cell?,h1]
  | st h1=>rw[h1];simp[World.cell?,Bg,Ph.muA,Ph.mB,Ph.mO,q]
  | sm h1=>rw[h1];simp[World.cell?,Bg,Ph.msA,Ph.mB,Ph.mO,q]
 ·have:w'.heap[p.out]?=w.heap[p.out]?:=h.old hn;simp only[World.cell?,this]
theorem Ake (hS:Co I p w) (hC:Core ty I p w) (hm:m < 2) (ht:I.tag i=.busy y) (ha:I.sk.ml m i=a) (hs:B1 a (I.sk.mw m) b x') (hw:Kk p m (I.sk.mw m) x' w w') (hi:p.b<=i/\i < p.b+p.W) (h0:m=0->a≠.own 1/\b≠.own 1) (h1:m=1->a≠.own 2) (h2:∀k,k≠m->k < 2->I.sk.ml k i=.off\/I.sk.ml k i=.fresh) (d:Nat) :
  Co (I.setSk (I.sk.go m i b x') i d) p w':=by
 have ou:=Fe.step (hS.mi m hm) hi.1 hi.2 (by rw[ha];exact hs);have hn:=(hS.nbs hC).2.2.2;have other:∀ {k z},(I.sk.go m i b x').ml k z=I.sk.ml k z\/(k=m/\z=i):=fun {k z}=>by
  by_cases e:k=m/\z=i
  ·exact .inr e
  ·exact .inl (O1 _ _ _ (by omega))
 refine⟨hS.bout,hS.bonce,hS.ne,hS.W,?_,?_,fun k hk=>?_,fun k z hk q=>?_,hS.left,fun z q=>?_,fun q=>hS.lo0 fun z r=>?_,fun z=>?_,hS.took,hS.done,hS.stp,fun q1 q2=>?_,hS.od1,hS.nogive⟩
 ·obtain⟨v,q,q2⟩:=hS.best;refine⟨v,?_,q2⟩;show w'.heap[p.out]?=some (.cells #[.int .i32 (((I.sk.go m i b x').mw 0).code:Nat),.int .u32 (((I.sk.go m i b x').mw 0).q:Nat),.int .i64 v] p.oty (0,0));rcases E0 hm with rfl|rfl
  ·rw[Ru];exact hw.best q
  ·rw[M5 _ _ _ _ (by omega),hw.old hn];exact q
 ·show w'.heap[p.once]?=some (.cells #[.int .u32 (if I.sk.od then 1 else 0),.int .i32 (((I.sk.go m i b x').mw 1).code:Nat),.int .u32 (((I.sk.go m i b x').mw 1).q:Nat)] p.onty (0,0));rcases E0 hm with rfl|rfl
  ·rw[M5 _ _ _ _ (by omega),hw.old (Ne.symm hn)];exact hS.once
  ·rw[Ru];exact hw.once hS.once
 ·show Fe p.b p.W ((I.sk.go m i b x').ml k) ((I.sk.go m i b x').mw k);by_cases e:k=m
  ·subst e;rw[Ru,show (I.sk.go k i b x').ml k=upd (I.sk.ml k) i b from if_pos rfl];exact ou.1
  ·rw[M5 _ _ _ _ e,show (I.sk.go m i b x').ml k=I.sk.ml k from if_neg e];exact hS.mi k hk
 ·rcases other (k:=k) (z:=z) with e|⟨_,rfl⟩
  ·exact hS.busy k z hk (by rw[<- e];exact q)
  ·exact⟨y,ht⟩
 ·rcases other (k:=0) (z:=z) with e|⟨e,rfl⟩
  ·exact hS.lo1 z (e.symm.trans q)
  ·subst e;exact absurd ((As7 _ _ _ _ _).symm.trans q) (h0 rfl).2
 ·rcases other (k:=0) (z:=z) with e|⟨e,rfl⟩
  ·exact q z (e.trans r)
  ·subst e;exact(h0 rfl).1 (ha.symm.trans r)
 ·by_cases e:z=i
  ·subst e;rcases E0 hm with rfl|rfl
   ·have:=h2 1 (by omega) (by omega);right;right;rw[show (I.setSk (I.sk.go 0 z b x') z d).sk.ml 1 z=I.sk.ml 1 z from O1 _ _ _ (by omega)];exact this
   ·have:=h2 0 (by omega) (by omega);rw[show (I.setSk (I.sk.go 1 z b x') z d).sk.ml 0 z=I.sk.ml 0 z from O1 _ _ _ (by omega)];exact this.imp id .inl
  ·rw[show (I.setSk (I.sk.go m i b x') i d).sk.ml 0 z=I.sk.ml 0 z from O1 _ _ _ (.inl e),show (I.setSk (I.sk.go m i b x') i d).sk.ml 1 z=I.sk.ml 1 z from O1 _ _ _ (.inl e)];exact hS.two z
 ·obtain⟨z,q⟩:=hS.od0 q1 q2;refine⟨z,?_⟩;rcases other (k:=1) (z:=z) with e|⟨e,rfl⟩
  ·exact e.trans q
  ·subst e;exact absurd (ha.symm.trans q) (h1 rfl)
theorem Aoe (hS:Co I p w) (hC:Core ty I p w) (hm:m < 2) (ha:I.sk.ml m i=a) (hs:B1 a (I.sk.mw m) b x') (hw:Kk p m (I.sk.mw m) x' w w') (hi:p.b<=i/\i < p.b+p.W) (dx:j≠i) (d:Nat):Ec j p I w (I.setSk (I.sk.go m i b x') i d) w':=by
 have ou:=Fe.step (hS.mi m hm) hi.1 hi.2 (by rw[ha];exact hs);obtain⟨v,q,_⟩:=hS.best;have eml:(I.sk.go m i b x').ml m=upd (I.sk.ml m) i b:=if_pos rfl;refine⟨fun k hk=>?_,fun k hk e=>?_,fun _=>⟨hw.cell hm (hS.nbs hC).2.2.2 q,fun _=>Iff.rfl⟩,fun _ _=>⟨rfl,rfl⟩,fun _ q=>q⟩
 ·show (I.sk.go m i b x').V p k<=I.sk.V p k/\(((I.sk.go m i b x').mw k).code=(I.sk.mw k).code\/(I.sk.go m i b x').V p k < I.sk.V p k);by_cases e:k=m
  ·subst e;have e1:(I.sk.go k i b x').V p k=6 * I.sk.left+mN ML.wt p.b p.W (upd (I.sk.ml k) i b)+x'.q:=by
    unfold Sk.V;rw[eml,Ru];rfl
   rw[e1,Ru];unfold Sk.V;obtain⟨_,r1,r2⟩:=ou;exact⟨by omega,r2.imp id fun r=>by omega⟩
  ·have e1:(I.sk.go m i b x').V p k=I.sk.V p k:=by
    unfold Sk.V;rw[M5 _ _ _ _ e,show (I.sk.go m i b x').ml k=I.sk.ml k from if_neg e];rfl
   rw[e1,M5 _ _ _ _ e];exact⟨Nat.le_refl _,.inl rfl⟩
 ·show (I.sk.mw k).w<=((I.sk.go m i b x').mw k).w;by_cases e2:k=m
  ·subst e2;rw[Ru];obtain⟨r1,r2⟩:=(hS.mi k hm).range (i:=j) (by rw[e];simp);exact((hS.mi k hm).hand_keep hi.1 hi.2 (by rw[ha];exact hs) r1 r2 dx e).1
  ·rw[M5 _ _ _ _ e2];exact Nat.le_refl _
theorem Lf (hI:Ae ty top I w) (hp:I.ph=some p) (hb:p.b<=i) (hi:i < I.cnt):p.b<=i/\i < p.b+p.W:=⟨hb,by have:=(hI.core p hp).cntW;omega⟩
theorem Ahh (hS:Co I p w) (hs:I.hs=w.heap.size) (hm:m < 2) (z:Bool) (o:Nat) (ho:o=p.mO m\/o=p.mO m+1):S9 I i ⟨.cell ⟨p.mB m,o,none⟩,z,true⟩:=by
 refine .inl ⟨_,z,rfl,(hS.bkm hs hm).1,?_⟩;rcases E0 hm with rfl|rfl
 ·exact .inr (.inr ⟨hS.bout,by show o < 2;simp[Ph.mO] at ho;omega⟩)
 ·exact .inl ⟨_,hS.bonce⟩
theorem On (I:Ab) (i:Nat):I.setSk I.sk i (I.deaf i)=I:=by
 have:upd I.deaf i (I.deaf i)=I.deaf:=by funext k;by_cases e:k=i<;>simp[upd,e]
 unfold Ab.setSk;rw[this]
theorem Fe.keep (h:Fe p.b p.W (I.sk.ml m) x) (ha:I.sk.ml m i=.own k) (k':Nat):Fe p.b p.W (upd (I.sk.ml m) i (.own k')) x/\mN ML.wt p.b p.W (upd (I.sk.ml m) i (.own k'))<=mN ML.wt p.b p.W (I.sk.ml m):=by
 have hr:=h.range (i:=i) (by rw[ha];simp);obtain⟨q1,q2,_⟩:=Fe.step h hr.1 hr.2 (by rw[ha];exact B1.keep k k');exact⟨q1,by omega⟩
def Sk.own (s:Sk) (m i k:Nat) (o:Option Nat) (B:Nat) (tk:Nat->Prop) (od:Bool):Sk:={ s with ml:=fun z=>if z=m then upd (s.ml m) i (.own k) else s.ml z,took:=tk,od:=od,lo:=if m=0 then upd s.lo B o else s.lo }
theorem Aa2 (s:Sk) (m i k:Nat) (o:Option Nat) (B:Nat) (tk:Nat->Prop) (od:Bool):(s.own m i k o B tk od).ml m i=.own k:=by simp[Sk.own,upd_same]
theorem Ev (s:Sk) {m i k:Nat} {o:Option Nat} {B:Nat} {tk:Nat->Prop} {od:Bool} {z j:Nat} (h:j≠i\/z≠m):(s.own m i k o B tk od).ml z j=s.ml z j:=by
 simp only[Sk.own];by_cases e:z=m
 ·rw[if_pos e,upd_ne _ _ (h.resolve_right fun q=>q e),e]
 ·rw[if_neg e]
theorem Aa1 (s:Sk) (m i k:Nat) (o:Option Nat) (B:Nat) (tk:Nat->Prop) (od:Bool):(s.own m i k o B tk od).ml m=upd (s.ml m) i (.own k):=if_pos rfl
theorem Lr (s:Sk) {m i k:Nat} {o:Option Nat} {B:Nat} {tk:Nat->Prop} {od:Bool} {z:Nat} (h:z≠m):(s.own m i k o B tk od).ml z=s.ml z:=if_neg h
theorem Mo {o:Option Nat} {tk:Nat->Prop} {od stp:Bool} {d k':Nat} (hS:Co I p w) (hm:m < 2) (ht:I.tag i=.busy y) (ha:I.sk.ml m i=.own k) (h2:∀z,z≠m->z < 2->I.sk.ml z i=.off\/I.sk.ml z i=.fresh)
  (h0:m=0->(k'=1->o=some i)/\(k'≠1->o=none)) (hb:∃v:Int,w'.heap[p.out]?=some (.cells #[.int .i32 ((I.sk.mw 0).code:Nat),.int .u32 ((I.sk.mw 0).q:Nat),.int .i64 v] p.oty (0,0))/\Ld tk v)
  (gi:w'.heap[p.once]?=some (.cells #[.int .u32 (if od then 1 else 0),.int .i32 ((I.sk.mw 1).code:Nat),.int .u32 ((I.sk.mw 1).q:Nat)] p.onty (0,0))) (htk:∀x,tk x->p.hit x/\x < I.next) (hmono:∀x,I.sk.took x->tk x) (xh:stp=true->∃x,tk x)
  (hod0:od=false->stp=true->(m=1/\k'=2)\/(m=0/\I.sk.od=false/\I.stp=true)) (hod1:od=true->stp=true):Co { (I.setSk (I.sk.own m i k' o p.out tk od) i d) with stp:=stp } p w':=by
 have ou:=Fe.keep (hS.mi m hm) ha k';refine⟨hS.bout,hS.bonce,hS.ne,hS.W,hb,gi,fun z hz=>?_,fun z j hz q=>?_,hS.left,fun j q=>?_,fun q=>?_,fun j=>?_,htk,fun x q1 q2=>hmono x (hS.done x q1 q2),xh,fun q1 q2=>?_,hod1,hS.nogive⟩
 ·show Fe p.b p.W ((I.sk.own m i k' o p.out tk od).ml z) (I.sk.mw z);by_cases e:z=m
  ·subst e;rw[Aa1];exact ou.1
  ·rw[Lr _ e];exact hS.mi z hz
 ·have q':(I.sk.own m i k' o p.out tk od).ml z j≠.off:=q;by_cases e:j=i
  ·subst e;exact⟨y,ht⟩
  ·rw[Ev _ (.inl e)] at q';exact hS.busy z j hz q'
 ·have q':(I.sk.own m i k' o p.out tk od).ml 0 j=.own 1:=q;show (I.sk.own m i k' o p.out tk od).lo p.out=some j;by_cases e:m=0
  ·subst e;by_cases e2:j=i
   ·subst e2;rw[Aa2] at q';injection q' with q';show (if 0=0 then upd I.sk.lo p.out o else I.sk.lo) p.out=_;rw[if_pos rfl,upd_same];exact(h0 rfl).1 q'
   ·rw[Ev _ (.inl e2)] at q';exact absurd ((hS.mi 0 (by omega)).one q' ha) e2
  ·rw[Lr _ (Ne.symm e)] at q';show (if m=0 then upd I.sk.lo p.out o else I.sk.lo) p.out=_;rw[if_neg e];exact hS.lo1 j q'
 ·show (if m=0 then upd I.sk.lo p.out o else I.sk.lo) p.out=none;by_cases e:m=0
  ·subst e;rw[if_pos rfl,upd_same];exact(h0 rfl).2 fun e=>q i (by show (I.sk.own 0 i k' o p.out tk od).ml 0 i=_;rw[Aa2,e])
  ·rw[if_neg e];exact hS.lo0 fun j r=>q j ((Ev _ (.inr (Ne.symm e))).trans r)
 ·show (I.sk.own m i k' o p.out tk od).ml 0 j=_\/(I.sk.own m i k' o p.out tk od).ml 0 j=_\/(I.sk.own m i k' o p.out tk od).ml 1 j=_\/(I.sk.own m i k' o p.out tk od).ml 1 j=_;by_cases e:j=i
  ·subst e;rcases E0 hm with rfl|rfl
   ·rw[Lr (z:=1) _ (by omega)];exact .inr (.inr (h2 1 (by omega) (by omega)))
   ·rw[Lr (z:=0) _ (by omega)];exact(h2 0 (by omega) (by omega)).imp id .inl
  ·rw[Ev _ (.inl e),Ev _ (.inl e)];exact hS.two j
 ·rcases hod0 q1 q2 with⟨rfl,rfl⟩|⟨rfl,r1,r2⟩
  ·exact⟨i,Aa2 _ _ _ _ _ _ _ _⟩
  ·obtain⟨z,r⟩:=hS.od0 r1 r2;exact⟨z,(Ev _ (.inr (by omega))).trans r⟩
theorem Ku {o:Option Nat} {tk:Nat->Prop} {od stp:Bool} {d k':Nat} (hS:Co I p w) (hm:m < 2) (ha:I.sk.ml m i=.own k) (dx:j≠i) (hmono:∀x,I.sk.took x->tk x) (hc:(m=0/\k=1)\/(w'.cell? ⟨p.out,2,none⟩=w.cell? ⟨p.out,2,none⟩/\tk=I.sk.took)) (sj:m=1\/(od=I.sk.od/\stp=I.stp)) :
  Ec j p I w { (I.setSk (I.sk.own m i k' o p.out tk od) i d) with stp:=stp } w':=by
 have ou:=Fe.keep (hS.mi m hm) ha k';refine⟨fun z hz=>⟨?_,.inl rfl⟩,fun z hz _=>Nat.le_refl _,fun q=>?_,fun z q=>?_,hmono⟩
 ·show (I.sk.own m i k' o p.out tk od).V p z<=I.sk.V p z;unfold Sk.V;by_cases e:z=m
  ·subst e;rw[Aa1];show 6 * I.sk.left+_+(I.sk.mw z).q<=6 * I.sk.left+_+(I.sk.mw z).q;have:=ou.2;omega
  ·rw[Lr _ e];exact Nat.le_refl _
 ·rcases hc with⟨rfl,rfl⟩|⟨q1,q2⟩
  ·exact absurd ((hS.mi 0 (by omega)).one q ha) dx
  ·exact⟨q1,fun x=>by show tk x↔_;rw[q2]⟩
 ·rcases sj with rfl|q2
  ·exact absurd ((hS.mi 1 (by omega)).one q ha) dx
  ·exact q2
theorem Tn {o:Option Nat} {tk:Nat->Prop} {od:Bool} {d k':Nat} (hT:Iq I t) (hI:Ae ty top I w) (hp:I.ph=some p) (hk:p.kind=.seek) (hb:p.b<=i) (hi:i < I.cnt) (ht:I.tag i=.busy y) {mm:Mark} (hmm:mm≠.disable/\mm≠.enable/\(MemAct.mark mm).touch?=none/\∀a,mm≠.release a) (hd:I.deaf i=d)
  {z:MemOp} (hz:z.g=i/\z.act=.mark mm) (hP:∀l,blk l=p.out->¬I.wh.sh l->Hj o ⟨p.out,0,none⟩ (fun k=>I.live k l) (t++#[z]) l):Iq (I.setSk (I.sk.own 0 i k' o p.out tk od) i d) (t++#[z]):=by
 have hS:=(hI.core p hp).seek hk;have hmem:∀op∈#[z],op.g=i/\op.act.touch?=none/\op.act≠.mark .disable/\op.act≠.mark .enable/\∀a,op.act≠.mark (.release a):=fun op hop=>by
  rw[So hop,hz.2];exact⟨hz.1,hmm.2.2.1,by simp[hmm.1],by simp[hmm.2.1],fun a q=>hmm.2.2.2 a (by injection q)⟩
 have hs:∀op∈#[z],op.act.touch?=none:=fun op hop=>(hmem op hop).2.1;have hD:Vh I.wh (t++#[z]) I.cnt:=hT.d.silent (Nat.le_refl _) fun op hop=>⟨(hmem op hop).2.1,by rw[(hmem op hop).1];exact hi⟩;refine Iq.own (I':=I.setSk (I.sk.own 0 i k' o p.out tk od) i d) hT rfl rfl (fun op hop=>(hmem op hop).1) (Fs hI hp (.inr hb)) (fun _ _ q=>by rw[hp] at q;cases q) ?_ (fun z hz=>upd_ne _ _ hz) ?_ (fun op hop=>(hmem op hop).2.2.2.2) (fun m a ha=>hT.low m a (Ah hs ha)) (fun _ _ q1 q2=>⟨q1,q2⟩) (fun p' hp' _ q=>?_) (fun _ _ q=>by rw[hp] at q;cases q)
 ·refine hD.anew (fun m op x hm hx hs=>.inl ⟨hs,rfl⟩) (fun l h1 h2=>?_) (fun l h1 h2 k hk=>hD.ro l h1 h2 k hk) fun _ _ _ q=>q;by_cases e:blk l=p.out
  ·have e2:(I.setSk (I.sk.own 0 i k' o p.out tk od) i d).wh.own l=o:=by
    show (match I.bk (blk l) with
     | .priv i=>some i
     | .mix=>some ((I.mixAt l).getD 0)
     | .lock=>(if 0=0 then upd I.sk.lo p.out o else I.sk.lo) (blk l)
     | _=>some 0)=o
    rw[e,hS.bout];show (if 0=0 then upd I.sk.lo p.out o else I.sk.lo) p.out=o;rw[if_pos rfl,upd_same]
   rw[e2,show (I.setSk (I.sk.own 0 i k' o p.out tk od) i d).wh.lk l=⟨p.out,0,none⟩ by show (⟨blk l,0,none⟩:Addr)=_;rw[e]];exact hP l e h1
  ·have e2:(I.setSk (I.sk.own 0 i k' o p.out tk od) i d).wh.own l=I.wh.own l:=by
    show (match I.bk (blk l) with
     | .priv i=>some i
     | .mix=>some ((I.mixAt l).getD 0)
     | .lock=>(if 0=0 then upd I.sk.lo p.out o else I.sk.lo) (blk l)
     | _=>some 0)=match I.bk (blk l) with
     | .priv i=>some i
     | .mix=>some ((I.mixAt l).getD 0)
     | .lock=>I.sk.lo (blk l)
     | _=>some 0
    rw[if_pos rfl,upd_ne _ _ e]
   rw[e2];exact hD.own l h1 h2
 ·show Deaf (t++#[z]) i=upd I.deaf i d i;rw[upd_same,Go.ConcN.Deaf_still t i _ fun op hop=>⟨(hmem op hop).2.2.1,(hmem op hop).2.2.2.1⟩,hT.deaf];exact hd
 ·have q':(I.tag i).said:=q;rw[ht] at q';exact q'.elim
theorem Sm {s:Sk} {d:Nat} {stp:Bool} (hI:Ae ty top I w) (hp:I.ph=some p) (hk:p.kind=.seek) (hh:w'.heap[p.wg]?=w.heap[p.wg]?) (cu:∀m,s.ml m j=I.sk.ml m j) (hq:∀m,s.mw m=I.sk.mw m) (hw:E5 ty j I w):E5 ty j { (I.setSk s i d) with stp:=stp } w':=by
 cases hw with
 | wg p' st h1 h2 h3 h4 =>
  obtain rfl:=Ag hp h1;exact .wg p st h1 h2 h3 (h4.of_block hh)
 | que p' m h1 h2 h3 h4 h5=>exact .que p' m h1 h2 h3 ((cu m).trans h4) (by show (s.mw m).q=0;rw[hq];exact h5)
theorem Ahl {fn:FuncId} {pos:String} (mm:Mark):MemOp.ofEvents i fn pos #[mk mm]=#[{ g:=i,fn,pos,act:=.mark mm }]:=by rw[ofEvents_eq];simp[Go.ConcR.ofEvent_mk]
theorem Auc (hI:Ae ty top I w) (hp:I.ph=some p) (hk:p.kind=.seek) (hb:p.b<=i) (hi:i < I.cnt) (ht:I.tag i=.busy y) (ha:I.sk.ml 0 i=.own 0) (hd:I.deaf i=0) (h2:∀z,z≠0->z < 2->I.sk.ml z i=.off\/I.sk.ml z i=.fresh) (wk:Prop) :
  (Al P ty top Post).Do i I w (I.setSk (I.sk.own 0 i 1 (some i) p.out I.sk.took I.sk.od) i 0) w wk #[mk (.acquire (p.muA 0))]:=by
 have hC:=hI.core p hp;have hS:=hC.seek hk;have dg:Co (I.setSk (I.sk.own 0 i 1 (some i) p.out I.sk.took I.sk.od) i 0) p w:=Mo (stp:=I.stp) hS (by omega) ht ha h2 (fun _=>⟨fun _=>rfl,fun q=>absurd rfl q⟩) hS.best hS.once hS.took (fun _ q=>q) hS.stp (fun q1 q2=>.inr ⟨rfl,q1,q2⟩) hS.od1;refine⟨Nj hI hp ht dg hk rfl fun _ _ _=>rfl,fun j hj=>Pv hI hp hj hk rfl (fun _ _ _=>rfl) (fun z=>Ev _ (.inl hj)) (Ku (stp:=I.stp) hS (by omega) ha hj (fun _ q=>q) (.inr ⟨rfl,rfl⟩) (.inr ⟨rfl,rfl⟩)),fun t fn pos hT=>?_,fun _ _ _ _ _ _ _ _=>.inl rfl,.inr fun j hj hw=>Sm (stp:=I.stp) hI hp hk rfl (fun z=>Ev _ (.inl hj)) (fun _=>rfl) hw,rfl,.refl _⟩;rw[Ahl];refine Tn hT hI hp hk hb hi ht ⟨by simp,by simp,rfl,by simp⟩ hd ⟨rfl,rfl⟩ fun l e hns=>?_;have hro:¬I.wh.ro l:=by rintro⟨m,q⟩;rw[e,hS.bout] at q;cases q
 have:=hT.d.own l hns hro;have e1:I.wh.own l=none:=by
  simp only[Ab.wh,e,hS.bout];exact hS.lo0 fun j q=>by
   have:=(hS.mi 0 (by omega)).one q ha;subst this;rw[ha] at q;cases q
 rw[e1] at this;have e2:I.wh.lk l=p.muA 0:=by show (⟨blk l,0,none⟩:Addr)=_;rw[e];rfl
 rw[e2] at this;exact Mh.acquire (show Mh _ _ t l from this) (hT.nrel.app fun op hop a=>by rw[So hop];simp) ⟨rfl,rfl⟩ (by rw[hT.deaf];exact hd) ⟨hi,by rw[ht];simp,fun m q=>by rw[e,hS.bout] at q;cases q⟩
theorem Ao3 (hI:Ae ty top I w) (hp:I.ph=some p) (hk:p.kind=.seek) (hb:p.b<=i) (hi:i < I.cnt) (ht:I.tag i=.busy y) (ha:I.sk.ml 0 i=.own 1) (hd:I.deaf i=0) (h2:∀z,z≠0->z < 2->I.sk.ml z i=.off\/I.sk.ml z i=.fresh) (wk:Prop) :
  (Al P ty top Post).Do i I w (I.setSk (I.sk.own 0 i 3 none p.out I.sk.took I.sk.od) i 0) w wk #[mk (.releaseMerge (p.muA 0))]:=by
 have hC:=hI.core p hp;have hS:=hC.seek hk;have dg:Co (I.setSk (I.sk.own 0 i 3 none p.out I.sk.took I.sk.od) i 0) p w:=Mo (stp:=I.stp) hS (by omega) ht ha h2 (fun _=>⟨fun q=>(by cases q),fun _=>rfl⟩) hS.best hS.once hS.took (fun _ q=>q) hS.stp (fun q1 q2=>.inr ⟨rfl,q1,q2⟩) hS.od1;refine⟨Nj hI hp ht dg hk rfl fun _ _ _=>rfl,fun j hj=>Pv hI hp hj hk rfl (fun _ _ _=>rfl) (fun z=>Ev _ (.inl hj)) (Ku (stp:=I.stp) hS (by omega) ha hj (fun _ q=>q) (.inr ⟨rfl,rfl⟩) (.inr ⟨rfl,rfl⟩)),fun t fn pos hT=>?_,fun _ _ _ _ _ _ _ _=>.inl rfl,.inr fun j hj hw=>Sm (stp:=I.stp) hI hp hk rfl (fun z=>Ev _ (.inl hj)) (fun _=>rfl) hw,rfl,.refl _⟩;rw[Ahl];refine Tn hT hI hp hk hb hi ht ⟨by simp,by simp,rfl,by simp⟩ hd ⟨rfl,rfl⟩ fun l e hns=>?_;have hro:¬I.wh.ro l:=by rintro⟨m,q⟩;rw[e,hS.bout] at q;cases q
 have:=hT.d.own l hns hro;have e1:I.wh.own l=some i:=by
  simp only[Ab.wh,e,hS.bout];exact hS.lo1 i ha
 rw[e1] at this;exact Mh.release (show Perm t i l from this) ⟨rfl,rfl⟩ (by rw[hT.deaf];exact hd)
theorem Ata {tk:Nat->Prop} (hI:Ae ty top I w) (hp:I.ph=some p) (hk:p.kind=.seek) (hb:p.b<=i) (hi:i < I.cnt) (ht:I.tag i=.busy y) (ha:I.sk.ml 0 i=.own 1) (h2:∀z,z≠0->z < 2->I.sk.ml z i=.off\/I.sk.ml z i=.fresh)
  (hw:w'=w\/∃v:Int,w'=w.setCell ⟨p.out,2,none⟩ (.int .i64 v)) (hbv:∀v:Int,w'.cell? ⟨p.out,2,none⟩=some (.int .i64 v)->Ld tk v) (htk:∀x,tk x->p.hit x/\x < I.next) (hmono:∀x,I.sk.took x->tk x) (hes:∀e∈es,∃z,e=⟨.cell ⟨p.out,2,none⟩,z,false⟩) (wk:Prop) :
  (Al P ty top Post).Do i I w (I.setSk (I.sk.own 0 i 1 (some i) p.out tk I.sk.od) i (I.deaf i)) w' wk es:=by
 have hC:=hI.core p hp;have hS:=hC.seek hk;have hn:=hS.nbs hC;have hsz:w'.heap.size=w.heap.size:=by rcases hw with rfl|⟨v,rfl⟩<;>first|rfl|exact C5 _ _ _
 have gh:w'.tape=w.tape:=by rcases hw with rfl|⟨v,rfl⟩<;>rfl
 have hos:Cq w w':=by rcases hw with rfl|⟨v,rfl⟩<;>exact .of rfl rfl
 have hh:∀b,b≠p.out->w'.heap[b]?=w.heap[b]?:=fun b hb=>by rcases hw with rfl|⟨v,rfl⟩<;>first|rfl|exact Bh _ _ _ hb
 have hbest:∃v:Int,w'.heap[p.out]?=some (.cells #[.int .i32 ((I.sk.mw 0).code:Nat),.int .u32 ((I.sk.mw 0).q:Nat),.int .i64 v] p.oty (0,0))/\Ld tk v:=by
  obtain⟨v,q,_⟩:=hS.best;rcases hw with rfl|⟨v',rfl⟩
  ·exact⟨v,q,hbv v (by simp[World.cell?,q])⟩
  ·have e:(w.setCell ⟨p.out,2,none⟩ (.int .i64 v')).heap[p.out]?=some (.cells #[.int .i32 ((I.sk.mw 0).code:Nat),.int .u32 ((I.sk.mw 0).q:Nat),.int .i64 v'] p.oty (0,0)):=by rw[Bg];simp[q]
   exact⟨v',e,hbv v' (by simp[World.cell?,e])⟩
 have dg:Co (I.setSk (I.sk.own 0 i 1 (some i) p.out tk I.sk.od) i (I.deaf i)) p w':=Mo (stp:=I.stp) hS (by omega) ht ha h2 (fun _=>⟨fun _=>rfl,fun q=>absurd rfl q⟩) hbest ((hh _ (Ne.symm hn.2.2.2)).trans hS.once) htk hmono (fun q=>let ⟨x,r⟩:=hS.stp q;⟨x,hmono x r⟩) (fun q1 q2=>.inr ⟨rfl,q1,q2⟩) hS.od1;have elo:(I.sk.own 0 i 1 (some i) p.out tk I.sk.od).lo=I.sk.lo:=by
  show (if 0=0 then upd I.sk.lo p.out (some i) else I.sk.lo)=_;rw[if_pos rfl]
  funext z
  by_cases e:z=p.out
  ·rw[e,upd_same,hS.lo1 i ha]
  ·exact upd_ne _ _ e
 refine⟨Nj hI hp ht dg hk hsz fun b h1 _=>hh b h1,fun j hj=>Pv hI hp hj hk gh (fun b h1 _=>hh b h1) (fun z=>Ev _ (.inl hj)) (Ku (stp:=I.stp) hS (by omega) ha hj hmono (.inl ⟨rfl,rfl⟩) (.inr ⟨rfl,rfl⟩)),fun t fn pos hT=>?_,fun j cases c r _ hof hc hr=>.inl (hh r (Adg hI hp hk hof hc hr).1),.inr fun j hj hw=>Sm (stp:=I.stp) hI hp hk (hh _ (Ne.symm hn.1)) (fun z=>Ev _ (.inl hj)) (fun _=>rfl) hw,rfl,hos⟩;have hns:¬I.wh.sh (.cell ⟨p.out,2,none⟩):=by
  rintro(⟨s,q⟩|⟨q,_⟩|⟨_,q⟩)
  ·have q':I.bk p.out=.shd s:=q;rw[hS.bout] at q';cases q'
  ·have q':I.bk p.out=.mix:=q;rw[hS.bout] at q';cases q'
  ·exact absurd q (by simp[Afz])
 have hro:¬I.wh.ro (.cell ⟨p.out,2,none⟩):=by rintro⟨m,q⟩;have q':I.bk p.out=.fix m:=q;rw[hS.bout] at q';cases q'
 have how:I.wh.own (.cell ⟨p.out,2,none⟩)=some i:=by
  simp only[Ab.wh,blk,hS.bout];exact hS.lo1 i ha
 have evt:∀e∈es,∀z,(MemAct.ofEvent e).touch?=some z->z.loc=.cell ⟨p.out,2,none⟩/\z.kind=.plain:=fun e he z hz=>by
  obtain⟨b,rfl⟩:=hes e he;rw[Go.ConcR.ofEvent_cell] at hz;simp only[MemAct.touch?,Option.some.injEq] at hz;subst hz;exact⟨rfl,rfl⟩
 refine Iq.own (I':=I.setSk (I.sk.own 0 i 1 (some i) p.out tk I.sk.od) i (I.deaf i)) hT rfl rfl (fun op hop=>by obtain⟨e,_,rfl⟩:=Cc hop;rfl) (Fs hI hp (.inr hb)) (fun _ _ q=>by rw[hp] at q;cases q) (((hT.d.low (I':=I.setSk (I.sk.own 0 i 1 (some i) p.out tk I.sk.od) i (I.deaf i)) hT.low (fun _ _=>rfl) rfl elo fun k l _ hk=>hk)).app hi fun op hop=>?_) (fun z hz=>upd_ne _ _ hz) ?_ (fun op hop a e=>?_) (fun m a ha=>?_) (fun _ _ q1 q2=>⟨q1,q2⟩) (fun p' hp' _ q=>?_) (fun _ _ q=>by rw[hp] at q;cases q)
 ·obtain⟨e,he,rfl⟩:=Cc hop;refine⟨rfl,fun z hz=>.inr ?_⟩;obtain⟨e1,e2⟩:=evt e he z hz;rw[e1];refine⟨hns,by rw[e2];simp,rfl,.inl ⟨hro,?_⟩⟩;have:(I.setSk (I.sk.own 0 i 1 (some i) p.out tk I.sk.od) i (I.deaf i)).wh.own (.cell ⟨p.out,2,none⟩)=I.wh.own (.cell ⟨p.out,2,none⟩):=by
   simp only[Ab.wh];rw[show (I.setSk (I.sk.own 0 i 1 (some i) p.out tk I.sk.od) i (I.deaf i)).sk.lo=I.sk.lo from elo];rfl
  rw[this];exact how
 ·rw[Deaf_own,deafBehind_still _ fun e he=>by obtain⟨b,rfl⟩:=hes e he;simp];exact(hT.deaf i).trans (upd_same _ _ _).symm
 ·obtain⟨e',he,rfl⟩:=Cc hop;obtain⟨b,rfl⟩:=hes e' he;rw[Go.ConcR.ofEvent_cell] at e;cases e
 ·obtain⟨z,hz,jl⟩:=touch_of ha;rcases getElem?_append_cases hz with⟨_,hz'⟩|⟨_,hop⟩
  ·exact hT.low m a (by rw[touchAt_of hz'];exact jl)
  ·obtain⟨e,he,rfl⟩:=Cc hop;rw[(evt e he a jl).1];exact(hS.lt hI.hs).1
 ·have q':(I.tag i).said:=q;rw[ht] at q';exact q'.elim
theorem Asc (hI:Ae ty top I w) (hp:I.ph=some p) (hk:p.kind=.seek) (hb:p.b<=i) (hi:i < I.cnt) (ht:I.tag i=.busy y) (ha:I.sk.ml 1 i=.own 2) (h2:∀z,z≠1->z < 2->I.sk.ml z i=.off\/I.sk.ml z i=.fresh) (hst:I.stp=true) (wk:Prop) :
  (Al P ty top Post).Do i I w (I.setSk (I.sk.own 1 i 1 none p.out I.sk.took true) i (I.deaf i)) (w.setCell ⟨p.once,0,none⟩ (.int .u32 1)) wk #[wr ⟨p.once,0,none⟩]:=by
 have hC:=hI.core p hp;have hS:=hC.seek hk;have hn:=hS.nbs hC;have hh:∀b,b≠p.once->(w.setCell ⟨p.once,0,none⟩ (.int .u32 1)).heap[b]?=w.heap[b]?:=fun b hb=>Bh _ _ _ hb;have dg:Co (I.setSk (I.sk.own 1 i 1 none p.out I.sk.took true) i (I.deaf i)) p (w.setCell ⟨p.once,0,none⟩ (.int .u32 1)):=Mo (stp:=I.stp) hS (by omega) ht ha h2 (fun q=>by cases q) (by rw[hh _ hn.2.2.2];exact hS.best) (by rw[Bg];simp[hS.once]) hS.took (fun _ q=>q) hS.stp (fun q1 _=>by cases q1) fun _=>hst;refine Ao5 (es:=#[wr ⟨p.once,0,none⟩]) hI hp hk hb hi ht rfl (by simpa [deafBehind,wr] using dg) (C5 _ _ _) rfl (.of rfl rfl) (fun b _ h=>hh b h) (fun e he=>?_) (fun j hj z=>Ev _ (.inl hj)) (fun j hj=>?_) (.inr fun _ _ _ _ _ q=>q)
 ·simp only[List.mem_toArray,List.mem_singleton] at he;subst he;exact .inl ⟨_,true,rfl,(hS.lt hI.hs).2,.inl ⟨_,hS.bonce⟩⟩
 ·have:=Ku (stp:=I.stp) (tk:=I.sk.took) (od:=true) (o:=none) (k':=1) (d:=I.deaf i) (w':=w.setCell ⟨p.once,0,none⟩ (.int .u32 1)) hS (show 1 < 2 by omega) ha hj (fun _ q=>q) (.inr ⟨by simp only[World.cell?,hh p.out hn.2.2.2],rfl⟩) (.inl rfl);exact this
end
section
variable {ty:TypeId} {top:Nat} {I I' I2:Ab} {p:Ph} {c:Ir} {w w' w2:World} {i j k n m y d:Nat} {t u:Trace} {P:Program} {Post:Value->World->Prop} {es:Array Event} {a b:ML} {x x':MW} {wk:Prop} {f:Nat->ML}
def Ab.halt (I:Ab) (p:Ph) (i:Nat):Ab:={ (I.setSk (I.sk.own 1 i 2 none p.out I.sk.took I.sk.od) i (I.deaf i)) with stp:=true }
theorem Asd {s rc:Nat} {z:Nat} (hI:Ae ty top I w) (hp:I.ph=some p) (hk:p.kind=.seek) (hb:p.b<=i) (hi:i < I.cnt) (ht:I.tag i=.busy y) (ha:I.sk.ml 1 i=.own 1) (h2:∀z,z≠1->z < 2->I.sk.ml z i=.off\/I.sk.ml z i=.fresh) (sj:I.sk.od=false) (hz:I.sk.took z)
  (hj:w.heap[p.stop]?=some (.chan 0 #[] false s rc false)) (wk:Prop) (hwk:wk):(Al P ty top Post).Do i I w (I.halt p i) (w.setChan p.stop 0 #[] true s rc false) wk #[⟨.obj p.stop,false,true⟩,⟨.obj p.stop,true,true⟩]:=by
 have hC:=hI.core p hp;have hS:=hC.seek hk;have hn:=hS.nbs hC;have hno:=(Ln hI hp hk).1;have hst:=hC.stop;rw[hj] at hst;injection hst with hst;injection hst with _ _ e1 e2 e3;subst e2 e3;have hsz:(w.setChan p.stop 0 #[] true 0 0 false).heap.size=w.heap.size:=by simp[World.setChan]
 have hh:∀b,b≠p.stop->(w.setChan p.stop 0 #[] true 0 0 false).heap[b]?=w.heap[b]?:=fun b hb=>heap_setChan _ _ _ _ _ _ _ _ hb;have l3:=(hC.lts hI.hs).2.2;have noph:∀ {q:Prop},I.ph=none->q:=fun q=>by rw[hp] at q;cases q
 have dg:Co (I.halt p i) p (w.setChan p.stop 0 #[] true 0 0 false):=Mo (stp:=true) hS (by omega) ht ha h2 (fun q=>by cases q) (by rw[hh _ hn.2.2.1];exact hS.best) (by rw[hh _ hS.ne.2.2];exact hS.once) hS.took (fun _ q=>q) (fun _=>⟨z,hz⟩) (fun _ _=>.inl ⟨rfl,rfl⟩) fun _=>rfl;have qq:Core ty (I.halt p i) p (w.setChan p.stop 0 #[] true 0 0 false):=by
  have h:=hC;refine⟨h.bwg,h.bjobs,h.bstop,h.ne,fun b m hb e=>?_,h.fixm,h.fd,h.ftag,h.cnt,h.add,h.rest,h.wtag,h.early,?_,?_,?_,fun q=>absurd hk q,h.job,h.nle,fun _=>.inr rfl,⟨h.busy.1,h.busy.2⟩,fun j hj=>?_,h.small,h.pos,(fun q=>by rw[hk] at q;cases q),fun _=>dg,h.nomix⟩
  ·rw[hh b (fun q=>by have e':I.bk b=.fix m:=e;rw[q,h.bstop] at e';cases e')];exact h.fix b m hb e
  ·obtain⟨st,sm,q1,q2⟩:=h.wgm;exact⟨st,sm,q1.of_block (hh _ (Ne.symm h.ne.2.1)),q2⟩
  ·obtain⟨s',q⟩:=h.jobs;exact⟨s',(hh _ h.ne.2.2).trans q⟩
  ·exact Dj _ _ _ _ _ _ _ _ (by rw[<- hI.hs];exact l3)
  ·refine(upd_ne _ _ fun e=>?_).trans (h.hear j hj);subst e;have hj':I.tag j=.idle\/I.tag j=.feed:=hj;rw[ht] at hj';rcases hj' with e|e<;>cases e
 refine⟨⟨by rw[hsz];exact hI.hs,hI.cnt,hI.main,hI.un,fun q=>noph q,fun p' hp'=>by obtain rfl:=Ag hp hp';exact qq,fun c hc=>?_,fun c hc=>?_,hI.mate,hI.alone,hI.top⟩,fun j hj=>⟨rfl,upd_ne _ _ hj,⟨rfl,rfl⟩,fun _=>⟨Nat.le_refl _,fun _ _ _=>rfl,fun _ h1 h2=>⟨h1,h2⟩,fun b _ e=>hh b fun q=>?_,rfl,fun _ h=>h.1,fun h _=>h,rfl,fun _ _ _=>⟨rfl,Nat.le_refl _⟩,fun _ _ q=>noph q,fun _ _ _ _ q=>noph q,fun _ _=>Nat.le_refl _,fun _ _ _=>Iff.rfl,fun _ _ _=>rfl,fun z=>Ev _ (.inl hj),fun p' hp' _=>?_⟩⟩,fun t fn pos hT=>?_,fun _ _ _ _ _ _ _ _=>.inr hwk,.inl hwk,rfl,.of rfl rfl⟩
 ·have hc':I.col=some c:=hc;rw[hno] at hc';cases hc'
 ·have hc':I.col=some c:=hc;rw[hno] at hc';cases hc'
 ·rw[q,hC.bstop] at e;rcases e with e|⟨m,_,e⟩<;>cases e
 ·obtain rfl:=Ag hp hp'.1;exact Ku hS (by omega) ha hj (fun _ q=>q) (.inr ⟨by simp only[World.cell?,hh p.out hn.2.2.1],rfl⟩) (.inl rfl)
 ·refine Iq.cells' (I':=I.halt p i) hT hI (by rw[hp];simp) hi (Fs hI hp (.inr hb)) (fun e he=>?_) rfl rfl rfl rfl rfl rfl rfl (fun _ _=>rfl) (fun _ hk=>upd_ne _ _ hk) (by show upd I.deaf i (I.deaf i) i=_;rw[upd_same];rfl) id fun p' hp' _ q=>?_
  ·simp only[List.mem_toArray,List.mem_cons,List.not_mem_nil,or_false] at he;rcases he with rfl|rfl
   ·refine .inr (.inl ⟨fun x hx=>?_,by simp[MemAct.ofEvent]⟩);simp only[MemAct.ofEvent,MemAct.touch?,Option.some.injEq] at hx;subst hx;exact⟨rfl,l3,_,hC.bstop⟩
   ·exact .inr (.inl ⟨fun x hx=>by simp[MemAct.ofEvent,MemAct.touch?] at hx,by simp[MemAct.ofEvent]⟩)
  ·have q':(I.tag i).said:=q;rw[ht] at q';exact q'.elim
def Ab.looked (I:Ab) (i y:Nat):Ab:={ I with tag:=upd I.tag i .idle,done:=fun z=>I.done z\/z=y,sk:={ I.sk with ml:=fun m=>upd (I.sk.ml m) i .off } }
theorem Akv (hI:Ae ty top I w) (hp:I.ph=some p) (hk:p.kind=.seek) (hb:p.b<=i) (hi:i < I.cnt) (ht:I.tag i=.busy y) (hd:I.deaf i=0) (h2:∀z,z < 2->I.sk.ml z i=.off\/I.sk.ml z i=.fresh) (hy:p.hit y->I.sk.took y) (wk:Prop):(Al P ty top Post).Do i I w (I.looked i y) w wk #[]:=by
 have h:=hI.core _ hp;have hS:=h.seek hk;have hno:=(Ln hI hp hk).1;have hr:=Lf hI hp hb hi;have hfi:p.f≠i:=by have:=h.fd;omega
 have hi0:i≠0:=by have:=h.fd;omega
 have tf:(I.looked i y).tag p.f=I.tag p.f:=upd_ne _ _ hfi;have noph:∀ {q:Prop},I.ph=none->q:=fun q=>by rw[hp] at q;cases q
 have hv:Et (upd I.tag i .idle) p=Et I.tag p:=by
  have:=Gq (tag:=I.tag) .idle hb hr.2;rw[ht] at this;simp only[B6.cw] at this;omega
 have mu:∀z,z < 2->Fe p.b p.W (upd (I.sk.ml z) i .off) (I.sk.mw z)/\mN ML.wt p.b p.W (upd (I.sk.ml z) i .off)<=mN ML.wt p.b p.W (I.sk.ml z):=fun z hz=>by
  rcases h2 z hz with e|e
  ·have:upd (I.sk.ml z) i .off=I.sk.ml z:=by funext q;by_cases e2:q=i<;>simp[upd,e2,e]
   rw[this];exact⟨hS.mi z hz,Nat.le_refl _⟩
  ·obtain⟨q1,q2,_⟩:=Fe.step (hS.mi z hz) hr.1 hr.2 (by rw[e];exact B1.fin);exact⟨q1,by omega⟩
 have own:∀ {z j k},upd (I.sk.ml z) i .off j=.own k->I.sk.ml z j=.own k:=fun {z j k} e=>by
  by_cases q:j=i
  ·rw[q,upd_same] at e;cases e
  ·rwa [upd_ne _ _ q] at e
 have dg:Co (I.looked i y) p w:=by
  refine⟨hS.bout,hS.bonce,hS.ne,hS.W,hS.best,hS.once,fun z hz=>(mu z hz).1,fun z j hz q=>?_,hS.left,fun j q=>hS.lo1 j (own q),fun q=>hS.lo0 fun j r=>?_,fun j=>?_,hS.took,fun x q1 q2=>?_,hS.stp,fun q1 q2=>?_,hS.od1,fun j x e=>?_⟩
  ·have q':upd (I.sk.ml z) i .off j≠.off:=q;by_cases e:j=i
   ·rw[e,upd_same] at q';exact absurd rfl q'
   ·rw[upd_ne _ _ e] at q';obtain⟨x,r⟩:=hS.busy z j hz q';exact⟨x,(upd_ne _ _ e).trans r⟩
  ·by_cases e:j=i
   ·rw[e] at r;rcases h2 0 (by omega) with q|q<;>(rw[r] at q;cases q)
   ·exact q j ((upd_ne _ _ e).trans r)
  ·show upd (I.sk.ml 0) i .off j=_\/upd (I.sk.ml 0) i .off j=_\/upd (I.sk.ml 1) i .off j=_\/upd (I.sk.ml 1) i .off j=_;by_cases e:j=i
   ·left;rw[e,upd_same]
   ·rw[upd_ne _ _ e,upd_ne _ _ e];exact hS.two j
  ·rcases q1 with q|rfl
   ·exact hS.done x q q2
   ·exact hy q2
  ·obtain⟨j,r⟩:=hS.od0 q1 q2;refine⟨j,(upd_ne _ _ fun e=>?_).trans r⟩;rw[e] at r;rcases h2 1 (by omega) with q|q<;>(rw[r] at q;cases q)
  ·have e':upd I.tag i .idle j=.give x:=e;by_cases q:j=i
   ·rw[q,upd_same] at e';cases e'
   ·rw[upd_ne _ _ q] at e';exact hS.nogive j x e'
 have hC:Core ty (I.looked i y) p w:=by
  refine⟨h.bwg,h.bjobs,h.bstop,h.ne,h.fix,h.fixm,h.fd,by rw[tf];exact h.ftag,?_,fun j q e=>by rw[tf] at e;exact h.add j q e,fun k h1 h2 h3=>?_,fun k hk=>?_,fun hc k h1 h2=>?_,?_,by rw[tf];exact h.jobs,h.stop,h.stpk,fun z hz=>?_,h.nle,by rw[tf];exact h.full,⟨fun k z e=>?_,fun z hz=>hz.elim (h.busy.2 z) fun q=>by rw[q];exact(h.busy.1 i y (.inl ht)).1⟩,fun k hk=>?_,h.small,h.pos,(fun q=>by rw[hk] at q;cases q),fun _=>dg,h.nomix⟩
  ·show I.cnt=p.b+(I.looked i y).started p;have:=h.cnt;unfold Ab.started at this ⊢;rw[tf];exact this
  ·show upd I.tag i _ k=_;rw[upd_ne _ _ (by omega)];exact h.rest k h1 h2 h3
  ·show (upd I.tag i _ k).works;by_cases q:k=i
   ·subst q;rw[upd_same];trivial
   ·rw[upd_ne _ _ q];exact h.wtag k hk
  ·rw[tf] at hc;show (upd I.tag i _ k).early;by_cases q:k=i
   ·subst q;rw[upd_same];trivial
   ·rw[upd_ne _ _ q];exact h.early hc k h1 h2
  ·obtain⟨st,sm,q1,q2⟩:=h.wgm;refine⟨st,sm,q1,?_⟩;have hlast:(∀k,p.b<=k->¬(I.tag k).lasts)->∀k,p.b<=k->¬(upd I.tag i .idle k).lasts:=fun hnl k hk=>by
    by_cases q:k=i
    ·subst q;rw[upd_same];exact id
    ·rw[upd_ne _ _ q];exact hnl k hk
   cases q2 with
   | opn q3 q4 =>
    have hm:=Dl.opn (tag:=upd I.tag i .idle) (p:=p) (by rw[upd_ne _ _ hfi];exact q3) (hlast q4);rw[upd_ne _ _ hfi,hv] at hm;exact hm
   | reg q3 q4 q5 =>
    have hm:=Dl.reg (tag:=upd I.tag i .idle) (p:=p) (by rw[upd_ne _ _ hfi];exact q3) (hlast q4) (by rw[hv];exact q5);rw[hv] at hm;exact hm
   | last L k q3 q4 q5 q6 =>
    exfalso;by_cases e:i=L
    ·subst e;rw[ht] at q5;cases q5
    ·have:=q6 i hb e;rw[ht] at this;cases this
   | sema q3 q4=>have:=q4 i hb;rw[ht] at this;cases this
   | fin q3 q4=>have:=q4 i hb;rw[ht] at this;cases this
  ·by_cases e:z=y
   ·exact .inl (.inr e)
   ·rcases h.job z hz with q|⟨m,q1,q2⟩
    ·exact .inl (.inl q)
    ·refine .inr ⟨m,q1,?_⟩;show (upd I.tag i _ m).at_ z;rw[upd_ne _ _ (fun q=>by
      subst q;rw[ht] at q2;rcases q2 with q2|q2
      ·injection q2 with q2;exact e q2.symm
      ·cases q2)]
     exact q2
  ·have e':(upd I.tag i .idle k).at_ z:=e;by_cases q:k=i
   ·subst q;rw[upd_same] at e';rcases e' with e' | e'<;>cases e'
   ·rw[upd_ne _ _ q] at e';obtain⟨b1,b2,b3⟩:=h.busy.1 k z e';refine⟨b1,fun r=>r.elim b2 fun r=>q ?_,fun j e2=>?_⟩
    ·subst r;exact((h.busy.1 i z (.inl ht)).2.2 k e')
    ·have e3:(upd I.tag i .idle j).at_ z:=e2;by_cases q2:j=i
     ·subst q2;rw[upd_same] at e3;rcases e3 with e3|e3<;>cases e3
     ·rw[upd_ne _ _ q2] at e3;exact b3 j e3
  ·by_cases q:k=i
   ·subst q;exact hd
   ·refine h.hear k (hk.imp (fun e=>?_) fun e=>?_)<;>(have e':upd I.tag i .idle k=_:=e;rwa [upd_ne _ _ q] at e')
 refine⟨⟨hI.hs,hI.cnt,?_,fun k hk=>?_,fun q=>noph q,fun p' hp'=>by obtain rfl:=Ag hp hp';exact hC,(fun c hc=>by have hc':I.col=some c:=hc;rw[hno] at hc';cases hc'),(fun c hc=>by have hc':I.col=some c:=hc;rw[hno] at hc';cases hc'),hI.mate,hI.alone,hI.top⟩,fun j hj=>⟨upd_ne _ _ hj,rfl,⟨rfl,rfl⟩,fun _=>⟨Nat.le_refl _,fun _ _ _=>rfl,fun _ h1 h2=>⟨h1,h2⟩,fun _ _ _=>rfl,rfl,fun _ h=>h.1,fun h _=>h,rfl,fun p' hp' _=>⟨rfl,?_⟩,fun _ _ q=>noph q,fun _ _ _ _ q=>noph q,fun _ _=>Nat.le_refl _,(fun _ q=>absurd hno q),(fun _ _ h=>h),(fun z=>upd_ne _ _ hj),fun p' hp' _=>?_⟩⟩,fun t fn pos hT=>?_,fun _ _ _ _ _ _ _ _=>.inl rfl,.inr fun j hj hwt=>Og hwt rfl (upd_ne _ _ hj) (fun m q=>⟨(upd_ne _ _ hj).trans q,id⟩) fun _ _=>rfl,rfl,.refl _⟩
 ·show upd I.tag i _ 0≠_;rw[upd_ne _ _ (Ne.symm hi0)];exact hI.main
 ·show upd I.tag i _ k=_;rw[upd_ne _ _ (by have:I.cnt<=k:=hk;omega)];exact hI.un k hk
 ·obtain rfl:=Ag hp hp'.1;exact Nat.le_of_eq hv
 ·obtain rfl:=Ag hp hp'.1;refine⟨fun z hz=>⟨?_,.inl rfl⟩,fun _ _ _=>Nat.le_refl _,fun _=>⟨rfl,fun _=>Iff.rfl⟩,fun _ _=>⟨rfl,rfl⟩,fun _ q=>q⟩;show 6 * I.sk.left+mN ML.wt p.b p.W (upd (I.sk.ml z) i .off)+(I.sk.mw z).q<=6 * I.sk.left+mN ML.wt p.b p.W (I.sk.ml z)+(I.sk.mw z).q;have:=(mu z hz).2;omega
 ·rw[Hr];refine⟨hT.d.low hT.low (fun _ _=>rfl) rfl rfl fun k l _ hk=>⟨hk.1,fun e=>hk.2.1 (by
   show upd I.tag i _ k=_;rw[upd_ne _ _ (fun q=>by subst q;rw[ht] at e;cases e)];exact e),hk.2.2⟩,hT.deaf,hT.nrel,hT.low,fun p' hp' k hk hk2 hs=>?_,hT.old,fun _ _ q=>noph q,fun _ _ q=>noph q⟩
  have hs':(upd I.tag i .idle k).said:=hs;by_cases q:k=i
  ·subst q;rw[upd_same] at hs';exact hs'.elim
  ·rw[upd_ne _ _ q] at hs';exact hT.rel p' hp' k hk hk2 hs'
structure In (p:Ph) (i y d:Nat) (f:Nat->ML) (I:Ab):Prop where
 ph:I.ph=some p
 kind:p.kind=.seek
 b:p.b<=i
 i0:i≠0
 tag:I.tag i=.busy y
 deaf:I.deaf i=d
 ml:∀m,m < 2->I.sk.ml m i=f m
theorem In.ng (h:In p i y d f I):I.tag i≠.gone:=by rw[h.tag];simp
theorem In.ns (h:In p i y d f I):¬(I.tag i).tied:=by rw[h.tag];exact id
theorem In.on (h:In p i y d f I):I.on i p:=⟨h.ph,.inl h.i0⟩
theorem In.rely (h:In p i y d f I) (hr:G5 i I w I2 w2):In p i y d f I2/\Ec i p I w I2 w2/\Kw i I I2:=by
 have l:=hr.live h.ng;exact⟨⟨l.ph _ h.on,h.kind,h.b,h.i0,hr.tag.trans h.tag,hr.deaf.trans h.deaf,fun m hm=>(l.ml m).trans (h.ml m hm)⟩,l.sk p h.on h.kind,l.kw⟩
theorem In.seek (h:In p i y d f I) (hI:Ae ty top I w):Co I p w:=(hI.core p h.ph).seek h.kind
theorem In.setDeaf (h:In p i y d f I) (d':Nat):In p i y d' f (I.setDeaf i d'):=⟨h.ph,h.kind,h.b,h.i0,h.tag,upd_same _ _ _,h.ml⟩
theorem In.go (h:In p i y d f I) (hm:m < 2) (b:ML) (x:MW) (d':Nat):In p i y d' (upd f m b) (I.setSk (I.sk.go m i b x) i d') :=
 ⟨h.ph,h.kind,h.b,h.i0,h.tag,upd_same _ _ _,fun k hk=>by
  show (I.sk.go m i b x).ml k i=_;by_cases e:k=m
  ·subst e;rw[As7,upd_same]
  ·rw[O1 _ _ _ (.inr e),upd_ne _ _ e];exact h.ml k hk⟩
theorem As6 (I:Ab) (s:Sk) (j d:Nat):Kw i I (I.setSk s j d):=⟨Nat.le_refl _,fun _ h=>h,fun _ h=>h.1,rfl,fun _ _=>Nat.le_refl _⟩
theorem Arx (I:Ab) (j d:Nat):Kw i I (I.setDeaf j d):=⟨Nat.le_refl _,fun _ h=>h,fun _ h=>h.1,rfl,fun _ _=>Nat.le_refl _⟩
end
section
variable {ty:TypeId} {top:Nat} {I I' I2:Ab} {p:Ph} {c:Ir} {w w' w2:World} {i j k n m y d:Nat} {t u:Trace} {P:Program} {Post:Value->World->Prop} {es:Array Event} {a b:ML} {x x':MW} {wk:Prop} {f:Nat->ML} {g g' gT gF:Goroutine}
structure Dp (i:Nat) (p:Ph) (I I':Ab):Prop where
 kw:Kw i I I'
 took:∀x,I.sk.took x->I'.sk.took x
 v:∀m,m < 2->I'.sk.V p m<=I.sk.V p m
theorem Dp.refl (i:Nat) (p:Ph) (I:Ab):Dp i p I I:=⟨.refl _ _,fun _ h=>h,fun _ _=>Nat.le_refl _⟩
theorem Dp.trans {I3:Ab} (h:Dp i p I I2) (h':Dp i p I2 I3):Dp i p I I3:=⟨h.kw.trans h'.kw,fun x q=>h'.took x (h.took x q),fun m hm=>Nat.le_trans (h'.v m hm) (h.v m hm)⟩
theorem Ec.aft (h:Ec i p I w I2 w2) (hk:Kw i I I2):Dp i p I I2:=⟨hk,h.took,fun m hm=>(h.v m hm).1⟩
theorem Ds (h:In p i y d f I) (hr:g.status=.running) (K:∀I2 w2,In p i y d f I2->Ec i p I w I2 w2->Dp i p I I2->Ae ty top I2 w2->i < I2.cnt->NX P ty top Post i I2 w2 g):LV P ty top Post i I w g :=
 An hr h.ng fun I2 w2 hrl hI hi=>let ⟨q1,q2,q3⟩:=h.rely hrl;K I2 w2 q1 q2 (q2.aft q3) hI hi
theorem Np {mm:Mark} {d':Nat} (h:In p i y d f I) (hr:g.status=.running) (hm:(mm=.disable/\d'=d+1)\/(mm=.enable/\d=d'+1)) (hst:∀w,stepG P (i==0) g w=.go g' w #[mk mm]) (K:∀I' w',In p i y d' f I'->Dp i p I I'->LV P ty top Post i I' w' g'):LV P ty top Post i I w g:=by
 refine Ds h hr fun I2 w2 h2 _ ha hI hi=>?_;have aj:=Kc (P:=P) (Post:=Post) (es:=#[mk mm]) hI hi (H7 (by rcases hm with⟨q,_⟩|⟨q,_⟩<;>simp[q])) (.inr (by rw[h2.tag];simp)) (mayWake P g=true);have e:deafBehind (I2.deaf i) #[mk mm]=d':=by
  rw[h2.deaf];rcases hm with⟨rfl,rfl⟩|⟨rfl,rfl⟩
  ·exact Vq _
  ·exact Yb _
 rw[e] at aj;exact .go g' w2 _ _ (hst w2) aj (K _ _ (h2.setDeaf d') (ha.trans ⟨Arx _ _ _,fun _ q=>q,fun _ _=>Nat.le_refl _⟩))
theorem In.at_ (h:In p i y d f I) (hI:Ae ty top I w) (hm:m < 2):w.cell? (p.muA m)=some (.int .i32 ((I.sk.mw m).code:Nat))/\w.cell? (p.msA m)=some (.int .u32 ((I.sk.mw m).q:Nat))/\∀o,w.frozen? ⟨p.mB m,o,none⟩=false:=(h.seek hI).at_ hm
theorem In.mi (h:In p i y d f I) (hI:Ae ty top I w) (hm:m < 2):Fe p.b p.W (I.sk.ml m) (I.sk.mw m):=(h.seek hI).mi m hm
theorem At8 (h:In p i y d f I) (hI:Ae ty top I w) (hi:i < I.cnt) (hm:m < 2) (ha:f m=a) (hs:B1 a (I.sk.mw m) b x') (hw:Kk p m (I.sk.mw m) x' w w') (d':Nat):Dp i p I (I.setSk (I.sk.go m i b x') i d')/\((I.sk.mw m).code≠x'.code->(I.setSk (I.sk.go m i b x') i d').sk.V p m < I.sk.V p m):=by
 have hr:=Lf hI h.ph h.b hi;have ou:=Fe.step (h.mi hI hm) hr.1 hr.2 (by rw[h.ml m hm,ha];exact hs);have e1:(I.sk.go m i b x').V p m=6 * I.sk.left+mN ML.wt p.b p.W (upd (I.sk.ml m) i b)+x'.q:=by
  unfold Sk.V;rw[show (I.sk.go m i b x').ml m=upd (I.sk.ml m) i b from if_pos rfl,Ru];rfl
 have e2:I.sk.V p m=6 * I.sk.left+mN ML.wt p.b p.W (I.sk.ml m)+(I.sk.mw m).q:=rfl;obtain⟨_,r1,r2⟩:=ou;refine⟨⟨As6 _ _ _ _,fun _ q=>q,fun k hk=>?_⟩,fun hne=>?_⟩
 ·show (I.sk.go m i b x').V p k<=I.sk.V p k;by_cases e:k=m
  ·subst e;omega
  ·unfold Sk.V;rw[M5 _ _ _ _ e,show (I.sk.go m i b x').ml k=I.sk.ml k from if_neg e];exact Nat.le_refl _
 ·show (I.sk.go m i b x').V p m < I.sk.V p m;rcases r2 with r2|r2
  ·exact absurd r2.symm hne
  ·omega
structure Fit (m:Nat) (f:Nat->ML) (a b:ML):Prop where
 own:m=0->a≠.own 1/\b≠.own 1
 two:m=1->a≠.own 2
 other:∀k,k < 2->k≠m->f k=.off\/f k=.fresh
theorem Fit.ml (q:Fit m f a b) (h:In p i y d f I) (hS:Co I p w):∀k,k≠m->I.sk.ml k i=.off\/I.sk.ml k i=.fresh\/2<=k:=fun k hk=>by
 by_cases e:k < 2
 ·have:=q.other k e hk;rw[h.ml k e];exact this.imp id .inl
 ·exact .inr (.inr (by omega))
theorem Lt {d':Nat} (h:In p i y d f I) (hI:Ae ty top I w) (hi:i < I.cnt) (hm:m < 2) (ha:f m=a) (hs:B1 a (I.sk.mw m) b x') (hw:Kk p m (I.sk.mw m) x' w w') (hf:Fit m f a b) (hes:∀e∈es,S9 I i e) (hd:deafBehind d es=d') (hq:mayWake P g=true\/x'.q<=(I.sk.mw m).q)
  (hst:stepG P (i==0) g w=.go g' w' es) (K:∀I',In p i y d' (upd f m b) I'->Dp i p I I'->((I.sk.mw m).code≠x'.code->I'.sk.V p m < I.sk.V p m)->I'.sk.mw m=x'->LV P ty top Post i I' w' g'):NX P ty top Post i I w g:=by
 have hS:=h.seek hI;have h2:∀k,k≠m->I.sk.ml k i=.off\/I.sk.ml k i=.fresh\/2<=k:=hf.ml h hS;have hC:=hI.core p h.ph;have hr:=Lf hI h.ph h.b hi;have cu:I.sk.ml m i=a:=(h.ml m hm).trans ha;have af:∀k,k≠m->k < 2->I.sk.ml k i=.off\/I.sk.ml k i=.fresh:=fun k hk hk2=>(h2 k hk).elim .inl fun q=>q.elim .inr fun q=>by omega
 have hSk:Co (I.setSk (I.sk.go m i b x') i (deafBehind (I.deaf i) es)) p w':=by
  have h3:∀k,k≠m->k < 2->I.sk.ml k i=.off\/I.sk.ml k i=.fresh:=af;exact Ake hS hC hm h.tag cu hs hw hr hf.own hf.two h3 _
 have aj:(Al P ty top Post).Do i I w (I.setSk (I.sk.go m i b x') i (deafBehind (I.deaf i) es)) w' (mayWake P g=true) es :=
  Ao5 hI h.ph h.kind h.b hi h.tag rfl hSk hw.size hw.tape hw.os (fun z z1 z2=>hw.old (by rcases E0 hm with rfl|rfl<;>assumption)) hes (fun j hj k=>O1 _ _ _ (.inl hj)) (fun j hj=>Aoe hS hC hm cu hs hw hr hj _) (hq.imp id fun hq j k _ hk' _ q0=>by
   by_cases e:k=m
   ·subst e;rw[Ru];omega
   ·rw[M5 _ _ _ _ e];exact q0)
 obtain⟨q1,q2⟩:=At8 h hI hi hm ha hs hw (deafBehind (I.deaf i) es);refine .go g' w' es _ hst aj (K _ ?_ q1 q2 (Ru _ _ _ _ _));have:=h.go hm b x' (deafBehind (I.deaf i) es);rw[h.deaf,hd] at this;rw[h.deaf,hd];exact this
theorem Zh (hS:Co I p w) (hs:I.hs=w.heap.size) (hm:m < 2):∀e∈#[rd (p.muA m),wr (p.muA m)],S9 I i e:=fun e he=>by
 simp only[List.mem_toArray,List.mem_cons,List.not_mem_nil,or_false] at he;rcases he with rfl|rfl<;>exact Ahh hS hs hm _ _ (.inl rfl)
theorem Acy (hS:Co I p w) (hs:I.hs=w.heap.size) (hm:m < 2):∀e∈semEvents (p.msA m),S9 I i e:=fun e he=>by
 simp only[semEvents,List.mem_toArray,List.mem_cons,List.not_mem_nil,or_false] at he;rcases he with rfl|rfl|rfl|rfl
 ·exact Ht (.inl rfl)
 ·exact Ahh hS hs hm _ _ (.inr rfl)
 ·exact Ahh hS hs hm _ _ (.inr rfl)
 ·exact Ht (.inr (.inl rfl))
theorem P3 (h:In p i y d f I) (hI:Ae ty top I w) (hi:i < I.cnt) (hh:w'.heap=w.heap) (ht:w'.tape=w.tape) (hos:Cq w w') (hes:∀e∈es,S9 I i e) (hd:deafBehind (I.deaf i) es=I.deaf i) (hst:stepG P (i==0) g w=.go g' w' es) (K:LV P ty top Post i I w' g'):NX P ty top Post i I w g:=by
 have hS:=h.seek hI;have aj:(Al P ty top Post).Do i I w (I.setSk I.sk i (deafBehind (I.deaf i) es)) w' (mayWake P g=true) es :=
  Ao5 hI h.ph h.kind h.b hi h.tag rfl (by rw[hd,On];exact hS.keep rfl rfl rfl rfl rfl rfl (fun _ _ q=>q) (fun _ _ q=>q) (by rw[hh]) (by rw[hh])) (by rw[hh]) ht hos (fun _ _ _=>by rw[hh]) hes (fun _ _ _=>rfl) (fun j _=>by rw[hd,On];exact .of (c1:=rfl) rfl fun _=>by simp only[World.cell?,hh]) (.inr fun _ _ _ _ _ q=>q)
 rw[hd,On] at aj;exact .go g' w' es I hst aj K
theorem Aob {co cn:Nat} (hm:m < 2) (h:In p i y d f I) (hr:g.status=.running) (ha:f m=a) (hf:Fit m f a b) (hne:co≠cn) (hs:∀x:MW,x.code=co->∃x',B1 a x b x'/\x'.code=cn/\x'.q=x.q)
  (hhit:∀w:World,w.cell? (p.muA m)=some (.int .i32 (co:Nat))->w.frozen? (p.muA m)=false->stepG P (i==0) g w=.go gT (w.setCell (p.muA m) (.int .i32 (cn:Nat))) #[rd (p.muA m),wr (p.muA m)])
  (ot:∀(w:World) (c:Nat),c≠co->w.cell? (p.muA m)=some (.int .i32 (c:Nat))->w.frozen? (p.muA m)=false->stepG P (i==0) g w=.go gF w #[rd (p.muA m)])
  (hn:I.sk.V p m<=n/\((I.sk.mw m).code=co\/I.sk.V p m < n))
  (KT:∀I' w',In p i y d (upd f m b) I'->Dp i p I I'->I'.sk.V p m < n->LV P ty top Post i I' w' gT)
  (KF:∀I' w',In p i y d f I'->Dp i p I I'->I'.sk.V p m < n->LV P ty top Post i I' w' gF):LV P ty top Post i I w g:=by
 refine Ds h hr fun I2 w2 h2 hrel hA hI hi=>?_;have hS:=h2.seek hI;obtain⟨c1,_,c3⟩:=h2.at_ hI hm;obtain⟨v1,v2⟩:=hrel.v m hm;by_cases e:(I2.sk.mw m).code=co
 ·obtain⟨x',s1,s2,s3⟩:=hs _ e;refine Lt (x':=x') (w':=w2.setCell (p.muA m) (.int .i32 (cn:Nat))) (d':=d) h2 hI hi hm ha s1 (.st (by rw[s2]) s3) hf (Zh hS hI.hs hm) rfl (.inr (Nat.le_of_eq s3)) (hhit w2 (by rw[c1,e]) (c3 _)) fun I' h' hA' hv _=>KT _ _ h' (hA.trans hA') ?_;have:=hv (by rw[e,s2];exact hne);omega
 ·refine P3 h2 hI hi rfl rfl (.refl _) (fun z hz=>?_) rfl (ot w2 _ e c1 (c3 _)) (KF _ _ h2 hA ?_)
  ·simp only[List.mem_toArray,List.mem_singleton] at hz;subst hz;exact Ahh hS hI.hs hm _ _ (.inl rfl)
  ·rcases hn.2 with q|q
   ·rcases v2 with r|r
    ·exact absurd (r.trans q) e
    ·omega
   ·omega
theorem Lv {gv:Nat->Goroutine} (hm:m < 2) (h:In p i y d f I) (hr:g.status=.running) (hst:∀(w:World) (c:Nat),w.cell? (p.muA m)=some (.int .i32 (c:Nat))->stepG P (i==0) g w=.go (gv c) w #[])
  (K:∀I' w',In p i y d f I'->Dp i p I I'->Fe p.b p.W (I'.sk.ml m) (I'.sk.mw m)->p.W<=16->LV P ty top Post i I' w' (gv (I'.sk.mw m).code)):LV P ty top Post i I w g:=by
 refine Ds h hr fun I2 w2 h2 hrel hA hI hi=>?_;obtain⟨c1,_,c3⟩:=h2.at_ hI hm;exact P3 h2 hI hi rfl rfl (.refl _) (fun z hz=>by simp at hz) rfl (hst w2 _ c1) (K _ _ h2 hA (h2.mi hI hm) (h2.seek hI).W)
theorem Afy {gv:Nat->Goroutine} (hm:m < 2) (h:In p i y d f I) (hr:g.status=.running) (ha:f m=.rel) (hf:Fit m f .rel .off) (hst:∀(w:World) (c:Nat),w.cell? (p.muA m)=some (.int .i32 (c:Nat))->stepG P (i==0) g w=.go (gv c) w #[])
  (K:∀I' w' (x:MW),x.w<=32->(I'.sk.mw m).code=x.code->Dp i p I I'->((x.w=0\/x.L=true\/x.K=true\/x.S=true)->In p i y d (upd f m .off) I')->(¬(x.w=0\/x.L=true\/x.K=true\/x.S=true)->In p i y d f I')->LV P ty top Post i I' w' (gv x.code)):LV P ty top Post i I w g:=by
 refine Ds h hr fun I2 w2 h2 hrel hA hI hi=>?_;obtain⟨c1,_,c3⟩:=h2.at_ hI hm;have hw:=(h2.mi hI hm).few;have hW:=(h2.seek hI).W;by_cases e:(I2.sk.mw m).w=0\/(I2.sk.mw m).L=true\/(I2.sk.mw m).K=true\/(I2.sk.mw m).S=true
 ·exact Lt (d':=d) h2 hI hi hm ha (.leave e) (.same rfl rfl (.refl _) rfl rfl) hf (fun z hz=>by simp at hz) rfl (.inr (Nat.le_refl _)) (hst w2 _ c1) fun I' h' hA' _ hx=>K _ _ _ (by omega) (by rw[hx]) (hA.trans hA') (fun _=>h') fun q=>absurd e q
 ·exact P3 h2 hI hi rfl rfl (.refl _) (fun z hz=>by simp at hz) rfl (hst w2 _ c1) (K _ _ _ (by omega) rfl hA (fun q=>absurd q e) fun _=>h2)
theorem Atz {gv:Int->Goroutine} {dl:Int} {bx:MW->ML} {Q:MW->MW->Prop} (hm:m < 2) (h:In p i y d f I) (hr:g.status=.running) (ha:f m=a) (hf:∀x,Fit m f a (bx x)) (hs:∀(I2:Ab) (w2:World),In p i y d f I2->Ae ty top I2 w2->Ec i p I w I2 w2->∃x',B1 a (I2.sk.mw m) (bx (I2.sk.mw m)) x'/\(x'.code:Int)=IntKind.i32.wrap (((I2.sk.mw m).code:Nat)+dl)/\x'.q=(I2.sk.mw m).q/\Q (I2.sk.mw m) x')
  (hst:∀(w:World) (c:Nat),w.cell? (p.muA m)=some (.int .i32 (c:Nat))->w.frozen? (p.muA m)=false->stepG P (i==0) g w=.go (gv (IntKind.i32.wrap (c+dl))) (w.setCell (p.muA m) (.int .i32 (IntKind.i32.wrap (c+dl)))) #[rd (p.muA m),wr (p.muA m)])
  (K:∀I' w' (x x':MW),In p i y d (upd f m (bx x)) I'->Dp i p I I'->Q x x'->x.w<=32->LV P ty top Post i I' w' (gv x'.code)):LV P ty top Post i I w g:=by
 refine Ds h hr fun I2 w2 h2 hrel hA hI hi=>?_;obtain⟨c1,_,c3⟩:=h2.at_ hI hm;obtain⟨x',s1,s2,s3,s4⟩:=hs I2 w2 h2 hI hrel;have hw:=(h2.mi hI hm).few;have hW:=(h2.seek hI).W;have:=hst w2 _ c1 (c3 _);rw[<- s2] at this;exact Lt (x':=x') (d':=d) h2 hI hi hm ha s1 (.st rfl s3) (hf _) (Zh (h2.seek hI) hI.hs hm) rfl (.inr (Nat.le_of_eq s3)) this fun I' h' hA' _ _=>K _ _ _ _ h' (hA.trans hA') s4 (by omega)
theorem Arj (hm:m < 2) (h:In p i y d f I) (hr:g.status=.running) (ho:g.offers=none) (ha:f m=.que) (hf:Fit m f .que .hand/\Fit m f .que .tok)
  (na:∀w:World,w.cell? (p.msA m)=some (.int .u32 0)->stepG P (i==0) g w=.go { g with status:=.blocked } w #[])
  (hgo:∀(w:World) (n:Int),n≠0->w.cell? (p.msA m)=some (.int .u32 n)->w.frozen? (p.msA m)=false->stepG P (i==0) g w=.go g' (w.setCell (p.msA m) (.int .u32 (n - 1))) (semEvents (p.msA m)))
  (K:∀I' w' b,b=.hand\/b=.tok->In p i y d (upd f m b) I'->Dp i p I I'->LV P ty top Post i I' w' g'):LV P ty top Post i I w g:=by
 refine Ds h hr fun I2 w2 h2 hrel hA hI hi=>?_;obtain⟨_,c2,c3⟩:=h2.at_ hI hm;by_cases hq:(I2.sk.mw m).q=0
 ·exact .wait (na w2 (by rw[c2,hq];rfl)) ho (.que p m h2.ph h2.kind hm ((h2.ml m hm).trans ha) hq)
 ·have hst:=hgo w2 ((I2.sk.mw m).q:Nat) (by omega) c2 (c3 _);rw[show (((I2.sk.mw m).q:Nat):Int) - 1=(((I2.sk.mw m).q - 1:Nat):Int) by omega] at hst;have hf':Fit m f .que (if (I2.sk.mw m).S then ML.hand else .tok):=by split;exact hf.1;exact hf.2
  exact Lt (x':={ I2.sk.mw m with q:=(I2.sk.mw m).q - 1 }) (d':=d) h2 hI hi hm ha (.sem (by omega)) (.sm rfl rfl) hf' (Acy (h2.seek hI) hI.hs hm) (by simp[semEvents,deafBehind]) (.inr (Nat.sub_le _ _)) hst fun I' h' hA' _ _=>K _ _ _ (by split<;>simp) h' (hA.trans hA')
theorem As5 (hm:m < 2) (h:In p i y d f I) (hr:g.status=.running) (hwk:mayWake P g=true) (ha:f m=a) (ha':a=.post\/a=.phand) (hf:Fit m f a .off)
  (hst:∀(w:World),w.cell? (p.msA m)=some (.int .u32 0)->w.frozen? (p.msA m)=false->stepG P (i==0) g w=.go g' (w.setCell (p.msA m) (.int .u32 1)) (semEvents (p.msA m)))
  (K:∀I' w',In p i y d (upd f m .off) I'->Dp i p I I'->LV P ty top Post i I' w' g'):LV P ty top Post i I w g:=by
 refine Ds h hr fun I2 w2 h2 hrel hA hI hi=>?_;obtain⟨_,c2,c3⟩:=h2.at_ hI hm;have hq:=(h2.mi hI hm).down (i:=i) (by rw[h2.ml m hm,ha];exact ha');exact Lt (x':={ I2.sk.mw m with q:=(I2.sk.mw m).q+1 }) (d':=d) h2 hI hi hm ha (.up ha') (.sm (by rw[hq];rfl) rfl) hf (Acy (h2.seek hI) hI.hs hm) (by simp[semEvents,deafBehind]) (.inl hwk) (hst w2 (by rw[c2,hq];rfl) (c3 _)) fun I' h' hA' _ _=>K _ _ h' (hA.trans hA')
theorem Aa7 (hm:m < 2) (h:In p i y d f I) (hr:g.status=.running) (hst:∀(w:World) v,w.cell? (p.muA m)=some v->stepG P (i==0) g w=.go g' w #[]) (K:LV P ty top Post i I w g'):LV P ty top Post i I w g :=
 An hr h.ng fun I2 w2 hrl hI hi=>.go g' w2 #[] I2 (hst w2 _ (((h.rely hrl).1.at_ hI hm).1)) (Fj hI hi _) (K.rely hrl)
theorem In.own_ (h:In p i y d (upd f m b) I) (hm:m < 2):I.sk.ml m i=b:=(h.ml m hm).trans (upd_same _ _ _)
theorem In.others (h:In p i y d (upd f m b) I) (h2:∀k,k < 2->k≠m->f k=.off\/f k=.fresh):∀k,k≠m->k < 2->I.sk.ml k i=.off\/I.sk.ml k i=.fresh:=fun k hk hk2=>by
 rw[h.ml k hk2,upd_ne _ _ hk];exact h2 k hk2 hk
theorem In.owns {k':Nat} {o:Option Nat} {B:Nat} {tk:Nat->Prop} {od:Bool} {d':Nat} (h:In p i y d (upd f m b) I):In p i y d' (upd f m (.own k')) (I.setSk (I.sk.own m i k' o B tk od) i d') :=
 ⟨h.ph,h.kind,h.b,h.i0,h.tag,upd_same _ _ _,fun k hk=>by
  show (I.sk.own m i k' o B tk od).ml k i=_;by_cases e:k=m
  ·subst e;rw[Aa2,upd_same]
  ·rw[Lr _ e,upd_ne _ _ e,h.ml k hk,upd_ne _ _ e]⟩
theorem No {k k':Nat} {o:Option Nat} {tk:Nat->Prop} {od:Bool} {d':Nat} (h:In p i y d (upd f m (.own k)) I) (hI:Ae ty top I w) (hm:m < 2) (hmono:∀x,I.sk.took x->tk x):Dp i p I (I.setSk (I.sk.own m i k' o p.out tk od) i d'):=by
 have hS:=h.seek hI;refine⟨As6 _ _ _ _,hmono,fun z hz=>?_⟩;have ou:=Fe.keep (hS.mi m hm) (h.own_ hm) k';show (I.sk.own m i k' o p.out tk od).V p z<=I.sk.V p z;unfold Sk.V;by_cases e:z=m
 ·subst e;rw[Aa1];show 6 * I.sk.left+_+(I.sk.mw z).q<=6 * I.sk.left+_+(I.sk.mw z).q;have:=ou.2;omega
 ·rw[Lr _ e];exact Nat.le_refl _
theorem Aoc (hm:m < 2) (h:In p i y 0 (upd f m (.own 0)) I) (hr:g.status=.running) (h2:∀k,k < 2->k≠m->f k=.off\/f k=.fresh) (hst:∀w,stepG P (i==0) g w=.go g' w #[mk (.acquire (p.muA m))]) (K:∀I' w',In p i y 0 (upd f m (.own 1)) I'->Dp i p I I'->LV P ty top Post i I' w' g'):LV P ty top Post i I w g:=by
 refine Ds h hr fun I2 w2 h2' hrel hA hI hi=>?_;rcases E0 hm with rfl|rfl
 ·have aj:=Auc (P:=P) (Post:=Post) hI h2'.ph h2'.kind h2'.b hi h2'.tag (h2'.own_ (by omega)) h2'.deaf (h2'.others h2) (mayWake P g=true);exact .go g' w2 _ _ (hst w2) aj (K _ _ h2'.owns (hA.trans (No h2' hI (by omega) fun _ q=>q)))
 ·have hmy:=h2'.own_ (m:=1) (by omega);have hf:Fit 1 (upd f 1 (.own 0)) (.own 0) (.own 1):=⟨fun q=>by omega,fun _=>by simp,fun k hk hk2=>by rw[upd_ne _ _ hk2];exact h2 k hk hk2⟩;refine Lt (x':=I2.sk.mw 1) (d':=0) h2' hI hi (by omega) (upd_same _ _ _) (.keep 0 1) (.same rfl rfl (.refl _) rfl rfl) hf (fun z hz=>?_) (by simp[deafBehind,mk]) (.inr (Nat.le_refl _)) (hst w2) fun I' h' hA' _ _=>?_
  ·simp only[List.mem_toArray,List.mem_singleton] at hz;subst hz;exact Ht (.inr (.inr (.inr ⟨_,rfl⟩)))
  ·have e:upd (upd f 1 (.own 0)) 1 (.own 1)=upd f 1 (.own 1):=by funext z;by_cases q:z=1<;>simp[upd,q]
   rw[e] at h';exact K _ _ h' (hA.trans hA')
theorem Aoa (hm:m < 2) (h:In p i y 0 (upd f m (.own 1)) I) (hr:g.status=.running) (h2:∀k,k < 2->k≠m->f k=.off\/f k=.fresh) (hst:∀w,stepG P (i==0) g w=.go g' w #[mk (.releaseMerge (p.muA m))]) (K:∀I' w',In p i y 0 (upd f m (.own 3)) I'->Dp i p I I'->LV P ty top Post i I' w' g'):LV P ty top Post i I w g:=by
 refine Ds h hr fun I2 w2 h2' hrel hA hI hi=>?_;rcases E0 hm with rfl|rfl
 ·have aj:=Ao3 (P:=P) (Post:=Post) hI h2'.ph h2'.kind h2'.b hi h2'.tag (h2'.own_ (by omega)) h2'.deaf (h2'.others h2) (mayWake P g=true);exact .go g' w2 _ _ (hst w2) aj (K _ _ h2'.owns (hA.trans (No h2' hI (by omega) fun _ q=>q)))
 ·have hmy:=h2'.own_ (m:=1) (by omega);have hf:Fit 1 (upd f 1 (.own 1)) (.own 1) (.own 3):=⟨fun q=>by omega,fun _=>by simp,fun k hk hk2=>by rw[upd_ne _ _ hk2];exact h2 k hk hk2⟩;refine Lt (x':=I2.sk.mw 1) (d':=0) h2' hI hi (by omega) (upd_same _ _ _) (.keep 1 3) (.same rfl rfl (.refl _) rfl rfl) hf (fun z hz=>?_) (by simp[deafBehind,mk]) (.inr (Nat.le_refl _)) (hst w2) fun I' h' hA' _ _=>?_
  ·simp only[List.mem_toArray,List.mem_singleton] at hz;subst hz;exact Ht (.inr (.inr (.inl ⟨_,rfl⟩)))
  ·have e:upd (upd f 1 (.own 1)) 1 (.own 3)=upd f 1 (.own 3):=by funext z;by_cases q:z=1<;>simp[upd,q]
   rw[e] at h';exact K _ _ h' (hA.trans hA')
theorem Ahp {Q:Goroutine->Prop} (h:In p i y d f I) (hr:g.status=.running) (hst:∀w,∃g' w',stepG P (i==0) g w=.go g' w' #[]/\w'.heap=w.heap/\w'.tape=w.tape/\Cq w w'/\Q g') (K:∀I' w' g',Q g'->In p i y d f I'->Dp i p I I'->Ec i p I w I' w'->LV P ty top Post i I' w' g'):LV P ty top Post i I w g:=by
 refine Ds h hr fun I2 w2 h2 hrel hA hI hi=>?_;obtain⟨g',w',e1,e2,e3,e4,e5⟩:=hst w2;refine P3 h2 hI hi e2 e3 e4 (fun z hz=>by simp at hz) rfl e1 (K _ _ _ e5 h2 hA (hrel.trans (.of (c1:=rfl) rfl fun _=>by simp only[World.cell?,e2]) fun m hm=>?_));exact(h2.ml _ ‹_›).trans (h.ml _ ‹_›).symm
end
theorem P9:(Tryz.f104.name == "runtime.NumGoroutine")=false:=by kernel_rfl
theorem Rb:Tryz.f104.body.isNone=true:=by kernel_rfl
theorem P8:Extern.findNext Tryz.f104=none:=by kernel_rfl
theorem Ra:Extern.find Tryz.f104=some (Extern.Atomic.casT (.int .i32)):=by kernel_rfl
theorem An3:(Tryz.f106.name == "runtime.NumGoroutine")=false:=by kernel_rfl
theorem An5:Tryz.f106.body.isNone=true:=by kernel_rfl
theorem An2:Extern.findNext Tryz.f106=none:=by kernel_rfl
theorem An4:Extern.find Tryz.f106=some (Extern.Atomic.update (Op.intArith .add) .i32 true):=by kernel_rfl
theorem Zr:(Tryz.f113.name == "runtime.NumGoroutine")=false:=by kernel_rfl
theorem Zt:Tryz.f113.body.isNone=true:=by kernel_rfl
theorem Zq:Extern.findNext Tryz.f113=none:=by kernel_rfl
theorem Zs:Extern.find Tryz.f113=some (Extern.Sync.canSpin):=by kernel_rfl
theorem Aj8:(Tryz.f116.name == "runtime.NumGoroutine")=false:=by kernel_rfl
theorem Aka:Tryz.f116.body.isNone=true:=by kernel_rfl
theorem Aj6:Extern.findNext Tryz.f116=none:=by kernel_rfl
theorem Aj9:Extern.find Tryz.f116=some (Extern.OsHooks.nano):=by kernel_rfl
theorem Adr:(Tryz.f117.name == "runtime.NumGoroutine")=false:=by kernel_rfl
theorem Adt:Tryz.f117.body.isNone=true:=by kernel_rfl
theorem Adq:Extern.findNext Tryz.f117=none:=by kernel_rfl
theorem Ads:Extern.find Tryz.f117=some (Extern.Sync.semacquire):=by kernel_rfl
theorem Adi:(Tryz.f119.name == "runtime.NumGoroutine")=false:=by kernel_rfl
theorem Adk:Tryz.f119.body.isNone=true:=by kernel_rfl
theorem Adh:Extern.findNext Tryz.f119=none:=by kernel_rfl
theorem Adj:Extern.find Tryz.f119=some (Extern.Sync.semrelease):=by kernel_rfl
theorem Anz:(Tryz.f114.name == "runtime.NumGoroutine")=false:=by kernel_rfl
theorem An1:Tryz.f114.body.isNone=true:=by kernel_rfl
theorem Any:Extern.findNext Tryz.f114=none:=by kernel_rfl
theorem An0:Extern.find Tryz.f114=some (fun _=>pure (.tuple #[])):=by kernel_rfl
theorem Anv:(Tryz.f92.name == "runtime.NumGoroutine")=false:=by kernel_rfl
theorem Anx:Tryz.f92.body.isNone=true:=by kernel_rfl
theorem Anu:Extern.findNext Tryz.f92=none:=by kernel_rfl
theorem Anw:Extern.find Tryz.f92=some (Extern.Atomic.loadT (.int .u32)):=by kernel_rfl
theorem Ann:(Tryz.f108.name == "runtime.NumGoroutine")=false:=by kernel_rfl
theorem Anp:Tryz.f108.body.isNone=true:=by kernel_rfl
theorem Anm:Extern.findNext Tryz.f108=none:=by kernel_rfl
theorem Ano:Extern.find Tryz.f108=some (Extern.Atomic.storeT):=by kernel_rfl
theorem Adn:(Tryz.f54.name == "runtime.NumGoroutine")=false:=by kernel_rfl
theorem Adp:Tryz.f54.body.isNone=true:=by kernel_rfl
theorem Adm:Extern.findNext Tryz.f54=none:=by kernel_rfl
theorem Ado:Extern.find Tryz.f54=some (fun _=>do mark .disable;pure Extern.Race.none_):=by kernel_rfl
theorem P5:(Tryz.f55.name == "runtime.NumGoroutine")=false:=by kernel_rfl
theorem P7:Tryz.f55.body.isNone=true:=by kernel_rfl
theorem P4:Extern.findNext Tryz.f55=none:=by kernel_rfl
theorem P6:Extern.find Tryz.f55=some (fun _=>do mark .enable;pure Extern.Race.none_):=by kernel_rfl
theorem Adv:(Tryz.f68.name == "runtime.NumGoroutine")=false:=by kernel_rfl
theorem Adx:Tryz.f68.body.isNone=true:=by kernel_rfl
theorem Adu:Extern.findNext Tryz.f68=none:=by kernel_rfl
theorem Adw:Extern.find Tryz.f68=some (Extern.Race.marked .acquire):=by kernel_rfl
theorem Anr:(Tryz.f53.name == "runtime.NumGoroutine")=false:=by kernel_rfl
theorem Ant:Tryz.f53.body.isNone=true:=by kernel_rfl
theorem Anq:Extern.findNext Tryz.f53=none:=by kernel_rfl
theorem Ans:Extern.find Tryz.f53=some (Extern.Race.marked .releaseMerge):=by kernel_rfl
theorem Aj7:Tryz.f116.norace=true:=by kernel_rfl
theorem En:(prog.funcs[(base 105).fn]?).any (·.norace)=true:=by kernel_rfl
theorem Adl:(prog.funcs[(base 87).fn]?).any (·.norace)=true:=by kernel_rfl
theorem Vd:(prog.funcs[(base 107).fn]?).any (·.norace)=true:=by kernel_rfl
noncomputable def Au0 (s:TypeId):Bool:=match prog.underlying s with
 | some (.pointer t)=>(prog.info? t).map (fun i=>decide (i.size=0))==some false
 | _=>false
section
variable {main:Bool} {b:Frame} {a:Act} {kk:List Item} {cs:List Frame} {w:World} {ops:Array Oper} {i:Nat} {rest:List Nat} {o:Oper}
theorem D9 {x:Operand} (ho:ops[i]?=some o) (hw:Region.wanted o (yielded ops a.tmps)=true) (hk:b.kind≠.early) (hop:o.op=.load 21 x)
  {ad:Addr} {v:Int} (hx:a.eval x=.pointer (some ad)) (hq:(prog.funcs[b.fn]?).any (·.norace)=true) (hc:w.cell? ad=some (.int .i32 v)) :
  stepG prog main (G (b.at a (.inRegion ops (i::rest)::kk)) cs) w=.go (G (b.at (a.put o.dst (.int .i32 v)) (.inRegion ops rest::kk)) cs) w #[]:=by
 have hr:(execOp a.eval o).run prog w=.ok (.value (.int .i32 v)) w:=by
  unfold execOp;simp only[hop,hx];simp[go_sem,hc]
 have he:(execOp a.eval o).events prog w #[]=#[⟨.cell ad,false,false⟩]:=by
  unfold execOp;simp only[hop,hx];simp[go_sem,hc]
 rw[stepG_value ho hw hk hr];unfold listed;rw[he,seen_def,hq];simp[seenStep]
theorem Ol {x:Operand} (ho:ops[i]?=some o) (hw:Region.wanted o (yielded ops a.tmps)=true) (hk:b.kind≠.early) {src dst:TypeId} (hop:o.op=.convert src dst x)
  (hs:Au0 src=true) (hd:prog.underlying dst=some .unsafePointer) {ad:Addr} {v:Value} (hx:a.eval x=.pointer (some ad)) (hc:w.cell? ad=some v) :
  stepG prog main (G (b.at a (.inRegion ops (i::rest)::kk)) cs) w=.go (G (b.at (a.put o.dst (.pointer (some ad))) (.inRegion ops rest::kk)) cs) w #[]:=by
 obtain⟨t,e1,e2⟩:∃t,prog.underlying src=some (.pointer t)/\(prog.info? t).map (fun i=>decide (i.size=0))=some false:=by
  unfold Au0 at hs;split at hs
  ·rename_i t e;exact⟨t,e,by simpa using hs⟩
  ·cases hs
 have h1:=run_convert_to_unsafe (P:=prog) e1 hd e2 hc;have h2:=fun es=>events_convert_to_unsafe (P:=prog) e1 hd e2 hc es;have hr:(execOp a.eval o).run prog w=.ok (.value (.pointer (some ad))) w:=by
  unfold execOp;simp only[hop,hx];simp[go_sem,h1]
 have he:(execOp a.eval o).events prog w #[]=#[]:=by
  unfold execOp;simp only[hop,hx];simp[go_sem,h2]
 rw[stepG_value ho hw hk hr];unfold listed;rw[he,seen_def];rfl
end
abbrev Gp:Go.Conc.Lib.WgLink:={ add:=32,done:=34,wait:=38,relMerge:=53,disable:=54,enable:=55,inBubble:=56,associate:=57,fatal:=58,uOr:=59,uAdd:=60,raceRead:=61,uLoad:=62,uStore:=63,disassociate:=64,semrelease:=65,acquire:=68,isAssociated:=69,uCas:=70,raceWrite:=71,semacquire:=72,orU64:=88,addU64:=89,loadU64:=90,storeU64:=91,casU64:=94,tWgP:=106,tUP:=108,tAssoc:=109,tWg:=88,tAU:=86,tU64:=84,tUint:=113,tU32:=22,tPU32:=114,tPAU:=143,tPU64:=145,tNoCopy:=68,tANoCopy:=78,tAlign64:=83 }
theorem Ab1:Go.Conc.Lib.WgLib prog Gp :=
 ⟨func32,func34,func38,func53,func54,func55,func56,func57,func58,func59,func60,func61,func62,func63,func64,func65,func68,func69,func70,func71,func72,func88,func89,func90,func91,func94,underlying106,Tryz.runUnderlying106,Tryz.sizeOf106,Tryz.isAgg106,Tryz.zeroValue106,underlying108,Tryz.runUnderlying108,Tryz.sizeOf108,Tryz.isAgg108,Tryz.zeroValue108,underlying109,Tryz.runUnderlying109,Tryz.sizeOf109,Tryz.isAgg109,Tryz.zeroValue109,underlying88,Tryz.runUnderlying88,Tryz.sizeOf88,Tryz.isAgg88,Tryz.zeroValue88,underlying86,Tryz.runUnderlying86,Tryz.sizeOf86,Tryz.isAgg86,Tryz.zeroValue86,underlying84,Tryz.runUnderlying84,Tryz.sizeOf84,Tryz.isAgg84,Tryz.zeroValue84,underlying113,Tryz.runUnderlying113,Tryz.sizeOf113,Tryz.isAgg113,Tryz.zeroValue113,underlying22,Tryz.runUnderlying22,Tryz.sizeOf22,Tryz.isAgg22,Tryz.zeroValue22,underlying114,Tryz.runUnderlying114,Tryz.sizeOf114,Tryz.isAgg114,Tryz.zeroValue114,underlying143,Tryz.runUnderlying143,Tryz.sizeOf143,Tryz.isAgg143,Tryz.zeroValue143,underlying145,Tryz.runUnderlying145,Tryz.sizeOf145,Tryz.isAgg145,Tryz.zeroValue145,underlying0,Tryz.runUnderlying0,Tryz.sizeOf0,Tryz.isAgg0,Tryz.zeroValue0,underlying3,Tryz.runUnderlying3,Tryz.sizeOf3,Tryz.isAgg3,Tryz.zeroValue3,underlying4,Tryz.runUnderlying4,Tryz.sizeOf4,Tryz.isAgg4,Tryz.zeroValue4,underlying9,Tryz.runUnderlying9,Tryz.sizeOf9,Tryz.isAgg9,Tryz.zeroValue9,underlying20,Tryz.runUnderlying20,Tryz.sizeOf20,Tryz.isAgg20,Tryz.zeroValue20,underlying21,Tryz.runUnderlying21,Tryz.sizeOf21,Tryz.isAgg21,Tryz.zeroValue21,(by kernel_rfl),(by kernel_rfl)⟩
abbrev LT (top:Nat) (Post:Value->World->Prop):=LV prog Gp.tWg top Post
end Go.Proofs.YtbicafgmfgdckaaGreatDoor
