/- A piece. -/
import Derived.Test.YtbicafgmfgdckaaGreatDoorMgAx
set_option maxRecDepth 100000
set_option maxHeartbeats 16000000
set_option linter.all false
namespace Go.Proofs.YtbicafgmfgdckaaGreatDoor
open Go.Proofs.Tryz
open Go Go.RowKit Go.Conc Go.Conc.Lib Go.ConcR.Gen
open Go.ConcR (KK wgBlock WgAt stA smA rd wr mk DC0)
open Go.ConcN (sumTo upd upd_same upd_ne RelBy PermW WgLive)
theorem Ad7:∃i,prog.info? 35=some i/\(∃z,i.zero=some z)/\i.size=1/\i.bytes=24:=by
 have h:(prog.info? 35).map (fun i=>(i.size,i.bytes,i.zero.isSome))=some (1,24,true):=by kernel_rfl
 cases hi:prog.info? 35 with
 | none=>rw[hi] at h;cases h
 | some i =>
  rw[hi] at h;simp only[Option.map_some,Option.some.injEq,Prod.mk.injEq] at h;exact⟨i,rfl,Option.isSome_iff_exists.1 h.2.2,h.1,h.2.1⟩
theorem Akc (n:Nat) (hn:n<=1000):∃Z:Array Value,Z.size=n/\∀w,(Instr.makeSlice 27 (.int .i64 n) (.int .i64 n)).run prog w=.ok (.slice (some ⟨w.heap.size,0,none⟩) n n) (w.alloc (.cells Z 35)):=by
 have hu:prog.underlying 27=some (.slice 35):=by kernel_rfl
 obtain⟨i,hi,hz,hs,hb⟩:=Ad7;obtain⟨z,hz⟩:=hz;have:=fun w=>run_makeSlice (P:=prog) (w:=w) 27 35 i z hu hi hz .i64 .i64 n n (by omega) (by omega) (by rw[hs];omega) (by rw[hb];omega) (by omega);refine⟨_,?_,fun w=>by simpa using this w⟩;simp[madeCells,hs]
theorem An8 (n:Nat) (hn:n<=1000) (w:World):(Instr.makeSlice 27 (.int .i64 n) (.int .i64 n)).events prog w #[]=#[]:=by
 have hu:prog.underlying 27=some (.slice 35):=by kernel_rfl
 obtain⟨i,hi,hz,hs,hb⟩:=Ad7;obtain⟨z,hz⟩:=hz;have hw:IntKind.i64.wrap (n:Int)=n:=by rw[IntKind.wrap_i64];omega
 have n1:¬(n:Int) < 0:=by omega
 have n2:¬(281474976710656 < (24:Int) * n):=by omega
 have n3:¬(roomBytes < n * 24):=by show ¬(_ < n * 24);unfold roomBytes;omega
 unfold Instr.makeSlice;simp[run_underlying hu,asInt,asIntOf,typeInfo,hi,hb,hs,hw,n1,n2,n3,askRoom,sizeOf,zeroValue,hz,newRow]
theorem Apf (caps:Array Value) (w:World) (h:caps.size=4):stepG prog false (born prog { target:=.fn (.func 21) caps,args:=#[] }) w =
  .go (G ((baseD 21).at ⟨caps++Array.replicate 6 undef,[]⟩ [.code (Tryz.f21.body.getD .skip)]) [bot]) w #[]:=by
 simp[born,stepG,unwind,callDeferred,invoke,callFunc,func21,Tryz.f21,seen,GStep.after,G,Frame.enter,Frame.at,baseD,bot,h]
section
variable {top:Nat} {I I' I2 I0:Ab} {p:Ph} {c:Ir} {w w' w2 w0:World} {i j k n W0:Nat} {Post:Value->World->Prop} {es:Array Event} {g g':Goroutine} {Hw:World} {SB LB DB WB dn:Nat}
theorem Tg {out out':Nat} (hl:∀b,b < I.hs->I.bk b=.priv 0->I'.bk b=.priv 0) (hs:I.hs=w.heap.size) (hh:∀b,b < I.hs->I.bk b=.priv 0->w'.heap[b]?=w.heap[b]?) (ho:I.hs<=out'):Bm (Eu I out w) (Eu I' out' w'):=by
 rintro⟨b,o,sp⟩ v h;cases sp with
 | some sp =>
  exfalso;unfold World.cell? at h;cases hb:(Eu I out w).heap[b]? with
  | none=>simp[hb] at h
  | some ob=>cases ob<;>simp[hb] at h
 | none =>
  obtain⟨h1,h2,h3,h4⟩:=Ni h;have hlt:b < I.hs:=by omega
  refine Cd (hl b hlt h1) (by omega) ?_;unfold World.cell? at h4 ⊢;rw[hh b hlt h1];exact h4
def Gk (I:Ab) (w:World) (h:Avu.Sh) (rows:Dg) (x:Nat) (v:Value):Prop :=
 ∃row ob,rows[x]?=some row/\Tb (Iz h row) v ob/\∀B o,ob=some (B,o)->D5 0 I w B (.priv 0) o
theorem Gk.cl {X:Nat->Prop} {h:Avu.Sh} {rows:Dg} {x:Nat} {v:Value} (q:Gk I w h rows x v) (l:C4 X I w I' w') (hX:∀b t cs,X b->w.heap[b]?=some (.cells cs t (0,0))->t≠60):Gk I' w' h rows x v:=by
 obtain⟨row,ob,h1,h2,h3⟩:=q;refine⟨row,ob,h1,h2,fun B o e=>?_⟩;have f:=h3 B o e;refine f.cl (.inl rfl) l fun hx=>?_;subst e;rcases h2 with⟨_,_,q⟩|⟨B',cap,cs,_,_,_,_,q⟩
 ·cases q
 ·injection q with q;injection q with q1 q2;subst q1 q2;exact hX _ _ _ hx f.heap rfl
def Avk (c:Ir) (h:Avu.Sh) (rows:Dg) (n Bo Bc:Nat) (I0:Ab) (w0:World) (m:Nat) (tm:Array Value) (I:Ab) (w:World):Prop :=
 ∃u0 u1 u2 u3 u4 u5 u6 u7 u8 u9 u11 u12 u13 u14 u15 u16 u17 u18 u19 u20 u21 u22 u23 u24 u26 u27 u28 u29 u30 u31 u32 u33 u34 u35:Value,∃cells:Array Value,m=left I.done n/\tm=#[u0,u1,u2,u3,u4,u5,u6,u7,u8,u9,.slice (some ⟨Bo,0,none⟩) n n,u11,u12,u13,u14,u15,u16,u17,u18,u19,u20,u21,u22,u23,u24,.chan (some Bc),u26,u27,u28,u29,u30,u31,u32,u33,u34,u35]/\Cl c I w/\C4 (fun b=>I0.hs<=b) I0 w0 I w/\I0.hs<=Bo/\D5 0 I w Bo (.priv 0) (.cells cells 35 (0,0))/\cells.size=n/\∀x,x < n->I.done x->∃v,cells[x]?=some v/\Gk I w h rows x v
def D4 (I:Ab) (w:World) (h:Avu.Sh) (rows:Dg) (out:Nat):Prop :=
 ∃cells:Array Value,D5 0 I w out (.priv 0) (.cells cells 35 (0,0))/\cells.size=rows.length/\∀x,x < rows.length->∃v,cells[x]?=some v/\Gk I w h rows x v
noncomputable def Nm:Code:=match Tryz.f6.body.getD .skip with
 | .seq _ (.seq _ (.seq _ c))=>c
 | _=>.skip
noncomputable def Atr:Array Oper:=match Nm with
 | .seq _ (.seq _ (.seq _ (.seq (.seq _ (.block _ (.loop (.seq _ (.seq _ (.block _ (.seq (.region _ ops _) _))))))) _)))=>ops
 | _=>#[]
theorem B3.home {ty:TypeId} (hI:Ae ty top I w) (bi:Ae ty top I.home w) (hc:I.col=some c) (hd:I.deaf 0=0):B3 I.home w:=by
 have hph:I.ph=none:=by
  cases hp:I.ph with
  | none=>rfl
  | some p =>
   have h1:=(hI.mate p c hp hc).2.1;have h2:=(bi.alone p hp rfl).2;exact absurd h1 h2
 refine⟨hph,rfl,(by show upd I.tag 0 B6.solo 0=_;exact upd_same _ _ _),hd,hI.hs,fun b hb=>?_⟩;simp only[Ab.home];cases I.bk b<;>simp
theorem Abe {h:Avu.Sh} {rows:Dg} {la:Option Addr} {lc:Nat} {v0 v2 v6 v7 v8 v12 v13 v14 v15 v16 v17 v18:Value} {cc:Frame} {cs:List Frame} (hG:h.Good) (s0:B3 I w) (hn:n<=1000) (hmem:Hv (Eu I I.hs w) la n rows) (hshort:∀row∈rows,row.length<=100000)
  (fSB:D5 0 I w SB (.priv 0) (.cells #[.int .i64 h.L,.int .i64 h.M,.int .i64 h.K,.int .i64 h.W,Af h.s] 24 (0,0))) (fLB:D5 0 I w LB (.priv 0) (.cells #[.slice la n lc] 25 (0,0))) (fWB:D5 0 I w WB (.priv 0) (.cells #[.int .i64 W0] 3 (0,0)))
  (hW:1<=W0) (hW2:W0<=16) (ak:I.cnt+17<=top) (hgl:prog.globals.size<=I.hs)
  (hK:∀I' w' out,B3 I' w'->I.hs<=I'.hs->I'.cnt<=I.cnt+17->(∀b,b < I.hs->I'.bk b=I.bk b)->(∀b,b < I.hs->I.bk b=.priv 0->w'.heap[b]?=w.heap[b]?)->w'.tape=w.tape->D4 I' w' h rows out->LT top Post 0 I' w' (G (cc.finish (.tuple #[.slice (some ⟨out,0,none⟩) n n,.int .i64 0])) cs)) :
  LT top Post 0 I w (G ((base 6).at ⟨#[v0,.slice la n lc,v2,.pointer (some ⟨SB,0,none⟩),.pointer (some ⟨LB,0,none⟩),.pointer (some ⟨WB,0,none⟩),v6,v7,v8,undef,undef,undef,v12,v13,v14,v15,v16,v17,v18,undef,undef,undef,undef,undef,undef,undef,undef,undef,undef,undef,undef,undef,undef,undef,undef,undef],[]⟩ [.code Nm]) (cc::cs)):=by
 have hg:I.tag 0≠.gone:=s0.ng;have L:=Cp.refl (fun b=>I.hs<=b) 0 I w;have so:=s0;replace s0:=so.lon;simp only[Nm,Tryz.f6,Option.getD_some]
 (try walk_nrm);refine Am (Au ?_);simp only[ix,Nat.reduceAdd]
 refine Gf true s0 rfl fun wV=>?_;refine goes_oper_k rfl rfl (by k_ne) (fun W hW=>?_);go_simp;refine hW _ _ ⟨_,rfl,rfl,rfl,rfl,Ax (by first | (simp[go_sem];done) | (simp[go_sem];kernel_rfl)),fun I1 w1 s1 l1 a1 fC=>?_⟩;clear hW;clear W;generalize wV.heap.size=Bc at a1 fC ⊢;clear wV;replace L:=L.trans l1 (fun _ q=>q) (fun _ _ q=>q.elim);have hg:I1.tag 0≠.gone:=s1.ng
 try walk_nrm
 have qC:=fC.lt;refine Gf false s1 rfl fun wV=>?_;refine goes_oper_k rfl rfl (by k_ne) (fun W hW=>?_);go_simp;refine hW _ _ ⟨_,rfl,rfl,rfl,rfl,Ax (by simp[go_sem]),fun I2 w2 s2 l2 a2 fD=>?_⟩;clear hW;clear W;generalize wV.heap.size=DB at a2 fD ⊢;clear wV;replace L:=L.trans l2 (fun _ q=>q) (fun _ _ q=>q.elim);replace fC:=fC.next (.inr rfl) l2 id
 have hg:I2.tag 0≠.gone:=s2.ng
 try walk_nrm
 have oD:Bc < DB:=Nat.lt_of_lt_of_le qC a2;refine Sr (v:=.chan (some Bc)) s2 rfl fD fun wV eV=>?_;refine goes_oper_k rfl rfl (by k_ne) (fun W hW=>?_);have hcell:wV.cell? ⟨DB,0,none⟩=some (.chan none):=by simp[World.cell?,eV]
 have hfro:wV.frozen? ⟨DB,0,none⟩=false:=by simp[World.frozen?,eV]
 go_simp;refine hW _ _ ⟨rfl,fun e he=>by have hm:=mem_listed he;simp[go_sem,hcell,hfro] at hm;first|exact hm | (rw[events_store _ _ _ _ _ _ rfl,hcell] at hm;simp[hfro] at hm;exact hm),fun I3 w3 s3 l3 fX=>?_⟩;clear hW;clear W hcell hfro eV;clear wV;replace L:=L.trans l3 (fun _ q=>q) (fun b _ q=>by have q':b=DB:=q;show I.hs<=b;omega);replace fC:=fC.next (.inr rfl) l3 (fun q=>by have q':Bc=DB:=q;omega)
 replace fD:=fX;have hg:I3.tag 0≠.gone:=s3.ng
 (try walk_nrm);refine len (Am (Au ?_));simp only[ix,Nat.reduceAdd];refine Ai fun v W H=>?_;go_simp;refine H _ ?_;clear H W v;try walk_nrm
 refine An rfl hg fun I5 w5 hrl hI hi=>?_;obtain⟨s5,l5⟩:=s3.rel hI hrl;replace L:=L.trans l5 (fun _ q=>q) (fun _ _ q=>q.elim);replace fC:=fC.next (.inr rfl) l5 id
 replace fD:=fD.next (.inl rfl) l5 id
 have lo5:=L.hs;have fS5:=fSB.next (.inl rfl) L (Nat.not_le.2 fSB.lt)
 have fL5:=fLB.next (.inl rfl) L (Nat.not_le.2 fLB.lt)
 have fW5:=fWB.next (.inl rfl) L (Nat.not_le.2 fWB.lt)
 have bk5:∀b,b < I.hs->I5.bk b=I.bk b:=fun b hb=>L.bk b hb fun j hj q=>by
  rcases so.bk b hb with e|⟨s,e⟩|e<;>(rw[q] at e;cases e);exact hj rfl
 have ko:I5.ph=none:=s5.lone.1;have hc5:I5.col=none:=by rw[L.col];exact so.col
 have hi5:=hI.cnt;have cn5:I5.cnt=I.cnt:=L.cnt;obtain⟨c,wo⟩:∃c:Ir,c=⟨I5.cnt,W0,Bc,n,fun b=>w5.heap[b]?,R5 h rows⟩:=⟨_,rfl⟩;have cf:c.f=I5.cnt:=by rw[wo]
 have cW:c.W=W0:=by rw[wo]
 have cdn:c.dn=Bc:=by rw[wo]
 have cn:c.n=n:=by rw[wo]
 have cH:c.H=fun b=>w5.heap[b]?:=by rw[wo]
 have cg:c.good=R5 h rows:=by rw[wo]
 clear wo;obtain⟨Fx,hFx⟩:∃Fx:Nat->Prop,∀b,Fx b↔(b < I5.hs/\I5.bk b=.priv 0):=⟨_,fun _=>Iff.rfl⟩;have B:Atg top I5 w5 c Fx:=⟨ko,hc5,cf,by rw[cdn];exact fC.bk,by rw[cdn];exact fC.heap,fun b q=>(hFx b).1 q,fun b _=>by rw[cH],by rw[cf,cW];omega,s5.deaf⟩;have tz:(I5.fork c Fx).tag 0=.coll:=by
  show upd (upd I5.tag 0 B6.coll) I5.cnt B6.pre 0=_;rw[upd_ne _ _ (by omega),upd_same]
 have fxb:∀b,b < I5.hs->I5.bk b=.priv 0->(I5.fork c Fx).bk b=.fix 0:=fun b h1 h2=>by simp only[Ab.fork];rw[if_pos ((hFx b).2 ⟨h1,h2⟩)]
 have nfx:∀b y,I5.bk b=y->y≠.priv 0->(I5.fork c Fx).bk b=y:=fun b y h1 h2=>by
  simp only[Ab.fork];rw[if_neg fun q=>h2 (by rw[<- h1];exact((hFx b).1 q).2)];exact h1
 refine .spawn _ _ (I5.fork c Fx) (Za rfl rfl (by k_ne) rfl rfl) (Asf hI B) ?_ ?_
 ·have s6:Cl c (I5.fork c Fx) w5:=⟨rfl,tz,(upd_ne _ _ (by omega)).trans s5.deaf,s5.hs⟩;have fL:D5 0 (I5.fork c Fx) w5 LB (.fix 0) (.cells #[.slice la n lc] 25 (0,0)):=⟨fL5.lt,fxb _ fL5.lt fL5.bk,fL5.heap⟩;have fDf:D5 0 (I5.fork c Fx) w5 DB (.fix 0) (.cells #[.chan (some Bc)] 54 (0,0)):=⟨fD.lt,fxb _ fD.lt fD.bk,fD.heap⟩;have nd:∀x,¬(I5.fork c Fx).done x:=fun _ q=>q;have qf:∀b,b < I.hs->(I.bk b=.priv 0->(I5.fork c Fx).bk b=.fix 0)/\(∀s,I.bk b=.shd s->(I5.fork c Fx).bk b=.shd s)/\(I.bk b=.lock->(I5.fork c Fx).bk b=.lock):=fun b hb=>⟨fun q=>fxb b (by omega) ((bk5 b hb).trans q),fun s q=>nfx b _ ((bk5 b hb).trans q) (by simp),fun q=>nfx b _ ((bk5 b hb).trans q) (by simp)⟩;have hcn6:(I5.fork c Fx).hs=I5.hs:=rfl;have hh6:∀b,b < I.hs->I.bk b=.priv 0->w5.heap[b]?=w.heap[b]?:=fun b hb q=>L.heap b hb (Nat.not_le.2 hb) (.inl q);have tp6:w5.tape=w.tape:=L.tape;clear hg;show LT top Post 0 (I5.fork c Fx) w5 _;generalize I5.fork c Fx=I6 at s6 fL fDf nd qf hcn6 ⊢;clear tz fxb nfx B hi5 ko hc5 s5 fS5 fL5 fW5 fC fD bk5 L l5 hrl hI hi s1 s2 s3 l1 l2 l3;have hg:I6.tag 0≠.gone:=s6.ng
  (try walk_nrm);refine len (Am (Au ?_));simp only[ix,Nat.reduceAdd]
  refine Vr (o:=0) (v:=.slice la n lc) s6 rfl fL (.inr rfl) rfl fun wV hcell=>?_;refine goes_oper_k rfl rfl (by k_ne) (fun W hW=>?_);go_simp;refine hW _ _ ⟨⟨rfl,fun e he=>by have hm:=mem_listed he;simp[go_sem,hcell] at hm;exact hm⟩,?_⟩;clear hW hcell;clear W;clear wV;(try walk_nrm);refine Ai fun v W H=>?_;go_simp;refine H _ ?_;clear H W v;try walk_nrm
  obtain⟨Z,hZ,hmk⟩:=Akc n hn;refine Ah0 s6 rfl fun wV=>?_;refine goes_oper_k rfl rfl (by k_ne) (fun W hW=>?_);have x8:=hmk wV;go_simp;refine hW _ _ ⟨_,rfl,rfl,rfl,rfl,Ax (by simp[go_sem];exact An8 n hn _),fun I7 w7 s7 l7 d7 a7 fO=>?_⟩;clear hW x8;clear W;generalize wV.heap.size=Bo at a7 fO ⊢;clear wV;clear hg;have hg:I7.tag 0≠.gone:=s7.ng;replace fDf:=fDf.cl (.inr rfl) l7 id
  (try walk_nrm);refine Ai fun v W H=>?_;go_simp;refine H _ ?_;clear H W v;(try walk_nrm);refine len (Am ?_);refine Am (Au ?_);simp only[ix,Nat.reduceAdd]
  refine Vr (o:=0) (v:=.chan (some Bc)) s7 rfl fDf (.inr rfl) rfl fun wV hcell=>?_;refine goes_oper_k rfl rfl (by k_ne) (fun W hW=>?_);go_simp;refine hW _ _ ⟨⟨rfl,fun e he=>by have hm:=mem_listed he;simp[go_sem,hcell] at hm;exact hm⟩,?_⟩;clear hW hcell;clear W;clear wV;(try walk_nrm);refine len ?_;refine Bz (fun _=>stepG_block) ?_;refine Bz (fun _=>stepG_loop) ?_;refine Lw (Avk c h rows n Bo Bc I6 w5) (m:=left I7.done n) ⟨_,_,_,_,_,_,_,_,_,_,_,_,_,_,_,_,_,_,_,_,_,_,_,_,_,_,_,_,_,_,_,_,_,_,Z,rfl,rfl,s7,l7.weak (fun _ _ q=>q.elim),a7,fO,hZ,fun x _ q=>absurd ((d7 x).1 q) (nd x)⟩ fun m ih tm I8 w8 hR=>?_;clear hg s7 l7 d7 fO fDf hZ hmk;obtain⟨u0,u1,u2,u3,u4,u5,u6,u7,u8,u9,u11,u12,u13,u14,u15,u16,u17,u18,u19,u20,u21,u22,u23,u24,u26,u27,u28,u29,u30,u31,u32,u33,u34,u35,cells,rfl,rfl,s8,l8,_,fO,hsz,zl⟩:=hR;have hg:I8.tag 0≠.gone:=s8.ng;refine Am (Au ?_);simp only[ix,Nat.reduceAdd];refine Im (cases:=#[rcase Bc (.agg #[.int .i64 0,.slice none 0 0])]) (blocking:=true) (shape:=.recv true) rfl rfl (by k_ne) hg (fun _=>by kernel_rfl) (fun _=>by kernel_rfl) (fun I2 w2 hrl hI=>.coll c _ (s8.rel hI hrl).1.col rfl rfl (by rw[cdn])) fun I2 w2 hrl hI kk v ok I3 w3 hR bq=>?_;obtain⟨s2,l2,d2⟩:=s8.rel hI hrl;replace l2:=l8.trans l2 (fun _ q=>q) (fun _ _ q=>q.elim);have fO2:=fO.cl (.inl rfl) (s8.rel hI hrl).2.1 id;have yn:∀x,x < n->I2.done x->∃v,cells[x]?=some v/\Gk I2 w2 h rows x v:=fun x hx q=>by
   obtain⟨v,h1,h2⟩:=zl x hx ((d2 x).1 q);exact⟨v,h1,h2.cl (s8.rel hI hrl).2.1 fun _ _ _ q=>q.elim⟩
  have hm2:left I8.done n=left I2.done n:=Lz fun z _=>(d2 z).symm;rw[hm2] at ih;rw[show commResult #[rcase Bc (.agg #[.int .i64 0,.slice none 0 0])] (.recv true) kk v ok=.tuple #[v,.bool ok] from rfl];rcases Aej hR hI s2.col with⟨rfl,hh,x,s,rfl,hgv,rfl,ft,hnd,hok,rfl,rfl⟩|⟨rfl,hall,rfl,rfl⟩
  ·have hh0:hh≠0:=fun e=>by rw[e,s2.tag] at hgv;cases hgv
   obtain⟨ob,gf,iz⟩:=hok.good;rw[cg] at gf;obtain⟨row,u,hrow,hvv,oh⟩:=gf;rw[hvv];rw[cn] at ft;have hdlt:c.dn < w2.heap.size:=(hI.coll c s2.col).lt hI.hs |> fun q=>by rw[<- hI.hs];exact q
   have hbd:I2.bk c.dn=.shd 0:=(hI.coll c s2.col).bdn;have tkb:∀b,(∀j,j≠0->I2.bk b≠.priv j)->(I2.taken hh x).bk b=I2.bk b:=fun b hj=>by
    show (if I2.gb hh=some b then BK.priv 0 else I2.bk b)=I2.bk b;rw[if_neg fun q=>?_];rw[q] at iz;exact hj hh hh0 iz.2.1
   have l3:C4 (fun _=>False) I2 w2 (I2.taken hh x) (w2.setChan c.dn 0 #[] false s s false):=⟨Nat.le_refl _,fun b hb hj=>tkb b hj,fun b hb _ q=>heap_setChan _ _ _ _ _ _ _ _ (fun r=>by subst r;rw[hbd] at q;rcases q with q|q<;>cases q),rfl⟩;have s3:Cl c (I2.taken hh x) (w2.setChan c.dn 0 #[] false s s false):=⟨s2.col,(upd_ne _ _ (Ne.symm hh0)).trans s2.tag,s2.deaf,by rw[show (w2.setChan c.dn 0 #[] false s s false).heap.size=w2.heap.size by simp[World.setChan]];exact s2.hs⟩;have fO3:=fO2.cl (.inl rfl) l3 id;have hdn3:∀z,z < n->I2.done z->∃v,cells[z]?=some v/\Gk (I2.taken hh x) (w2.setChan c.dn 0 #[] false s s false) h rows z v:=fun z hz q=>by
    obtain⟨v,h1,h2⟩:=yn z hz q;exact⟨v,h1,h2.cl l3 fun _ _ _ q=>q.elim⟩
   have hpo:Gk (I2.taken hh x) (w2.setChan c.dn 0 #[] false s s false) h rows x u:=by
    refine⟨row,ob,hrow,oh,fun B o e=>?_⟩;cases hgb:I2.gb hh with
    | none=>rw[hgb] at iz;rw[iz] at e;cases e
    | some B' =>
     rw[hgb] at iz;obtain⟨q1,q2,o',q3,q4⟩:=iz;rw[q4] at e;injection e with e;injection e with e1 e2;subst e1 e2;refine⟨q1,?_,?_⟩
     ·show (if I2.gb hh=some B' then BK.priv 0 else I2.bk B')=_;rw[if_pos hgb]
     ·rw[heap_setChan _ _ _ _ _ _ _ _ (fun r=>by subst r;rw[hbd] at q2;cases q2)];exact q3
   have hmd:left (I2.taken hh x).done n < left I2.done n:=Ahv (x:=x) (fun _=>Iff.rfl) hnd ft;have hd3:∀z,(I2.taken hh x).done z↔I2.done z\/z=x:=fun _=>Iff.rfl;replace l3:=l2.trans l3 (fun _ q=>q) (fun _ _ q=>q.elim);clear l2 s2 s8 l8 fO fO2 zl yn hok iz hI bq hR hrl hgv hg hvv hbd hdlt tkb hnd d2 hm2;obtain⟨va,vn,vc,rfl⟩:∃a n c,u=.slice a n c:=by
    rcases oh with⟨_,e,_⟩|⟨B,cap,cs,e,_⟩
    ·exact⟨_,_,_,e⟩
    ·exact⟨_,_,_,e⟩
   generalize I2.taken hh x=I4,w2.setChan c.dn 0 #[] false s s false=w4 at *;have hg:I4.tag 0≠.gone:=s3.ng
   (try walk_nrm);refine Ai fun v W H=>?_;go_simp;refine H _ ?_;clear H W v;(try walk_nrm);refine len (Am ?_);refine Hd (Gz ?_);refine Bz (fun _=>stepG_block) ?_;refine Am (Au ?_);simp only[ix,Nat.reduceAdd];refine Ai fun v W H=>?_;go_simp;refine H _ ?_;clear H W v;try walk_nrm
   refine Ah0 s3 rfl fun wV=>?_;refine goes_oper_k rfl rfl (by k_ne) (fun W hW=>?_);go_simp;refine hW _ _ ⟨_,rfl,rfl,rfl,rfl,Ax (by simp[go_sem]),fun I5 w5' s5 l5 d5 a5 fR=>?_⟩;clear hW;clear W;generalize wV.heap.size=Br at a5 fR ⊢;clear wV;replace fR:D5 0 I5 w5' Br (.priv 0) (.cells #[.int .i64 0,.slice none 0 0] 62 (0,0)):=fR;have noX:∀ {I:Ab} {w:World} {Bx:Nat} {cs:Array Value} {tx:TypeId},D5 0 I w Bx (.priv 0) (.cells cs tx (0,0))->tx≠60->∀b t cs',b=Bx->w.heap[b]?=some (.cells cs' t (0,0))->t≠60:=fun f hx b t cs' e q=>by
    subst e;rw[f.heap] at q;injection q with q;injection q with _ q;rw[<- q];exact hx
   have no0:∀ {w:World} (b:Nat) (t:TypeId) (cs':Array Value),False->w.heap[b]?=some (.cells cs' t (0,0))->t≠60:=fun _ _ _ q=>q.elim;have fO5:=fO3.cl (.inl rfl) l5 id;have hpo5:=hpo.cl l5 no0;have hdn5:∀z,z < n->I2.done z->∃v,cells[z]?=some v/\Gk I5 w5' h rows z v:=fun z hz q=>by
    obtain⟨v,h1,h2⟩:=hdn3 z hz q;exact⟨v,h1,h2.cl l5 no0⟩
   have lb5:I6.hs<=Br:=Nat.le_trans l3.hs a5;replace l3:=l3.trans l5 (fun _ q=>q) (fun _ _ q=>q.elim);clear fO3 hpo hdn3 l5 s3 hg;have hg:I5.tag 0≠.gone:=s5.ng
   try walk_nrm
   refine Aue (cl':=#[.int .i64 (x:Int),.slice va vn vc]) s5 rfl fR fun wV hH=>?_;have hex:=Gg (P:=prog) (a:=⟨#[u0,u1,u2,u3,u4,u5,u6,u7,u8,u9,.slice (some ⟨Bo,0,none⟩) n n,.pointer (some ⟨Br,0,none⟩),u12,u13,u14,u15,u16,u17,u18,u19,u20,u21,u22,u23,u24,.chan (some Bc),.tuple #[.agg #[.int .i64 (x:Int),.slice va vn vc],.bool true],.bool true,.agg #[.int .i64 (x:Int),.slice va vn vc],u29,u30,u31,u32,u33,u34,u35],[]⟩) (op:=Atr[2]) (x:=.tmp 11) (y:=.tmp 28) (o:=0) (vs:=[.int .i64 (x:Int),.slice va vn vc]) (ty:=62) (w:=wV) rfl rfl rfl (by kernel_rfl) hH (by simp) (fun v hv=>by simp at hv;rcases hv with rfl|rfl<;>rfl);refine⟨_,_,stepG_none rfl rfl (by k_ne) hex.1,fun e he=>?_,fun I6' w6' s6' l6 d6 fR6=>?_⟩
   ·obtain⟨j,_,q⟩:=hex.2 e (mem_listed he);exact⟨_,q⟩
   clear hex hH;clear wV;have fO6:=fO5.cl (.inl rfl) l6 (fun q=>by subst q;have q1:=fO5.heap;rw[fR.heap] at q1;injection q1 with q1;injection q1 with _ q1;cases q1);have hpo6:=hpo5.cl l6 (noX fR (by decide));have hdn6:∀z,z < n->I2.done z->∃v,cells[z]?=some v/\Gk I6' w6' h rows z v:=fun z hz q=>by
    obtain⟨v,h1,h2⟩:=hdn5 z hz q;exact⟨v,h1,h2.cl l6 (noX fR (by decide))⟩
   replace l3:=l3.trans l6 (fun _ q=>q) (fun b _ q=>by have q':b=Br:=q;show I6.hs<=b;omega);clear fO5 hpo5 hdn5 l6 s5 hg;have hg:I6'.tag 0≠.gone:=s6'.ng
   (try walk_nrm);refine len (Au ?_);simp only[ix,Nat.reduceAdd];(iterate 2 (refine Ai fun v W H=>?_;go_simp;refine H _ ?_;clear H W v;try walk_nrm))
   refine Vr (o:=0) (v:=.int .i64 (x:Int)) s6' rfl fR6 (.inl rfl) rfl fun wV hcell=>?_;refine goes_oper_k rfl rfl (by k_ne) (fun W hW=>?_);go_simp;refine hW _ _ ⟨⟨rfl,fun e he=>by have hm:=mem_listed he;simp[go_sem,hcell] at hm;exact hm⟩,?_⟩;clear hW hcell;clear W;clear wV;(try walk_nrm);refine Ai fun v W H=>?_;go_simp;refine H _ ?_;clear H W v;try walk_nrm
   refine Vr (o:=1) (v:=.slice va vn vc) s6' rfl fR6 (.inl rfl) rfl fun wV hcell=>?_;refine goes_oper_k rfl rfl (by k_ne) (fun W hW=>?_);go_simp;refine hW _ _ ⟨⟨rfl,fun e he=>by have hm:=mem_listed he;simp[go_sem,hcell] at hm;exact hm⟩,?_⟩;clear hW hcell;clear W;clear wV;try walk_nrm
   have li:(0:Int)<=(x:Int)/\(x:Int) < (n:Int):=⟨by omega,by omega⟩;refine Ai fun v W H=>?_;go_simp;refine H _ ?_ (by simp[go_sem];exact events_indexAt_slice _ _ _ _ _ _ (by kernel_rfl) li);clear H W v;try walk_nrm
   have hxs:x < cells.size:=by rw[hsz];exact ft
   refine Apd (o:=x) (v:=.slice va vn vc) s6' rfl fO6 fun wV hH=>?_;refine goes_oper_k rfl rfl (by k_ne) (fun W hW=>?_);have hcell:wV.cell? ⟨Bo,x,none⟩=some cells[x]:=by simp[World.cell?,hH,hxs]
   have hfro:wV.frozen? ⟨Bo,x,none⟩=false:=by simp[World.frozen?,hH]
   go_simp;refine hW _ _ ⟨rfl,fun e he=>by have hm:=mem_listed he;simp[go_sem,hcell,hfro] at hm;first|exact hm | (rw[events_store _ _ _ _ _ _ rfl,hcell] at hm;simp[hfro] at hm;exact hm),fun I7 w7 s7 l7 d7 fO7=>?_⟩;clear hW;clear W hcell hfro hH;clear wV;have hpo7:=hpo6.cl l7 (noX fO6 (by decide));have hdn7:∀z,z < n->I2.done z->∃v,cells[z]?=some v/\Gk I7 w7 h rows z v:=fun z hz q=>by
    obtain⟨v,h1,h2⟩:=hdn6 z hz q;exact⟨v,h1,h2.cl l7 (noX fO6 (by decide))⟩
   replace l3:=l3.trans l7 (fun _ q=>q) (fun b _ q=>by have q':b=Bo:=q;show I6.hs<=b;omega);have lq:∀z,I7.done z↔I4.done z:=fun z=>(d7 z).trans ((d6 z).trans (d5 z));have hm7:left I7.done n < left I2.done n:=by rw[Lz fun z _=>lq z];exact hmd
   clear hg;have hg:I7.tag 0≠.gone:=s7.ng
   (try walk_nrm);refine len ?_;refine Bz (fun _=>stepG_inBlock) ?_;refine Bz (fun _=>stepG_inLoop) ?_
   refine ih _ hm7 _ _ _ ⟨_,_,_,_,_,_,_,_,_,_,_,_,_,_,_,_,_,_,_,_,_,_,_,_,_,_,_,_,_,_,_,_,_,_,cells.setIfInBounds x (.slice va vn vc),rfl,rfl,s7,l3,by assumption,fO7,by simpa using hsz,fun z hz q=>?_⟩;by_cases e:z=x
   ·subst e;exact⟨_,by simp[hxs],hpo7⟩
   ·rcases (hd3 z).1 ((lq z).1 q) with q|q
    ·obtain⟨v,h1,h2⟩:=hdn7 z hz q;exact⟨v,by rw[Array.getElem?_setIfInBounds_ne (Ne.symm e)];exact h1,h2⟩
    ·exact absurd q e
  ·have sH:=B3.home hI bq s2.col s2.deaf;have hcn2:=(hI.coll c s2.col).f.2.2;rw[cf,cW,cn5] at hcn2;have hcnH:I2.home.cnt<=I.cnt+17:=by show I2.cnt<=_;omega
   have hpv:∀ {b:Nat},I2.bk b=.priv 0\/I2.bk b=.fix 0->I2.home.bk b=.priv 0:=fun q=>W7 (fun s r=>by rcases q with q|q<;>(rw[r] at q;cases q)) (fun r=>by rcases q with q|q<;>(rw[r] at q;cases q));have fOH:D5 0 I2.home w3 Bo (.priv 0) (.cells cells 35 (0,0)):=⟨fO2.lt,hpv (.inl fO2.bk),fO2.heap⟩;have kq:D4 I2.home w3 h rows Bo:=⟨cells,fOH,by rw[hsz,hmem.n],fun x hx=>by
    rw[<- hmem.n] at hx;obtain⟨v,h1,row,ob,h2,h3,h4⟩:=yn x hx (hall x (by rw[cn];exact hx));exact⟨v,h1,row,ob,h2,h3,fun B o e=>by
     have f:=h4 B o e;exact⟨f.lt,hpv (.inl f.bk),f.heap⟩⟩⟩
   have hsH:I.hs<=I2.home.hs:=by
    have h1:=l2.hs;have h2:I2.home.hs=I2.hs:=rfl;omega
   have hbH:∀b,b < I.hs->I2.home.bk b=I.bk b:=fun b hb=>by
    rcases so.bk b hb with e|⟨s,e⟩|e
    ·have e6:=(qf b hb).1 e;rw[hpv (.inr ((Rz l2 (by omega) (.inr e6)).trans e6)),e]
    ·have e6:=(qf b hb).2.1 s e;rw[e];exact Kz.2 ((l2.bk b (by omega) fun j _ r=>by rw[e6] at r;cases r).trans e6)
    ·have e6:=(qf b hb).2.2 e;rw[e];exact Ib.2 ((l2.bk b (by omega) fun j _ r=>by rw[e6] at r;cases r).trans e6)
   have hhH:∀b,b < I.hs->I.bk b=.priv 0->w3.heap[b]?=w.heap[b]?:=fun b hb q=>(l2.heap b (by omega) (fun r=>by have r':I6.hs<=b:=r;omega) (.inr ((qf b hb).1 q))).trans (hh6 b hb q);have tpH:w3.tape=w.tape:=l2.tape.trans tp6;clear hg;have hg:I2.home.tag 0≠.gone:=sH.ng;generalize I2.home=I9 at sH hcnH fOH kq hsH hbH hg ⊢
   (try walk_nrm);refine Ai fun v W H=>?_;go_simp;refine H _ ?_;clear H W v;(try walk_nrm);refine len (Am (Gl ?_));refine Bz (fun _=>stepG_exit rfl) ?_;refine Am (Au ?_);simp only[ix,Nat.reduceAdd];(iterate 3 (refine Ai fun v W H=>?_;go_simp;refine H _ ?_;clear H W v;try walk_nrm));refine len ?_;refine Bz (fun _=>stepG_ret') ?_;refine Bz (fun _=>stepG_leave (v:=.tuple #[.slice (some ⟨Bo,0,none⟩) n n,.int .i64 0]) rfl rfl func6 (by kernel_rfl) (by kernel_rfl)) ?_
   exact hK I9 w3 Bo sH hsH hcnH hbH hhH tpH kq
 ·have i7:I5.cnt≠0:=by omega
  have hi0:(I5.cnt==0)=false:=by simpa using i7
  have tc:(I5.fork c Fx).tag I5.cnt=.pre:=upd_same _ _ _;have sn:∀ {b o:Nat} {v:Value},b < I5.hs->I5.bk b=.priv 0->w5.cell? ⟨b,o,none⟩=some v->(Eu I5 I5.hs w5).cell? ⟨b,o,none⟩=some v:=fun h1 h2 h3=>Cd h2 (by omega) h3;have cl:∀ {b o:Nat} {v:Value} {cs:Array Value} {t:TypeId},D5 0 I5 w5 b (.priv 0) (.cells cs t (0,0))->cs[o]?=some v->(Eu I5 I5.hs w5).cell? ⟨b,o,none⟩=some v:=fun f e=>sn f.lt f.bk (by simp[World.cell?,f.heap,e]);show LT top Post I5.cnt (I5.fork c Fx) w5 _;refine Ak rfl (by rw[tc];simp) (fun w=>by rw[hi0];exact Apf _ w rfl) ?_;refine Wq (Hw:=Eu I5 I5.hs w5) (rows:=rows) (la:=la) (lc:=lc) (n:=n) (W0:=W0) (SB:=SB) (LB:=LB) (DB:=DB) (WB:=WB) hG ⟨⟨ko,.inr ⟨i7,c,rfl,cf,tc⟩⟩,.inr tc,upd_same _ _ _,s5.hs⟩ i7 ko rfl cf tc (fun b o v hv=>?_) (fun b _ _=>by rw[cH]) (fun p og=>?_) (cl fL5 rfl) (cl fW5 rfl) (by rw[cg];exact fun x v ob q=>q) hn cn.symm (by rw[cW];exact Nat.le_refl _) hW (by omega) (by show I5.cnt+1+W0<=top;omega) (by show _<=I5.hs;omega)
  ·obtain⟨h1,h2,h3,h4⟩:=Ni hv;have hlt:b < I5.hs:=by rw[s5.hs];exact h3
   exact⟨⟨hlt,fxb b hlt h1⟩,by rw[cH,Aap h1 h2]⟩
  ·have hm5:=hmem.keeps (Tg (I':=I5) (w':=w5) (out':=I5.hs) (fun b hb q=>(bk5 b hb).trans q) so.hs (fun b hb q=>L.heap b hb (Nat.not_le.2 hb) (.inl q)) lo5);obtain⟨m1,⟨lb,lo,m2,m3⟩,m4⟩:=hm5;have hlb5:(Eu I5 I5.hs w5).cell? ⟨LB,0,none⟩=some (.slice la n lc):=cl fL5 rfl;have hdb5:(Eu I5 I5.hs w5).cell? ⟨DB,0,none⟩=some (.chan (some Bc)):=cl fD rfl;refine⟨og.trans m1,by omega,cl fS5 rfl,cl fS5 rfl,cl fS5 rfl,cl fS5 rfl,cl fS5 rfl,⟨lb,lo,lc,fun q=>by rw[hlb5,m2 q,og],fun x row hx=>?_⟩,by rw[hdb5,cdn],m4⟩;obtain⟨_,q⟩:=m3 x row hx;exact⟨hshort row (List.mem_of_getElem? hx),q⟩
end
theorem Ar1 {L M K Wn:Int} (sd:BitVec 32) (h:K5 L M K Wn=true):∃h:Avu.Sh,h.Good/\L=h.L/\M=h.M/\K=h.K/\Wn=h.W/\sd=h.s:=by
 obtain⟨h1,h2,h3,h4,h5,h6,h7⟩:=Rt.1 h;exact⟨⟨L.toNat,M.toNat,K.toNat,Wn.toNat,sd⟩,⟨by show 1<=Wn.toNat;omega,by show Wn.toNat<=63;omega,by show Wn.toNat<=L.toNat;omega,by show L.toNat<=M.toNat;omega,by show M.toNat<=8192;omega,by show K.toNat<=20;omega⟩,by show L=(L.toNat:Int);omega,by show M=(M.toNat:Int);omega,by show K=(K.toNat:Int);omega,by show Wn=(Wn.toNat:Int);omega,rfl⟩
section
variable {top:Nat} {I I' I2:Ab} {w w' w2:World} {n:Nat} {Post:Value->World->Prop}
theorem Mv {L M K Wn m:Int} {sd:BitVec 32} {rows:Dg} {la:Option Addr} {lc:Nat} {cc:Frame} {cs:List Frame} (s0:B3 I w) (hn:n<=1000) (hmem:Hv (Eu I I.hs w) la n rows) (hshort:∀row∈rows,row.length<=100000) (hgl:prog.globals.size<=I.hs) (ak:I.cnt+17<=top)
  (jg:∀(h:Avu.Sh) (W0:Nat),h.Good->L=h.L->M=h.M->K=h.K->Wn=h.W->sd=h.s->m=W0->1<=W0->W0<=16->∀I' w' out,B3 I' w'->B4 I w I' w'->I'.cnt<=I.cnt+17->w'.tape=w.tape->D4 I' w' h rows out->LT top Post 0 I' w' (G (cc.finish (.tuple #[.slice (some ⟨out,0,none⟩) n n,.int .i64 0])) cs))
  (mf:(¬(1<=m/\m<=16)\/K5 L M K Wn=false)->∀I' w',B3 I' w'->B4 I w I' w'->I'.cnt<=I.cnt+17->w'.tape=w.tape->LT top Post 0 I' w' (G (cc.finish (.tuple #[.slice none 0 0,.int .i64 2])) cs)) :
  LT top Post 0 I w (G ((base 6).at ⟨#[Ca L M K Wn sd,.slice la n lc,.int .i64 m]++Array.replicate 33 undef,[]⟩ [.code (Tryz.f6.body.getD .skip)]) (cc::cs)):=by
 have hg:I.tag 0≠.gone:=s0.ng;unfold Ca;simp only[Tryz.f6,Option.getD_some]
 (try walk_nrm);refine Am (Au ?_);simp only[ix,Nat.reduceAdd]
 refine solo_goes s0 rfl fun wV eV eT=>?_;refine goes_oper_k rfl rfl (by k_ne) (fun W hW=>?_);go_simp;refine hW _ _ ⟨Dc (w:=wV) rfl rfl rfl rfl (Ax (by simp[go_sem])),fun I1 w1 h1 t1 s1 l1 b1=>?_⟩;replace h1:w1.heap=(w.heap).push (Obj.cells #[Value.int .i64 L,Value.int .i64 M,Value.int .i64 K,Value.int .i64 Wn,Af sd] 24):=by rw[h1];show wV.heap.push _=_;rw[eV];try rfl
 replace t1:w1.tape=w.tape:=t1.trans eT;replace b1:I1.bk (w.heap.size)=.priv 0:=b1 _ (by rw[s0.hs];simp[Nat.add_assoc]) (by show _ < (wV.heap.push _).size;rw[eV];simp[Nat.add_assoc]);clear hW;clear W eV eT;clear wV;have hg:I1.tag 0≠.gone:=s1.ng
 try walk_nrm
 refine solo_goes s1 rfl fun wV eV eT=>?_;refine goes_oper_k rfl rfl (by k_ne) (fun W hW=>?_);go_simp;refine hW _ _ ⟨Dc (w:=wV) rfl rfl rfl rfl (Ax (by simp[go_sem])),fun I2 w2 h2 t2 s2 l2 b2=>?_⟩;replace h2:w2.heap=(w.heap.push (Obj.cells #[Value.int .i64 L,Value.int .i64 M,Value.int .i64 K,Value.int .i64 Wn,Af sd] 24)).push (Obj.cells #[Value.slice la n lc] 25):=by rw[h2];show wV.heap.push _=_;rw[eV,h1];try rfl
 replace t2:w2.tape=w1.tape:=t2.trans eT;replace b2:I2.bk (w.heap.size+1)=.priv 0:=b2 _ (by rw[s1.hs,h1];simp[Nat.add_assoc]) (by show _ < (wV.heap.push _).size;rw[eV,h1];simp[Nat.add_assoc]);clear hW;clear W eV eT;clear wV;rw[t1] at t2;have m2:=l2;replace l2:=l1.trans l2;have hg:I2.tag 0≠.gone:=s2.ng
 try walk_nrm
 refine solo_goes s2 rfl fun wV eV eT=>?_;refine goes_oper_k rfl rfl (by k_ne) (fun W hW=>?_);go_simp;refine hW _ _ ⟨Dc (w:=wV) rfl rfl rfl rfl (Ax (by simp[go_sem])),fun I3 w3 h3 t3 s3 l3 b3=>?_⟩;replace h3:w3.heap=((w.heap.push (Obj.cells #[Value.int .i64 L,Value.int .i64 M,Value.int .i64 K,Value.int .i64 Wn,Af sd] 24)).push (Obj.cells #[Value.slice la n lc] 25)).push (Obj.cells #[Value.int .i64 m] 3):=by rw[h3];show wV.heap.push _=_;rw[eV,h2];try rfl
 replace t3:w3.tape=w2.tape:=t3.trans eT;replace b3:I3.bk (w.heap.size+2)=.priv 0:=b3 _ (by rw[s2.hs,h2];simp[Nat.add_assoc]) (by show _ < (wV.heap.push _).size;rw[eV,h2];simp[Nat.add_assoc]);clear hW;clear W eV eT;clear wV;rw[t2] at t3;have m3:=l3;replace l3:=l2.trans l3;have hg:I3.tag 0≠.gone:=s3.ng
 (try walk_nrm);(iterate 2 (refine Ai fun v W H=>?_;go_simp;refine H _ ?_;clear H W v;try walk_nrm));refine len (Am ?_);refine Am (Au ?_);simp only[ix,Nat.reduceAdd]
 have hs0:=s0.hs;have H3s:w3.heap[w.heap.size]?=some (Obj.cells #[Value.int .i64 L,Value.int .i64 M,Value.int .i64 K,Value.int .i64 Wn,Af sd] 24):=by
  rw[h3];simp only[Array.getElem?_push,Array.size_push]
  repeat (first|rw[if_neg (by omega)] | rw[if_pos (by omega)])
  try simp
 have H3l:w3.heap[w.heap.size+1]?=some (Obj.cells #[Value.slice la n lc] 25):=by
  rw[h3];simp only[Array.getElem?_push,Array.size_push]
  repeat (first|rw[if_neg (by omega)] | rw[if_pos (by omega)])
  try simp
 have H3w:w3.heap[w.heap.size+1+1]?=some (Obj.cells #[Value.int .i64 m] 3):=by
  rw[h3];simp only[Array.getElem?_push,Array.size_push]
  repeat (first|rw[if_neg (by omega)] | rw[if_pos (by omega)])
  try simp
 have old3:∀b,b < w.heap.size->w3.heap[b]?=w.heap[b]?:=fun b hb=>by
  rw[h3];simp only[Array.getElem?_push,Array.size_push]
  repeat rw[if_neg (by omega)]
 have hs3:I3.hs=w.heap.size+3:=by rw[s3.hs,h3];simp
 have d1:I3.bk w.heap.size=.priv 0:=((m2.trans m3).bk _ (by rw[s1.hs,h1];simp)).trans b1;have d2:I3.bk (w.heap.size+1)=.priv 0:=(m3.bk _ (by rw[s2.hs,h2];simp)).trans b2;have d3:I3.bk (w.heap.size+1+1)=.priv 0:=b3;have hSs:I3.S 0 w.heap.size:=⟨by omega,d1⟩;have hSw:I3.S 0 (w.heap.size+1+1):=⟨by omega,d3⟩;have l3':C1 I I3:=l3;have st3:B4 I w I3 w3:=.of l3' fun b hb=>old3 b (by omega);refine Yt (ad:=⟨w.heap.size+1+1,0,none⟩) (v:=.int .i64 m) s3.ns (fun IV wV hrl au=>⟨by rw[World.cell?,(s3.rel hrl).2.1];simp[H3w],.inl ⟨_,rfl,rfl,.inl (by rw[hrl.S s3.ng];exact hSw)⟩⟩) fun v W hcell H=>?_;go_simp;refine H _ ?_ (by simp[go_sem,hcell]);clear H hcell W v;try walk_nrm
 refine Bz (fun _=>Aj (first:=#[]) (caps:=#[]) (vs:=#[.int .i64 m]) rfl rfl (by k_ne) rfl rfl (by simp[Act.eval]) func19 (by kernel_rfl) rfl) ?_;refine Mu hg ?_;rw[Frame.finish_at];(try walk_nrm);refine Ai fun v W H=>?_;go_simp;refine H _ ?_;clear H W v;(try walk_nrm);refine len ?_;by_cases hm:1<=m/\m<=16
 ·have hmb:(!decide (1<=m)||!decide (m<=16))=false:=by simp[hm.1,hm.2]
  simp only[hmb];refine Gl (Gz ?_);refine Am (Am (Au ?_));simp only[ix,Nat.reduceAdd];refine E3 rfl s3.ns (fun IV wV hrl au=>?_);have bf:wV.cell? ⟨w.heap.size,0,none⟩=some (.int .i64 L):=by rw[World.cell?,(s3.rel hrl).2.1];simp[H3s]
  have bc:wV.cell? ⟨w.heap.size,1,none⟩=some (.int .i64 M):=by rw[World.cell?,(s3.rel hrl).2.1];simp[H3s]
  have ba:wV.cell? ⟨w.heap.size,2,none⟩=some (.int .i64 K):=by rw[World.cell?,(s3.rel hrl).2.1];simp[H3s]
  have az:wV.cell? ⟨w.heap.size,3,none⟩=some (.int .i64 Wn):=by rw[World.cell?,(s3.rel hrl).2.1];simp[H3s]
  have ay:wV.cell? ⟨w.heap.size,4,none⟩=some (Af sd):=by rw[World.cell?,(s3.rel hrl).2.1];simp[H3s]
  refine goes_oper_k rfl rfl (by k_ne) (fun W hW=>?_);go_simp;refine hW _ _ ⟨⟨rfl,fun e he=>?_⟩,?_⟩
  ·have hm:=mem_listed he;simp[go_sem,bf,bc,ba,az,ay] at hm;rcases hm with rfl|rfl|rfl|rfl|rfl<;>exact .inl ⟨_,rfl,rfl,.inl (by rw[hrl.S s3.ng];exact hSs)⟩
  clear hW bf bc ba az ay;clear W;clear hrl au;clear IV wV;(try walk_nrm);refine Bz (fun _=>Ea rfl rfl (by k_ne) rfl (vs:=#[Ca L M K Wn sd]) (by simp[Act.eval,Ca]) func20 (by kernel_rfl) (by kernel_rfl)) ?_;refine Ad4 s3 (by omega) fun I4 w4 A=>?_;have s4:=A.solo;have st4:=st3.trans A.stays;have tp4:w4.tape=w.tape:=A.tape.trans t3;have cn4:I4.cnt=I.cnt:=A.later.cnt.trans l3'.cnt;rw[Frame.finish_at];clear hg;have hg:I4.tag 0≠.gone:=s4.ng
  try walk_nrm
  cases hgb:K5 L M K Wn with
  | true =>
   simp only[if_true];refine Ai fun v W H=>?_;go_simp;refine H _ ?_;clear H W v;(try walk_nrm);refine len (Am (Au ?_));simp only[ix,Nat.reduceAdd];(iterate 2 (refine Ai fun v W H=>?_;go_simp;refine H _ ?_;clear H W v;try walk_nrm));refine len (Gl (Gz ?_));obtain⟨h,hG,e1,e2,e3,e4,e5⟩:=Ar1 sd hgb;obtain⟨W0,hW0⟩:∃W0:Nat,m=W0:=⟨m.toNat,by omega⟩;have fact:∀ {b:Nat} {cs:Array Value} {t:TypeId},b < I3.hs->I3.bk b=.priv 0->w3.heap[b]?=some (.cells cs t (0,0))->D5 0 I4 w4 b (.priv 0) (.cells cs t (0,0)):=fun h1 h2 h3=>⟨Nat.lt_of_lt_of_le h1 A.stays.hs,(A.stays.bk _ h1).trans h2,(A.stays.heap _ h1 h2).trans h3⟩;have f1:=fact (by omega) d1 H3s;have f2:=fact (by omega) d2 H3l;have f3:=fact (by omega) d3 H3w;have kr:=hmem.keeps (Tg (I':=I4) (w':=w4) (out':=I4.hs) (fun b hb q=>(st4.bk b hb).trans q) hs0 (fun b hb q=>st4.heap b hb q) st4.hs);subst e1 e2 e3 e4 e5 hW0;have hT:=fun v0 v2 v6 v7 v8 v12 v13 v14 v15 v16 v17 v18=>Abe (v0:=v0) (v2:=v2) (v6:=v6) (v7:=v7) (v8:=v8) (v12:=v12) (v13:=v13) (v14:=v14) (v15:=v15) (v16:=v16) (v17:=v17) (v18:=v18) (top:=top) (Post:=Post) (cc:=cc) (cs:=cs) hG s4 hn kr hshort f1 f2 f3 (by omega) (by omega) (by omega) (Nat.le_trans hgl st4.hs) (fun I' w' out s5 q1 q2 q3 q4 q5 q6=>jg h W0 hG rfl rfl rfl rfl rfl rfl (by omega) (by omega) I' w' out s5 (st4.trans ⟨q1,q3,q4⟩) (by omega) (q5.trans tp4) q6);simp only[Nm,Tryz.f6,Option.getD_some] at hT;exact hT _ _ _ _ _ _ _ _ _ _ _ _
  | false =>
   simp only[Bool.false_eq_true,if_false];refine Ai fun v W H=>?_;go_simp;refine H _ ?_;clear H W v;(try walk_nrm);refine len (Am (Au ?_));simp only[ix,Nat.reduceAdd];(iterate 2 (refine Ai fun v W H=>?_;go_simp;refine H _ ?_;clear H W v;try walk_nrm));refine len (Hd ?_);refine Am (Au ?_);simp only[ix,Nat.reduceAdd];(iterate 3 (refine Ai fun v W H=>?_;go_simp;refine H _ ?_;clear H W v;try walk_nrm));refine len ?_;refine Bz (fun _=>stepG_ret') ?_;refine Bz (fun _=>stepG_leave (v:=.tuple #[.slice none 0 0,.int .i64 2]) rfl rfl func6 (by kernel_rfl) (by kernel_rfl)) ?_;exact mf (.inr hgb) I4 w4 s4 st4 (by omega) tp4
 ·have hmb:(!decide (1<=m)||!decide (m<=16))=true:=by
   by_cases h1:1<=m
   ·have h2:¬m<=16:=fun h2=>hm ⟨h1,h2⟩;simp[h2]
   ·simp[h1]
  simp only[hmb];refine Hd (Am (Au ?_));simp only[ix,Nat.reduceAdd];(iterate 2 (refine Ai fun v W H=>?_;go_simp;refine H _ ?_;clear H W v;try walk_nrm));refine len ?_;refine Bz (fun _=>stepG_ret') ?_;refine Bz (fun _=>stepG_leave (v:=.tuple #[.slice none 0 0,.int .i64 2]) rfl rfl func6 (by kernel_rfl) (by kernel_rfl)) ?_;exact mf (.inl hm) I3 w3 s3 st3 (by have:=l3'.cnt;omega) t3
end
noncomputable def F1:Code:=match Tryz.f4.body.getD .skip with
 | .seq _ (.seq _ (.seq _ (.seq _ (.seq _ (.seq _ (.seq _ (.seq _ c)))))))=>c
 | _=>.skip
noncomputable def S8:Code:=match F1 with
 | .seq _ (.seq c _)=>c
 | _=>.skip
noncomputable def S7:Code:=match F1 with
 | .seq _ (.seq _ c)=>c
 | _=>.skip
def Yj (w:World) (pa qa:Option Addr) (k:Nat):Prop :=
 ∀i,i < k->∃b b2 x y c d,∃L:List Pt,pa=some ⟨b,0,none⟩/\qa=some ⟨b2,0,none⟩/\(∀z∈L,z.1.length=32)/\w.cell? ⟨b,i,none⟩=some (.slice x L.length c)/\Gn C0 33 w x c L/\w.cell? ⟨b2,i,none⟩=some (.slice y L.length d)/\Gn C0 33 w y d L
def Ap7 (w:World) (n:Nat) (x:Value) (wr:World):Prop:=∃i:Nat,i<=n/\x=.int .i64 i/\Below w.heap.size w wr
def Ap8 (la:Option Addr) (n lc p q:Nat) (ts:Array Value):Prop:=ts.size=122/\ts[1]?=some (.slice la n lc)/\ts[3]?=some (.int .i64 p)/\ts[4]?=some (.int .i64 q)
theorem Ag4 {la pa qa:Option Addr} {lc n k pk qk p q:Nat} {v0 v2 v5 v6 v7 v8 v9 v10 v11 v12 v13 v14 v16 v18 v19 v20 v21 v22 v23 v24 v25 v26 v27 v28 v29 v30 v31 v32 v33 v34 v35 v36 v37 v38 v39 v40 v41 v42 v43 v44 v45 v46 v47 v48 v49 v50 v51 v52 v53 v54 v55 v56 v57 v58 v59 v60 v61 v62 v63 v64 v65 v66 v67 v68 v69 v70 v71 v72 v73 v74 v75 v76 v77 v78 v79 v80 v81 v82 v83 v84 v85 v86 v87 v88 v89 v90 v91 v92 v93 v94 v95 v96 v97 v98 v99 v100 v101 v102 v103 v104 v105 v106 v107 v108 v109 v110 v111 v112 v113 v114 v115 v116 v117 v118 v119 v120 v121:Value} (w:World) (hk:k<=1000) (hP:Yj w pa qa k) :
  S8.wp prog (fun e a' _=>e=.normal/\a'.defers=[]/\Ap8 la n lc p q a'.tmps) ⟨#[v0,.slice la n lc,v2,.int .i64 p,.int .i64 q,v5,v6,v7,v8,v9,v10,v11,v12,v13,v14,.slice pa k pk,v16,.slice qa k qk,v18,v19,v20,v21,v22,v23,v24,v25,v26,v27,v28,v29,v30,v31,v32,v33,v34,v35,v36,v37,v38,v39,v40,v41,v42,v43,v44,v45,v46,v47,v48,v49,v50,v51,v52,v53,v54,v55,v56,v57,v58,v59,v60,v61,v62,v63,v64,v65,v66,v67,v68,v69,v70,v71,v72,v73,v74,v75,v76,v77,v78,v79,v80,v81,v82,v83,v84,v85,v86,v87,v88,v89,v90,v91,v92,v93,v94,v95,v96,v97,v98,v99,v100,v101,v102,v103,v104,v105,v106,v107,v108,v109,v110,v111,v112,v113,v114,v115,v116,v117,v118,v119,v120,v121],[]⟩ w:=by
 have HP:=Lib.hid hP;clear hP;unfold S8 F1;simp only[Tryz.f4,Option.getD_some]
 go_wp2_with fail
 go_loopw [19] (fun y wr=>Ap7 w k y wr) (fun y _=>k - (intOf y).toNat)
 case atStart=>exact⟨0,Nat.zero_le _,rfl,Below.refl _ _⟩
 case round =>
  obtain⟨i,hi,rfl,hbr⟩:=hrel;by_cases hlt:i < k
  ·obtain⟨b,b2,x,y,c,d,L,rfl,rfl,hkl,hc1,hr1,hc2,hr2⟩:=HP.out i hlt;have hsz:=hbr.size;have c1:∀y:Kf w,y.to.cell? _=_:=fun y=>Bm.below y.below _ _ hc1;have c2:∀y:Kf w,y.to.cell? _=_:=fun y=>Bm.below y.below _ _ hc2;have hb1:=hbr.drew;have SP:=Ys wr.drew x y c d L hkl (hr1.below hb1) (hr2.below hb1);have HBR:=Lib.hid hb1;clear hc1 hc2 hr1 hr2 hbr hkl hsz;generalize L.length=m at *
   go_wp2_with fail
   refine B7 [([0,1,2,3,4,5,6,7],some 8),([9],none)] (fun w'=>∃y:Kf w,w'=y.to) (by kernel_rfl) (by kernel_rfl) (fun c _ _ _ _ h=>by have q:(Exit.panic c=Exit.normal/\_):=h;cases q.1) (W6 hb1) ?_;refine Bb (show wpQuiet _ _ _ _ (_::_::_::_::_::_::_::_::[]) _ from ?_)
   repeat (go_big_quiet_step (fail))
   refine wpQuiet_nil (show wpList _ _ _ (_::[]) _ _ from ?_);clear hb1;generalize wr.drew=w3 at *
   go_wp2_with fail
   refine SP.mono ?_;rintro e w5 ⟨rfl,bo⟩;have HB5:=Lib.hid (HBR.out.trans (bo.mono HBR.out.size));clear bo SP
   go_wp2_with fail
   refine Ap (fun _ h=>h) (W6 HB5.out) ?_;refine Dy (show wpQuiet _ _ _ _ (_::[]) _ from ?_)
   repeat (go_big_quiet_step (fail))
   refine wpQuiet_nil (Ez ?_);clear c1 c2;go_wp2
   go_roundw
   case rel=>exact⟨i+1,by omega,by go_num,HB5.out⟩
   case measure=>simp[intOf];omega
  ·obtain rfl:i=k:=by omega
   clear hbr
   go_wp2_with fail
   exact⟨rfl,rfl,rfl,rfl⟩
section
variable {ty:TypeId} {top:Nat} {I:Ab} {w:World} {P:Program} {Post:Value->World->Prop} {g:Goroutine} {b:Frame} {a:Act} {v:Value} {main:Bool}
theorem Af5 (s:B3 I w) (hr:g.status=.running) (hst:∀w2,stepG P true g w2=.ended (.done v) w2 #[]) (hP:∀w2,w2.heap=w.heap->w2.tape=w.tape->Post v w2):LV P ty top Post 0 I w g:=by
 refine An hr s.ng fun I2 w2 hrl hI hi=>?_;obtain⟨s2,e1,e2,e3,e5,e4⟩:=s.rel hrl;exact .stop v rfl (hst w2) ⟨hP w2 e1 e2,fun j hj _=>⟨hj,(hI.free s2.ph s2.col).2.1 j hj⟩,fun t hT=>Aj4 s2.ph s2.col hT⟩
theorem Aaj {fn:Func} {todo:List Item} (hn:b.kind=.normal) (hd:a.defers=[]) (hf:P.funcs[b.fn]?=some fn) (hr:(results fn a.tmps).run P w=.ok v w) (he:(results fn a.tmps).events P w #[]=#[]) (hi:P.inits.idxOf? b.fn=none) :
  stepG P true (G { b.at a todo with mode:=.returning } []) w=.ended (.done v) w #[]:=by
 simp[G,stepG,unwind,doReturn,Frame.at,hn,hd,hf,hr,he,hi,seen,GStep.after]
end
theorem Cz {I I':Ab} {w w':World} (hs:I.hs=w.heap.size) (hk:C2 w) (dw:I.bk 0=.priv 0) (st:B4 I w I' w'):C2 w'/\I'.bk 0=.priv 0:=by
 have hlt:=World.block_lt_of_cell? w _ (hk 0 (by decide));dsimp only at hlt;refine⟨fun i hi=>?_,(st.bk _ (by omega)).trans dw⟩;have h:=hk i hi;rw[<- h];unfold World.cell?;rw[st.heap _ (by show 0 < I.hs;omega) dw]
section
variable {top:Nat} {I I' I2:Ab} {w w' w2 w1:World} {Post:Value->World->Prop} {n:Nat} {la:Option Addr} {lc:Nat}
theorem D5.stays {b:Nat} {o:Obj} (f:D5 0 I w b (.priv 0) o) (st:B4 I w I' w'):D5 0 I' w' b (.priv 0) o:=⟨Nat.lt_of_lt_of_le f.lt st.hs,(st.bk _ f.lt).trans f.bk,(st.heap _ f.lt f.bk).trans f.heap⟩
theorem F2.stays {a:Option Addr} {cap:Nat} {ls:Dg} (h:F2 I w a cap ls) (k:B4 I w I' w'):F2 I' w' a cap ls:=by
 refine⟨⟨h.txts.fits,h.txts.room,?_⟩,h.held.stays k,fun b off i x n c e hi hc=>?_⟩
 ·rcases h.txts.rows with e|⟨b,off,e,hb⟩
  ·exact .inl e
  ·refine .inr ⟨b,off,e,fun i hi=>?_⟩;obtain⟨x,c,h1,h2⟩:=hb i hi;refine⟨x,c,(k.cell (ad:=⟨b,off+i,none⟩) (h.held _ e).2).trans h1,?_⟩;rcases h.rows b off i x _ c e hi h1 with hx|⟨h0,hc0⟩
   ·exact hx.reads k h2
   ·exact⟨h2.fits,h2.room,h2.null,.inl (List.eq_nil_of_length_eq_zero h0)⟩
 ·rw[k.cell (ad:=⟨b,off+i,none⟩) (h.held _ e).2] at hc;exact(h.rows b off i x n c e hi hc).imp (fun q=>q.stays k) id
def Apw (w:World) (h:Avu.Sh) (rows:Dg) (out:Nat):Prop :=
 ∀x,x < rows.length->∃a cap,w.cell? ⟨out,x,none⟩=some (.slice a (Iz h (Sd rows x)).length cap)/\Gn C0 33 w a cap (Iz h (Sd rows x))
theorem D4.lone {h:Avu.Sh} {rows:Dg} {out:Nat} {Tp:Tape} {d:Nat} (q:D4 I w h rows out):Apw (LW I w Tp d) h rows out:=fun x hx=>by
 obtain⟨cells,f,hsz,hc⟩:=q;obtain⟨v,hv,row,ob,hrow,oh,hf⟩:=hc x hx;have et:Sd rows x=row:=by unfold Sd;rw[List.getD_eq_getElem?_getD,hrow];rfl
 rw[et];have hcell:w.cell? ⟨out,x,none⟩=some v:=by simp[World.cell?,f.heap,hv]
 rcases oh with⟨h0,rfl,_⟩|⟨B,cap,cs,rfl,h1,h2,h3,e⟩
 ·refine⟨none,0,by rw[h0];exact Rj hcell (.snil _ _),by rw[h0];exact Zi⟩
 ·have fB:=hf B _ e;have hT:D7 I w B:=⟨⟨fB.lt,fB.bk⟩,_,_,_,fB.heap⟩;refine⟨_,cap,Rj hcell (.slice _ _ ⟨⟨rfl,hT⟩,rfl,rfl⟩),h1,by unfold maxLen at h2;omega,.inr ⟨B,0,rfl,fun i hi j u hu=>?_⟩⟩;obtain⟨kd,n,rfl⟩:=Afr _ u (List.mem_of_getElem? hu);refine Afx ?_;have hfl:=h3 _ _ (X6 (enc:=C0) (K:=33) _ i j _ hi (fun y hy=>Nn (Tl h row y hy)) hu);rw[Nat.zero_add];simp[World.cell?,fB.heap,hfl]
theorem D4.stays {h:Avu.Sh} {rows:Dg} {out:Nat} (q:D4 I w h rows out) (st:B4 I w I' w'):D4 I' w' h rows out:=by
 obtain⟨cells,f,hsz,hc⟩:=q;refine⟨cells,f.stays st,hsz,fun x hx=>?_⟩;obtain⟨v,hv,row,ob,h1,h2,h3⟩:=hc x hx;exact⟨v,hv,row,ob,h1,h2,fun B o e=>(h3 B o e).stays st⟩
end
section
variable {top:Nat} {I I' I2:Ab} {w w' w2 w1:World} {Post:Value->World->Prop} {c b:Frame} {rest:List Frame}
theorem Rp {m:Int} (s:B3 I w) (hgl:prog.globals.size<=I.hs)
  (hK:∀I' w' (p:Nat),After I w I' w'->1<=p->p<=16->LT top Post 0 I' w' (Conc.G (c.finish (.int .i64 p)) rest)) :
  LT top Post 0 I w (Conc.G (Frame.enter prog 12 #[.int .i64 m,.int .i64 1,.int .i64 16] .normal) (c::rest)):=by
 refine Lx We (by decide) s hgl (Be (.int _ _) (Be (.int _ _) (Be (.int _ _) F7))) (fun g hg=>by cases hg) (fun v w1=>∃p:Nat,1<=p/\p<=16/\v=.int .i64 p) (fun Tp d=>(Ae0 m 1 16 _).mono fun e w' h=>⟨_,h.1,(Mj m 1 16).toNat,?_⟩) fun I' w' v v' ρ w1 A ⟨p,q1,q2,h⟩ hv sm=>?_
 ·have:1<=Mj m 1 16/\Mj m 1 16<=16:=by unfold Mj;omega
  exact⟨by omega,by omega,by rw[Int.toNat_of_nonneg (by omega)]⟩
 ·subst h;rw[Oh hv];exact hK I' w' p A q1 q2
theorem Aqe {ρ:Bn} {x y v':Value} (h:VR ρ (.tuple #[x,y]) v'):∃x' y',v'=.tuple #[x',y']/\VR ρ x x'/\VR ρ y y':=by
 cases h with
 | tuple hs hk =>
  rename_i cs;obtain⟨l⟩:=cs
  match l,hs with
  | [x',y'],_=>exact⟨x',y',rfl,hk 0 (by simp) (by simp),hk 1 (by simp) (by simp)⟩
theorem Pk {ρ:Bn}:∀id:List (BitVec 8),Cx ρ (id.map U8).toArray (id.map U8).toArray
 | []=>F7
 | _::l=>Be (.int _ _) (Pk l)
theorem Ad2 {a:Option Addr} {cap p:Nat} {ls:Dg} {id:List (BitVec 8)} (s:B3 I w) (hgl:prog.globals.size<=I.hs) (hu:Er I w a cap ls) (h0:0 < ls.length) (hn:ls.length<=100) (hl:∀r∈ls,r.length<=1000000) (h1:1<=p) (h16:p<=16) (hid:id.length=32)
  (hK:∀I' w' (k:List (BitVec 8)) (y:Bool),After I w I' w'->k.length=32->LT top Post 0 I' w' (Conc.G (c.finish (.tuple #[.agg (k.map U8).toArray,.bool y])) rest)) :
  LT top Post 0 I w (Conc.G (Frame.enter prog 13 #[.slice a ls.length cap,.int .i64 p,.agg (id.map U8).toArray] .normal) (c::rest)):=by
 refine Lx We (by decide) s hgl (Be hu.held.vr (Be (.int _ _) (Be (.agg rfl (Pk id).at_) F7))) (fun g hg=>by cases hg) (fun v w1=>Abv v) (fun Tp d=>Aks a cap ls p id _ hu.lone h0 hn hl h1 h16 hid) fun I' w' v v' ρ w1 A ⟨k,y,hk,h⟩ hv sm=>?_;subst h;obtain⟨x',y',rfl,e1,e2⟩:=Aqe hv;rw[Ab8 e1,Aaf e2];exact hK I' w' k y A hk
theorem B4.vr {v:Value} (st:B4 I w I' w') (h:VR (Cw (D7 I w)) v v):VR (Cw (D7 I' w')) v v:=h.mono fun a b q=>⟨q.1,st.own q.2⟩
theorem Ahd {ρ:Bn}:∀ {T:List Value},(∀v∈T,VR ρ v v)->Cx ρ T.toArray T.toArray
 | [],_=>F7
 | v::l,h=>Be (h v (by simp)) (Ahd fun x hx=>h x (by simp[hx]))
theorem Af7 {P:Program} {ty:TypeId} {cs:List Frame} {G:Nat->Bool} {fs:List Nat} (bh:∀f,fs.contains f=true->Cj P G fs f=true) {f:Nat} {fn:Func} (hf:P.funcs[f]?=some fn) (hfi:(P.inits.idxOf? f).isNone=true) {code:Code} {k:List Item} (hok:Ee P G fs code=true) (bu:b.fn=f) (hbk:b.kind=.normal)
  (s:B3 I w) (hgl:P.globals.size<=I.hs) (T:Nat->Prop) (hT:∀b,T b->I.S 0 b/\∃cs t fr,w.heap[b]?=some (.cells cs t fr)) (hG:∀g,G g=true->T g) (Q:Array Value->World->Prop) {L:List Value} (ha:∀v∈L,VR (Cw T) v v)
  (hc:∀(Tp:Tape) (d:Nat),code.wp P (fun e a' w'=>e=.normal/\a'.defers=[]/\Q a'.tmps w') ⟨L.toArray,[]⟩ (re (Eb (Cw T) T w) Tp d))
  (hK:∀I' w' ts ts' ρ w1,B3 I' w'->C1 I I'->(∀b,I.hs<=b->b < I'.hs->I'.bk b=.priv 0)->(∀b,b < I.hs->w'.heap[b]?=w.heap[b]?)->w'.tape=w.tape->Q ts w1->Cx ρ ts ts'->(Cw T).le ρ->Hi T I.hs ρ w1 w'->LV P ty top Post 0 I' w' (Conc.G (b.at ⟨ts',[]⟩ k) cs)) :
  LV P ty top Post 0 I w (Conc.G (b.at ⟨L.toArray,[]⟩ (.code code::k)) cs):=Af8 bh hf hfi hok bu hbk s hgl T hT (Ahd ha) hG Q hc hK
theorem Afs {h:Avu.Sh} {rows:Dg} {out out2:Nat} {Tp:Tape} {d:Nat} (q:D4 I w h rows out) (q2:D4 I w h rows out2):Yj (LW I w Tp d) (some ⟨out,0,none⟩) (some ⟨out2,0,none⟩) rows.length:=fun x hx=>by
 obtain⟨a,c,h1,h2⟩:=q.lone (Tp:=Tp) (d:=d) x hx;obtain⟨a2,c2,k1,k2⟩:=q2.lone (Tp:=Tp) (d:=d) x hx;exact⟨_,_,_,_,_,_,_,rfl,rfl,Tl h (Sd rows x),h1,h2,k1,k2⟩
end
def abc:List (BitVec 8):=[97,98,99]
theorem Ass:Ad (Sha.sum abc) 0=186:=by kernel_rfl
noncomputable def Amf:Code:=match Tryz.f9.body.getD .skip with
 | .seq _ (.seq _ c)=>c
 | _=>.skip
def ts9 (x y sv e:Value):Array Value:=#[.bool false,sv,e,.tuple #[sv,e],x,x,y,.tuple #[sv,e],sv,e]++Array.replicate 14 undef
theorem Atl {ρ:Bn} {x y sv e:Value} (h1:VR ρ x x) (h2:VR ρ y y) (h3:VR ρ sv sv) (h4:VR ρ e e):Cx ρ (ts9 x y sv e) (ts9 x y sv e):=by
 have ht:VR ρ (.tuple #[sv,e]) (.tuple #[sv,e]):=.tuple rfl (Be h3 (Be h4 F7)).at_;refine Cx.append (Be (.bool _) (Be h3 (Be h4 (Be ht (Be h1 (Be h1 (Be h2 (Be ht (Be h3 (Be h4 F7)))))))))) ⟨rfl,fun i h1 h2=>?_⟩;simp only[Array.getElem_replicate];exact Eh
theorem Yx (x y:Value) (oa:Option Addr) (oc:Nat) (w:World) (hS:Gn F4 32 w oa oc [Sha.sum abc]) :
  Amf.wp prog (bodyPost prog Tryz.f9 fun e w'=>∃v,e=.returned v/\v=.bool true) ⟨ts9 x y (.slice oa 1 oc) (.int .i64 0),[]⟩ w:=by
 have hcap:=hS.fits;have hroom:=hS.room;obtain⟨b,off,rfl,hrow⟩:=hS.rows.resolve_left (by simp);have h0:=hrow 0 (by simp);have hc:w.cell? ⟨b,off+0 * 32+0,none⟩=some (.int .u8 186):=by
  refine h0 0 _ ?_;show (F4 (Sha.sum abc))[0]?=_;have h1:=Ass;have h2:0 < (Sha.sum abc).length:=by rw[Cg];decide
  rw[Cm h2] at h1;simp[F4,List.getElem?_eq_getElem h2,h1,U8]
 simp only[Nat.zero_mul,Nat.add_zero] at hc;clear hrow h0 hS;obtain⟨fn,hfn⟩:∃fn,fn=Tryz.f9:=⟨_,rfl⟩;rw[<- hfn];have HFN:=Lib.hid hfn;clear hfn;simp only[Amf,ts9,Tryz.f9,Option.getD_some,Array.replicate_succ,Array.replicate_zero,List.push_toArray,List.append_toArray,List.nil_append,List.cons_append];go_wp2;obtain rfl:=HFN.out
 go_ret
 exact⟨_,rfl,rfl⟩
theorem Asn {P:Program} (W:World) (t e:TypeId) (A:Array Obj) (cs:Array Value) (E:TypeId) (len cap:Nat) (hW:W.heap=A.push (.cells cs E)) (hs:P.underlying t=some (.slice e)) (he:P.underlying e=some (.int .u8)) :
  (convert t t (.slice (some ⟨A.size,0,none⟩) len cap)).run P W=.ok (.slice (some ⟨A.size,0,none⟩) len cap) { W with heap:=A.push (.cells cs E (cs.size,cs.size+1)) }:=by
 have hsh:W.shape? A.size=some (E,cs.size):=by
  unfold World.shape?;rw[hW];simp
 have hf:W.freeze ⟨A.size,cs.size,none⟩ 1={ W with heap:=A.push (.cells cs E (cs.size,cs.size+1)) }:=by
  have:W.heap.modify A.size (fun | .cells c elem (lo,hi)=>.cells c elem (if lo==hi then (cs.size,cs.size+1) else (min lo cs.size,max hi (cs.size+1))) | o=>o)=A.push (.cells cs E (cs.size,cs.size+1)):=by
   rw[hW];apply Array.ext_getElem?;intro i;rw[Array.getElem?_modify,Array.getElem?_push,Array.getElem?_push];by_cases h:i=A.size
   ·subst h;simp
   ·simp[h,Ne.symm h]
  unfold World.freeze;rw[if_neg (by decide)];exact congrArg (fun h=>({ W with heap:=h }:World)) this
 simp[convert,run_underlying hs,run_underlying he,markStringish,hsh,hf]
theorem Asm {P:Program} (W:World) (t e:TypeId) (A:Array Obj) (cs:Array Value) (E:TypeId) (len cap:Nat) (hW:W.heap=A.push (.cells cs E)) (hs:P.underlying t=some (.slice e)) (he:P.underlying e=some (.int .u8)) :
  (convert t t (.slice (some ⟨A.size,0,none⟩) len cap)).events P W #[]=#[]:=by
 have hsh:W.shape? A.size=some (E,cs.size):=by
  unfold World.shape?;rw[hW];simp
 simp[convert,run_underlying hs,run_underlying he,markStringish,hsh]
theorem Ane {S F:Nat->Prop} {w w':World} {A:Array Obj} {o o':Obj} {es:Array Event} (h:w.heap=A.push o) (h':w'.heap=A.push o') (et:w'.tape=w.tape) (eo:w'.os=w.os) (eu:w'.output=w.output) (hS:S A.size) (he:∀e∈es,False):Own S F w w' es :=
 ⟨by rw[h,h'];simp,et,eo,eu,fun b hb hn=>by
  have hne:b≠A.size:=fun q=>hn (by rw[q];exact hS);rw[h,h',Array.getElem?_push,Array.getElem?_push,if_neg hne,if_neg hne],fun e h=>(he e h).elim⟩
section
variable {top:Nat} {I I' I2:Ab} {w w' w2 w1:World} {Post:Value->World->Prop} {c:Frame} {cs:List Frame}
theorem Ad1 (s0:B3 I w) (hgl:prog.globals.size<=I.hs) (ak:I.cnt+16<=top) (hk:C2 w) (dw:I.bk 0=.priv 0)
  (hK:∀I' w',Avf I w I' w'->LT top Post 0 I' w' (G (c.finish (.bool true)) cs)) :
  LT top Post 0 I w (G ((base 9).at ⟨#[]++Array.replicate 24 undef,[]⟩ [.code (Tryz.f9.body.getD .skip)]) (c::cs)):=by
 have hg:I.tag 0≠.gone:=s0.ng;simp only[Tryz.f9,Option.getD_some]
 (try walk_nrm);refine Am (Au ?_);simp only[ix,Nat.reduceAdd];refine Ai fun v W H=>?_;go_simp;refine H _ ?_;clear H W v;(try walk_nrm);refine len (Am (Au ?_));simp only[ix,Nat.reduceAdd]
 refine solo_goes s0 rfl fun wV eV eT=>?_;refine goes_oper_k rfl rfl (by k_ne) (fun W hW=>?_);go_simp;refine hW _ _ ⟨Dc (w:=wV) rfl rfl rfl rfl (Ax (by simp[go_sem])),fun I1 w1 h1 t1 s1 l1 b1=>?_⟩;replace h1:w1.heap=(w.heap).push (Obj.cells #[Value.int .u8 97,Value.int .u8 98,Value.int .u8 99] 5):=by rw[h1];show wV.heap.push _=_;rw[eV];try rfl
 replace t1:w1.tape=w.tape:=t1.trans eT;replace b1:I1.bk (w.heap.size)=.priv 0:=b1 _ (by rw[s0.hs];simp[Nat.add_assoc]) (by show _ < (wV.heap.push _).size;rw[eV];simp[Nat.add_assoc]);clear hW;clear W eV eT;clear wV;have hg:I1.tag 0≠.gone:=s1.ng
 try walk_nrm
 refine solo_goes s1 rfl fun wV eV eT=>?_;refine goes_oper_k rfl rfl (by k_ne) (fun W hW=>?_);have hcv:=Asn (P:=prog) wV 37 5 w.heap #[Value.int .u8 97,Value.int .u8 98,Value.int .u8 99] 5 3 3 (eV.trans h1) (by kernel_rfl) (by kernel_rfl);have hev:=Asm (P:=prog) wV 37 5 w.heap #[Value.int .u8 97,Value.int .u8 98,Value.int .u8 99] 5 3 3 (eV.trans h1) (by kernel_rfl) (by kernel_rfl);go_simp;refine hW _ _ ⟨Ane (S:=I1.S 0) (eV.trans h1) rfl (by first|exact(eT.trans t1).symm|exact eT.symm) rfl rfl (show I1.S 0 w.heap.size from⟨by rw[s1.hs,h1];simp,b1⟩) (Ax (by simp[go_sem];exact hev)),fun I2 w2 h2 t2 s2 l2 bX=>?_⟩;replace h2:w2.heap=w.heap.push (Obj.cells #[Value.int .u8 97,Value.int .u8 98,Value.int .u8 99] 5 (3,4)):=h2;replace t2:w2.tape=w1.tape:=by first|exact t2.trans eT|exact t2.trans t1.symm|exact t2
 have b2:I2.bk w.heap.size=.priv 0:=(l2.bk _ (by rw[s1.hs,h1];simp)).trans b1;clear hW hcv hev bX;clear W eV eT;clear wV;rw[t1] at t2;have m2:=l2;replace l2:=l1.trans l2;have hg:I2.tag 0≠.gone:=s2.ng
 try walk_nrm
 refine solo_goes s2 rfl fun wV eV eT=>?_;refine goes_oper_k rfl rfl (by k_ne) (fun W hW=>?_);go_simp;refine hW _ _ ⟨Dc (w:=wV) rfl rfl rfl rfl (Ax (by simp[go_sem])),fun I3 w3 h3 t3 s3 l3 b3=>?_⟩;replace h3:w3.heap=(w.heap.push (Obj.cells #[Value.int .u8 97,Value.int .u8 98,Value.int .u8 99] 5 (3,4))).push (Obj.cells #[Value.slice (some ⟨w.heap.size,0,none⟩) 3 3] 37):=by rw[h3];show wV.heap.push _=_;rw[eV,h2];try rfl
 replace t3:w3.tape=w2.tape:=t3.trans eT;replace b3:I3.bk (w.heap.size+1)=.priv 0:=b3 _ (by rw[s2.hs,h2];simp[Nat.add_assoc]) (by show _ < (wV.heap.push _).size;rw[eV,h2];simp[Nat.add_assoc]);clear hW;clear W eV eT;clear wV;rw[t2] at t3;have m3:=l3;replace l3:=l2.trans l3;have hg:I3.tag 0≠.gone:=s3.ng
 try walk_nrm
 have hN:I.hs=w.heap.size:=s0.hs;have hs3:I3.hs=w.heap.size+2:=by rw[s3.hs,h3];simp
 have H0:w3.heap[w.heap.size]?=some (.cells #[Value.int .u8 97,Value.int .u8 98,Value.int .u8 99] 5 (3,4)):=by
  rw[h3];simp only[Array.getElem?_push,Array.size_push];rw[if_neg (by omega)]
  try simp
 have H1:w3.heap[w.heap.size+1]?=some (.cells #[Value.slice (some ⟨w.heap.size,0,none⟩) 3 3] 37 (0,0)):=by
  rw[h3];simp only[Array.getElem?_push,Array.size_push]
  try simp
 have d0:I3.bk w.heap.size=.priv 0:=(m3.bk _ (by rw[s2.hs,h2];simp)).trans b2;have T0:D7 I3 w3 w.heap.size:=⟨⟨by omega,d0⟩,_,_,_,H0⟩;have T1:D7 I3 w3 (w.heap.size+1):=⟨⟨by omega,b3⟩,_,_,_,H1⟩;have c0:∀i (h:i < 3),w3.cell? ⟨w.heap.size,i,none⟩=some (U8 (Ad abc i)):=fun i hi=>by
  unfold World.cell?;rw[H0]
  match i,hi with
  | 0,_=>rfl
  | 1,_=>rfl
  | 2,_=>rfl
 have c1:w3.cell? ⟨w.heap.size+1,0,none⟩=some (.slice (some ⟨w.heap.size,0,none⟩) 3 3):=by
  unfold World.cell?;rw[H1];rfl
 have rd:A0 w3 (some ⟨w.heap.size,0,none⟩) 3 abc:=⟨by decide,by decide,(fun e=>by cases e),.inr ⟨w.heap.size,0,rfl,fun i hi=>by rw[Nat.zero_add];exact c0 i hi⟩⟩;have tx:Er I3 w3 (some ⟨w.heap.size+1,0,none⟩) 1 [abc]:=by
  refine⟨⟨by simp,by omega,.inr ⟨_,0,rfl,fun i hi=>?_⟩⟩,fun ad e=>by injection e with e;subst e;exact⟨rfl,T1⟩,fun b off i x n cx e hi hc=>?_⟩
  ·obtain rfl:i=0:=by simpa using hi
   exact⟨_,_,c1,rd⟩
  ·obtain rfl:i=0:=by simpa using hi
   injection e with e;injection e with e e' _;subst e e';have hc':w3.cell? ⟨w.heap.size+1,0,none⟩=some (.slice x n cx):=hc;rw[c1] at hc';injection hc' with hc';injection hc' with e1 e2 e3;subst e1 e2 e3;exact⟨fun ad e=>by injection e with e;subst e;exact⟨rfl,T0⟩,fun _ _=>by decide⟩
 have st3:B4 I w I3 w3:=.of l3 fun b hb=>by
  rw[h3];simp only[Array.getElem?_push,Array.size_push];rw[if_neg (by omega),if_neg (by omega)]
 have hk3:C2 w3:=fun i hi=>by
  have h:=hk i hi;have hlt:=World.block_lt_of_cell? w _ h;rw[<- h];unfold World.cell?;rw[st3.heap _ (by dsimp only at hlt;omega) dw]
 have jt:I3.bk 0=.priv 0:=by
  have hlt:=World.block_lt_of_cell? w _ (hk 0 (by decide));dsimp only at hlt;exact(st3.bk _ (by omega)).trans dw
 refine Bz (fun _=>Aj (first:=#[]) (caps:=#[]) (vs:=#[.slice (some ⟨w.heap.size+1,0,none⟩) 1 1,.int .i64 2]) rfl rfl (by k_ne) rfl rfl (by simp[Act.eval]) func15 (by kernel_rfl) rfl) ?_;refine Ox (n:=1) (rows:=[abc]) s3 (by decide) (tx.mem s3.hs rfl (fun r hr=>by simp at hr;subst hr;decide) hk3 jt) (Nat.le_trans hgl st3.hs) (by rw[l3.cnt];exact ak) (fun W0 hW0 q1 q16 I4 w4 out s4 e1 e2 e3 e4 e5 e6 e7 e8=>?_) (fun hm=>absurd (by decide) hm);rw[Frame.finish_at];have st4:B4 I w I4 w4:=st3.trans ⟨by omega,e5,e6⟩;clear hg;have hg:I4.tag 0≠.gone:=s4.ng
 (try walk_nrm);(iterate 5 (refine Ai fun v W H=>?_;go_simp;refine H _ ?_;clear H W v;try walk_nrm));refine len ?_
 have zn:I4.S 0 out:=⟨e2,e3⟩;have hout:=Lo (I:=I4) (rows:=[abc]) rfl (by decide) e8 zn;have jx:prog.globals.size<=I4.hs:=Nat.le_trans hgl st4.hs;have hx:Hx I4 w4 (some ⟨w.heap.size,0,none⟩):=fun ad e=>by injection e with e;subst e;exact⟨rfl,B4.own ⟨by omega,e5,e6⟩ T0⟩
 have hy:Hx I4 w4 (some ⟨w.heap.size+1,0,none⟩):=fun ad e=>by injection e with e;subst e;exact⟨rfl,B4.own ⟨by omega,e5,e6⟩ T1⟩
 have hT:=fun Tp d=>Yx (.slice (some ⟨w.heap.size,0,none⟩) 3 3) (.slice (some ⟨w.heap.size+1,0,none⟩) 1 1) (some ⟨out,0,none⟩) 1 (LW I4 w4 Tp d) (hout.lone (Oz _));have hV:=Atl (e:=.int .i64 0) (hx.vr (n:=3) (c:=3)) (hy.vr (n:=1) (c:=1)) (hout.held.vr (n:=1) (c:=1)) (.int _ _);simp only[Amf,ts9,Tryz.f9,Option.getD_some,Array.replicate_succ,Array.replicate_zero,List.push_toArray,List.append_toArray,List.nil_append,List.cons_append] at hT hV;refine Af9 We func9 (by kernel_rfl) (by kernel_rfl) rfl rfl s4 jx hV (fun g hg=>by cases hg) _ hT (fun I5 w5 v v' ρ wl A hR hv sm=>?_);subst hR;rw[Aaf hv];exact hK I5 w5 ⟨A.solo,st4.trans A.stays,A.tape.trans (e7.trans t3),by have:=A.later.cnt;have:=l3.cnt;have e9:(2:Int)=(W0:Int):=hW0;omega⟩
end
section
variable {top:Nat} {I I' I2:Ab} {w w' w2 w1:World} {Post:Value->World->Prop} {la:Option Addr} {lc IB SB:Nat} {rows:Dg} {id:List (BitVec 8)}
theorem Agb {x:Option Addr} {cx p q:Nat} {b0 b2 b5 b6 b7 b8 b9 b10 b11 b12 b13 b14 b15 b16 b17 b18 b19 b20 b21 b22 b23 b24 b25 b26 b27 b28 b29 b30 b31 b32 b33 b34 b35 b36 b37 b38 b39 b40 b41 b42 b43 b44 b45 b46 b47 b48 b49 b50 b51 b52 b53 b54 b55 b56 b57 b58 b59 b60 b61 b62 b63 b64 b65 b66 b67 b68 b69 b70 b71 b72 b73 b74 b75 b76 b77 b78 b79 b80 b81 b82 b83 b84 b85 b86 b87 b88 b89 b90 b91 b92 b93 b94 b95 b96 b97 b98 b99 b100 b101 b102 b103 b104 b105 b106 b107 b108 b109 b110 b111 b112 b113 b114 b115 b116 b117 b118 b119 b120 b121:Value} (s0:B3 I w) (hgl:prog.globals.size<=I.hs) (hk:C2 w) (dw:I.bk 0=.priv 0) (ak:I.cnt+50<=top) (hn:rows.length<=12) (hl:∀r∈rows,r.length<=100) (ht:Er I w x cx rows) (p1:1<=p) (p2:p<=16) (q1:1<=q) (q2:q<=16)
  (hP:∀I' w',B3 I' w'->B4 I w I' w'->w'.tape=w.tape->Post (.bool true) w') :
  LT top Post 0 I w (G ((base 4).at ⟨#[b0,.slice x rows.length cx,b2,.int .i64 p,.int .i64 q,b5,b6,b7,b8,b9,b10,b11,b12,b13,b14,b15,b16,b17,b18,b19,b20,b21,b22,b23,b24,b25,b26,b27,b28,b29,b30,b31,b32,b33,b34,b35,b36,b37,b38,b39,b40,b41,b42,b43,b44,b45,b46,b47,b48,b49,b50,b51,b52,b53,b54,b55,b56,b57,b58,b59,b60,b61,b62,b63,b64,b65,b66,b67,b68,b69,b70,b71,b72,b73,b74,b75,b76,b77,b78,b79,b80,b81,b82,b83,b84,b85,b86,b87,b88,b89,b90,b91,b92,b93,b94,b95,b96,b97,b98,b99,b100,b101,b102,b103,b104,b105,b106,b107,b108,b109,b110,b111,b112,b113,b114,b115,b116,b117,b118,b119,b120,b121],[]⟩ [.code S7]) []):=by
 have hg:I.tag 0≠.gone:=s0.ng;have st0:=B4.refl I w;have tp0:w.tape=w.tape:=rfl;have yj:=hgl;have jk:=hk;have ye:=dw;simp only[S7,F1,Tryz.f4,Option.getD_some]
 (try walk_nrm);refine Am (Au ?_);simp only[ix,Nat.reduceAdd];(iterate 2 (refine Ai fun v W H=>?_;go_simp;refine H _ ?_;clear H W v;try walk_nrm));refine Bz (fun _=>Aj (first:=#[]) (caps:=#[]) (vs:=#[.slice x rows.length cx,.int .i64 p]) rfl rfl (by k_ne) rfl rfl (by simp[Act.eval,Ca]) func15 (by kernel_rfl) rfl) ?_
 refine Ox (n:=rows.length) (rows:=rows) s0 (by omega) ((ht.stays st0).mem s0.hs rfl (fun r hr=>by have:=hl r hr;omega) jk ye) yj (by omega) (fun W1 _ _ _ I1 w1 out s1 e1 e2 e3 cn1 e5 e6 e7 e8=>?_) (fun hm=>absurd (show 1<=(p:Int)/\(p:Int)<=16 by omega) hm);have st1:B4 I w I1 w1:=st0.trans ⟨by omega,e5,e6⟩;have tp1:=e7.trans tp0;have pp:prog.globals.size<=I1.hs:=Nat.le_trans hgl st1.hs;have Rout:=Lo (I:=I1) rfl (by omega) e8 ⟨e2,e3⟩;clear e1 e2 e3 e5 e6 e7 e8;obtain⟨hk1,pg⟩:=Cz s0.hs hk dw st1;rw[Frame.finish_at];clear hg;have hg:I1.tag 0≠.gone:=s1.ng
 (try walk_nrm);(iterate 5 (refine Ai fun v W H=>?_;go_simp;refine H _ ?_;clear H W v;try walk_nrm));refine len (Am (Au ?_));simp only[ix,Nat.reduceAdd];(iterate 2 (refine Ai fun v W H=>?_;go_simp;refine H _ ?_;clear H W v;try walk_nrm));refine Bz (fun _=>Aj (first:=#[]) (caps:=#[]) (vs:=#[.slice x rows.length cx,.int .i64 q]) rfl rfl (by k_ne) rfl rfl (by simp[Act.eval,Ca]) func15 (by kernel_rfl) rfl) ?_
 refine Ox (n:=rows.length) (rows:=rows) s1 (by omega) ((ht.stays st1).mem s1.hs rfl (fun r hr=>by have:=hl r hr;omega) hk1 pg) pp (by omega) (fun W2 _ _ _ I2 w2 out2 s2 e1 e2 e3 cn2 e5 e6 e7 e8=>?_) (fun hm=>absurd (show 1<=(q:Int)/\(q:Int)<=16 by omega) hm);have S2:B4 I1 w1 I2 w2:=⟨by omega,e5,e6⟩;have st2:=st1.trans S2;have tp2:=e7.trans tp1;have po:prog.globals.size<=I2.hs:=Nat.le_trans hgl st2.hs;have Rout2:=Lo (I:=I2) rfl (by omega) e8 ⟨e2,e3⟩;clear e1 e2 e3 e5 e6 e7 e8;obtain⟨hk2,hkS2⟩:=Cz s0.hs hk dw st2;rw[Frame.finish_at];clear hg;have hg:I2.tag 0≠.gone:=s2.ng
 (try walk_nrm);(iterate 5 (refine Ai fun v W H=>?_;go_simp;refine H _ ?_;clear H W v;try walk_nrm));refine len ?_
 have hlen:(rows.map Sha.sum).length=rows.length:=List.length_map _;have R1:=Rout.stays S2;refine Am (Au ?_);simp only[ix,Nat.reduceAdd];(iterate 2 (refine Ai fun v W H=>?_;go_simp;refine H _ ?_;clear H W v;try walk_nrm));refine Bz (fun _=>Ea rfl rfl (by k_ne) rfl (vs:=#[.slice (some ⟨out,0,none⟩) rows.length rows.length,.slice (some ⟨out2,0,none⟩) rows.length rows.length]) (by simp[Act.eval,Ca]) func16 (by kernel_rfl) (by kernel_rfl)) ?_;rw[<- hlen];refine Wo s2 po (L:=rows.map Sha.sum) (fun k hk=>by obtain⟨r,_,rfl⟩:=List.mem_map.1 hk;exact Cg r) (by rw[hlen];exact R1) (by rw[hlen];exact Rout2) (fun I3 w3 A3=>?_);rw[hlen];have s3:=A3.solo;have st3:=st2.trans A3.stays;have tp3:=A3.tape.trans tp2;have jy:prog.globals.size<=I3.hs:=Nat.le_trans hgl st3.hs;have cn3:=A3.later.cnt;obtain⟨hk3,jt⟩:=Cz s0.hs hk dw st3;rw[Frame.finish_at];clear hg;have hg:I3.tag 0≠.gone:=s3.ng
 (try walk_nrm);refine Ai fun v W H=>?_;go_simp;refine H _ ?_;clear H W v;(try walk_nrm);refine Bz (fun _=>Aj (first:=#[]) (caps:=#[]) (vs:=#[]) rfl rfl (by k_ne) rfl rfl (by simp[Act.eval,Ca]) func9 (by kernel_rfl) rfl) ?_
 refine Ad1 s3 jy (by omega) hk3 jt (fun I4 w4 A4=>?_);have s4:=A4.solo;have st4:=st3.trans A4.stays;have tp4:=A4.tape.trans tp3;rw[Frame.finish_at];clear hg;have hg:I4.tag 0≠.gone:=s4.ng
 (try walk_nrm);(iterate 2 (refine Ai fun v W H=>?_;go_simp;refine H _ ?_;clear H W v;try walk_nrm));refine len ?_;refine Bz (fun _=>stepG_ret') ?_
 refine Af5 s4 rfl (fun _=>Aaj (v:=.bool true) rfl rfl func4 (by kernel_rfl) (by kernel_rfl) (by kernel_rfl)) (fun w9 e1' e2'=>?_);exact hP _ _ ⟨s4.ph,s4.col,s4.tag,s4.deaf,by rw[e1'];exact s4.hs,s4.bk⟩ ⟨st4.hs,st4.bk,fun b hb hp=>by rw[e1'];exact st4.heap b hb hp⟩ (by rw[e2'];exact tp4)
theorem Ati {l:List Value} {n:Nat} (h:l.length=n+1):∃b t,l=b::t/\t.length=n:=by
 cases l with
 | nil=>simp at h
 | cons b t=>exact⟨b,t,rfl,by simpa using h⟩
theorem Wt {v e:Int} {pa qa:Option Addr} {k pk qk:Nat} {x:Option Addr} {cx p q ll:Nat} {L M K Wn a0 b0:Int} {sd:BitVec 32} {k0:List (BitVec 8)} {y:Bool} {v33 v34 v35 v36 v37 v38 v39:Value} (s0:B3 I w) (hgl:prog.globals.size<=I.hs) (hk:C2 w) (dw:I.bk 0=.priv 0) (ak:I.cnt+50<=top) (hn:rows.length<=12) (hl:∀r∈rows,r.length<=100) (ht:Er I w x cx rows) (yb:Hx I w la) (p1:1<=p) (p2:p<=16) (q1:1<=q) (q2:q<=16) (kf:D7 I w SB) (ww:D7 I w IB) (hj:∀v∈[v33,v34,v35,v36,v37,v38,v39],VR (Cw (D7 I w)) v v) (hkk:k<=12) (oh:Hx I w pa) (hqa:Hx I w qa) (hPR:∀Tp d,Yj (LW I w Tp d) pa qa k)
  (hP:∀I' w',B3 I' w'->B4 I w I' w'->w'.tape=w.tape->Post (.bool true) w') :
  LT top Post 0 I w (G ((base 4).at ⟨#[.agg #[.int .i64 L,.int .i64 M,.int .i64 K,.int .i64 Wn,Af sd],.slice x rows.length cx,.agg (k0.map U8).toArray,.int .i64 p,.int .i64 q,.pointer (some ⟨SB,0,none⟩),undef,.pointer (some ⟨IB,0,none⟩),undef,undef,.bool false,.int .i64 v,.int .i64 0,.int .i64 v,.int .i64 0,.slice pa k pk,.int .i64 e,.slice qa k qk,.int .i64 e,undef,undef,undef,undef,undef,.slice la ll lc,.slice x rows.length cx,.int .i64 a0,.int .i64 p,.int .i64 b0,.int .i64 q,.slice x rows.length cx,.int .i64 rows.length,.bool y,v33,v34,v35,v36,v37,v38,v39,.tuple #[.int .i64 v,.int .i64 0],.slice x rows.length cx,.agg (id.map U8).toArray,.int .i64 p,.tuple #[.int .i64 v,.int .i64 0],.int .i64 v,.int .i64 0,.tuple #[.int .i64 v,.int .i64 0],.slice x rows.length cx,.agg (id.map U8).toArray,.int .i64 q,.tuple #[.int .i64 v,.int .i64 0],.int .i64 v,.int .i64 0,.tuple #[.slice pa k pk,.int .i64 e],.agg #[.int .i64 L,.int .i64 M,.int .i64 K,.int .i64 Wn,Af sd],.slice x rows.length cx,.int .i64 p,.tuple #[.slice pa k pk,.int .i64 e],.slice pa k pk,.int .i64 e,.tuple #[.slice qa k qk,.int .i64 e],.agg #[.int .i64 L,.int .i64 M,.int .i64 K,.int .i64 Wn,Af sd],.slice x rows.length cx,.int .i64 q,.tuple #[.slice qa k qk,.int .i64 e],.slice qa k qk,.int .i64 e]++Array.replicate 54 undef,[]⟩ [.code F1]) []):=by
 have hg:I.tag 0≠.gone:=s0.ng;have h1:(v != v)=false:=by simp
 have h2:(e != e)=false:=by simp
 have h3:((k:Int) != (k:Int))=false:=by simp
 unfold F1;simp only[Tryz.f4,Option.getD_some,Array.replicate_succ,Array.replicate_zero,List.push_toArray,List.append_toArray,List.nil_append,List.cons_append]
 (try walk_nrm);refine Am (Am (Au ?_));simp only[ix,Nat.reduceAdd];(iterate 20 (refine Ai fun v W H=>?_;go_simp;refine H _ ?_;clear H W v;try walk_nrm));refine len (Gl ?_);refine Gz (Am ?_)
 refine Af7 We (f:=4) func4 (by kernel_rfl) (code:=S8) (k:=[.code S7]) (by kernel_rfl) rfl rfl s0 hgl (D7 I w) (fun b hb=>⟨hb.1,hb.2⟩) (fun g hg=>by cases hg) (fun ts _=>Ap8 x rows.length cx p q ts) ?_ (fun Tp d=>Ag4 _ (by omega) (hPR Tp d)) (fun I1 w1 ts ts' ρ w6 s1 l1 new1 hold1 tp1 hQ hvs _ sm=>?_)
 ·repeat (refine List.forall_mem_cons.2 ⟨by first|exact .int _ _|exact .bool _|exact Eh|exact ht.held.vr|exact yb.vr|exact oh.vr|exact hqa.vr|exact .ptr ⟨⟨rfl,kf⟩,rfl,rfl⟩|exact .ptr ⟨⟨rfl,ww⟩,rfl,rfl⟩|exact Ab5 _ _ _ _ _|exact .agg rfl (Pk _).at_|exact .tuple rfl (Be oh.vr (Be (.int _ _) F7)).at_|exact .tuple rfl (Be hqa.vr (Be (.int _ _) F7)).at_|exact .tuple rfl (Be (.int _ _) (Be (.int _ _) F7)).at_|exact hj _ (by simp),?_⟩)
  exact fun _ h=>nomatch h
 have st1:B4 I w I1 w1:=.of l1 hold1;obtain⟨hk1,pg⟩:=Cz s0.hs hk dw st1;have pp:prog.globals.size<=I1.hs:=Nat.le_trans hgl st1.hs;obtain⟨z0,z1,z3,z4⟩:=hQ;obtain⟨y1,e1,f1⟩:=Y6 hvs z1;obtain⟨y3,e3,f3⟩:=Y6 hvs z3;obtain⟨y4,e4,f4⟩:=Y6 hvs z4;obtain⟨rfl,_⟩:=sm.slice (fun ad e=>(ht.held ad e).1) f1;obtain rfl:=Oh f3;obtain rfl:=Oh f4;have z5:ts'.size=122:=by have:=hvs.size;omega
 clear hvs sm f1 f3 f4 z0 z1 z3 z4 hg h1 h2 h3;obtain⟨tl⟩:=ts';replace z5:tl.length=122:=z5
 iterate 122 (have z6:=Ati z5;clear z5;obtain⟨_,tl,rfl,z5⟩:=z6)
 obtain rfl:=List.eq_nil_of_length_eq_zero z5;simp only[List.getElem?_toArray,List.getElem?_cons_succ,List.getElem?_cons_zero,Option.some.injEq] at e1 e3 e4;subst e1 e3 e4;exact Agb s1 pp hk1 pg (by have:=l1.cnt;omega) hn hl (ht.stays st1) p1 p2 q1 q2 fun I' w' sx stx tpx=>hP I' w' sx (st1.trans stx) (tpx.trans tp1)
end
section
variable {ty:TypeId} {top:Nat} {I I' I2:Ab} {p:Ph} {w w' w2:World} {i j b n:Nat} {P:Program} {Post:Value->World->Prop} {es:Array Event} {g g':Goroutine} {v:Value}
theorem Ash (hI:Ae ty top I w) (hi:0 < I.cnt) (hns:¬(I.tag 0).tied) (hp:I.ph=none) (hc:I.col=none) (hb:b < I.hs) (hk:I.bk b=.lock) (wk:Prop):(Al P ty top Post).Do 0 I w (I.grown 0 w) w wk #[⟨.cell ⟨b,2,none⟩,false,false⟩]:=by
 have ht:I.tag 0≠.gone:=Ahm hns;have x5:¬(I.tag 0).said:=fun h=>hns (B6.tied_of_said h);have hD:=Ya (P:=P) (Post:=Post) (w':=w) (es:=#[]) hI hi hns ⟨Nat.le_refl _,rfl,rfl,rfl,fun _ _ _=>rfl,fun e he=>by simp at he⟩ wk;obtain⟨d1,d2,_,d4,d5,d6,d7⟩:=hD;refine⟨d1,d2,fun t fn pos hT=>?_,d4,d5,d6,d7⟩;have hbk:(I.grown 0 w).bk b=.lock:=(Ce hb).trans hk;have hns':¬(I.grown 0 w).wh.sh (.cell ⟨b,2,none⟩):=by
  rintro(⟨s,q⟩|⟨q,_⟩|⟨_,q⟩)
  ·have q':(I.grown 0 w).bk b=.shd s:=q;rw[hbk] at q';cases q'
  ·have q':(I.grown 0 w).bk b=.mix:=q;rw[hbk] at q';cases q'
  ·exact absurd q (by simp[Afz])
 have hro:¬(I.grown 0 w).wh.ro (.cell ⟨b,2,none⟩):=by rintro⟨m,q⟩;have q':(I.grown 0 w).bk b=.fix m:=q;rw[hbk] at q';cases q'
 have how:(I.grown 0 w).wh.own (.cell ⟨b,2,none⟩)=some 0:=by
  simp only[Ab.wh,blk,hbk];exact(hI.free hp hc).2.2.2 b
 have evt:∀e∈#[(⟨.cell ⟨b,2,none⟩,false,false⟩:Event)],∀z,(MemAct.ofEvent e).touch?=some z->z.loc=.cell ⟨b,2,none⟩/\z.kind=.plain:=fun e he z hz=>by
  simp only[List.mem_toArray,List.mem_singleton] at he;subst he;rw[Go.ConcR.ofEvent_cell] at hz;simp only[MemAct.touch?,Option.some.injEq] at hz;subst hz;exact⟨rfl,rfl⟩
 refine Iq.own hT rfl rfl (fun op hop=>by obtain⟨e,_,rfl⟩:=Cc hop;rfl) (hI.who ht) (hI.who2 ht) ((hT.d.low hT.low (fun b hb=>Ce hb) rfl rfl fun k l hl hk=>⟨hk.1,hk.2.1,fun m q=>hk.2.2 m ((Ce hl).trans q)⟩).app hi fun op hop=>?_) (fun _ _=>rfl) ?_ (fun op hop a e=>?_) (fun m a ha=>?_) (fun k _ h1 h2=>⟨h1,h2⟩) (fun p _ _ h=>absurd h x5) (fun _ _ _=>rfl)
 ·obtain⟨e,he,rfl⟩:=Cc hop;refine⟨rfl,fun z hz=>.inr ?_⟩;obtain⟨e1,e2⟩:=evt e he z hz;rw[e1];exact⟨hns',by rw[e2];simp,rfl,.inl ⟨hro,how⟩⟩
 ·rw[Deaf_own,deafBehind_still _ fun e he=>by
   simp only[List.mem_toArray,List.mem_singleton] at he;subst he;simp]
  exact hT.deaf 0
 ·obtain⟨e',he,rfl⟩:=Cc hop;simp only[List.mem_toArray,List.mem_singleton] at he;subst he;rw[Go.ConcR.ofEvent_cell] at e;cases e
 ·obtain⟨z,hz,jl⟩:=touch_of ha;have hs:(I.grown 0 w).hs=I.hs:=hI.hs.symm;rw[hs];rcases getElem?_append_cases hz with⟨_,hz'⟩|⟨_,hop⟩
  ·exact hT.low m a (by rw[touchAt_of hz'];exact jl)
  ·obtain⟨e,he,rfl⟩:=Cc hop;rw[(evt e he a jl).1];exact hb
theorem Ai4 (s:B3 I w) (hr:g.status=.running) (hb:b < I.hs) (hk:I.bk b=.lock) (hst:∀w2,w2.heap=w.heap->stepG P true g w2=.go g' w2 #[⟨.cell ⟨b,2,none⟩,false,false⟩])
  (K:∀I' w',B3 I' w'->C1 I I'->w'.heap=w.heap->w'.tape=w.tape->LV P ty top Post 0 I' w' g'):LV P ty top Post 0 I w g:=by
 refine An hr s.ng fun I2 w2 hrl hI hi=>?_;obtain⟨s2,e1,e2,e3,e5,e4⟩:=s.rel hrl;have hg:∀z,z < I2.hs->(I2.grown 0 w2).bk z=I2.bk z:=fun z hz=>Ce hz;have hs:(I2.grown 0 w2).hs=I2.hs:=hI.hs.symm;refine .go g' w2 _ (I2.grown 0 w2) (hst w2 e1) (Ash hI hi s2.ns s2.ph s2.col (by rw[e3];exact hb) ((e4 b hb).trans hk) _) (K _ _ ⟨s2.ph,s2.col,s2.tag,s2.deaf,rfl,fun z hz=>?_⟩ ⟨by rw[hs,e3];exact Nat.le_refl _,e5,fun z hz=>?_⟩ e1 e2)
 ·rw[hs] at hz;rw[hg z hz];exact s2.bk z hz
 ·rw[hg z (by rw[e3];exact hz)];exact e4 z hz
end
def Hit (rows:List (List (BitVec 8))) (id:List (BitVec 8)) (x:Nat):Prop:=∃row,rows[x]?=some row/\Sha.sum row=id
def Vu (rows:List (List (BitVec 8))) (id:List (BitVec 8)) (v:Int):Prop:=(v=-1/\∀x,¬Hit rows id x)\/∃y:Nat,v=y/\Hit rows id y/\∀x,x < y->¬Hit rows id x
theorem Akq {rows:List (List (BitVec 8))} {id:List (BitVec 8)} {u v:Int} (h:Vu rows id u) (k:Vu rows id v):u=v:=by
 rcases h with⟨rfl,h⟩|⟨y,rfl,h1,h2⟩<;>rcases k with⟨rfl,k⟩|⟨z,rfl,k1,k2⟩
 ·rfl
 ·exact absurd k1 (h z)
 ·exact absurd h1 (k y)
 ·rcases Nat.lt_trichotomy y z with q|rfl|q
  ·exact absurd h1 (k2 y q)
  ·rfl
  ·exact absurd k1 (h2 z q)
end Go.Proofs.YtbicafgmfgdckaaGreatDoor
