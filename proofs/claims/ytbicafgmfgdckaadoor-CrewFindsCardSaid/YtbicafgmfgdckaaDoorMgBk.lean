/- What main holds by itself: rows in its own blocks, as the company's world has them and as a lone call sees them. The law's own functions and the references pass the test of transfer. The reference: which text is the first of a sum. Main by itself: the law's own lone calls. Main by itself: a sum that it holds is read, and laid; few, one block left out. The law's 'lives', main's part. The crew's pact: main returns. For any program. -/
import Derived.Test.YtbicafgmfgdckaaDoorMgBj
import Derived.Test.YtbicafgmfgdckaaDoorMgBi
import Derived.Test.YtbicafgmfgdckaaDoorMgAy
import Derived.Test.YtbicafgmfgdckaaDoorMgBf
import Derived.Test.YtbicafgmfgdckaaDoorMgAn
import Derived.Test.YtbicafgmfgdckaaDoorProg
import Derived.KernelRfl
import Derived.Conc.Own3
namespace Go.Proofs.YtbicafgmfgdckaaDoor
open Go Go.RowKit Go.Conc
section
variable {γ γ' γ2:Gho} {w w' w2 w1:World} {a:Option Addr} {cap:Nat} {ls:Txts} {Tp:Tape} {d:Nat} {ρ:Ren}
def ownT (γ:Gho) (w:World):Nat->Prop:=fun b=>γ.S 0 b/\∃cs t fr,w.heap[b]?=some (.cells cs t fr)
noncomputable abbrev LW (γ:Gho) (w:World) (Tp:Tape) (d:Nat):World:=re (loneW (diag (ownT γ w)) (ownT γ w) w) Tp d
def Held (γ:Gho) (w:World) (a:Option Addr):Prop:=∀ad,a=some ad->ad.spot=none/\ownT γ w ad.block
theorem held_none:Held γ w none:=fun ad e=>by cases e
theorem Held.vr {n c:Nat} (h:Held γ w a):VR (diag (ownT γ w)) (.slice a n c) (.slice a n c):=by
 cases a with
 | none=>exact .snil _ _
 | some ad=>exact .slice _ _ ⟨⟨rfl,(h ad rfl).2⟩,rfl,rfl⟩
theorem lw_cell {ad:Addr} {v:Value} (h:w.cell? ad=some v) (hv:VR (diag (ownT γ w)) v v):(LW γ w Tp d).cell? ad=some v:=lone_cell (ρ:=diag (ownT γ w)) (F:=ownT γ w) h hv
theorem lw_int {ad:Addr} {k:IntKind} {n:Int} (h:w.cell? ad=some (.int k n)):(LW γ w Tp d).cell? ad=some (.int k n):=lw_cell h (.int k n)
theorem lw_reads {l:List (BitVec 8)} (h:Reads w a cap l):Reads (LW γ w Tp d) a cap l:=⟨h.fits,h.room,h.null,h.bytes.imp id fun⟨b,off,e,h⟩=>⟨b,off,e,fun i hi=>lw_int (h i hi)⟩⟩
structure TextsH (γ:Gho) (w:World) (a:Option Addr) (cap:Nat) (ls:Txts):Prop where
 txts:Texts w a cap ls
 held:Held γ w a
 rows:∀b off i x n c,a=some ⟨b,off,none⟩->i < ls.length->w.cell? ⟨b,off+i,none⟩=some (.slice x n c)->Held γ w x/\∀ad,x=some ad->0 < n
theorem TextsH.lone (h:TextsH γ w a cap ls):Texts (LW γ w Tp d) a cap ls:=by
 refine⟨h.txts.fits,h.txts.room,?_⟩
 rcases h.txts.rows with e|⟨b,off,e,hb⟩
 ·exact .inl e
 ·refine .inr ⟨b,off,e,fun i hi=>?_⟩
  obtain⟨x,c,h1,h2⟩:=hb i hi
  exact⟨x,c,lw_cell h1 (h.rows b off i x _ c e hi h1).1.vr,lw_reads h2⟩
structure RowsH {α:Type} (enc:α->List Value) (K:Nat) (γ:Gho) (w:World) (a:Option Addr) (cap:Nat) (l:List α):Prop where
 rows:RowsC enc K w a cap l
 held:Held γ w a
section
variable {α:Type} {enc:α->List Value} {K:Nat} {l:List α}
theorem RowsH.lone (h:RowsH enc K γ w a cap l) (hi:∀x∈l,∀v∈enc x,∃k n,v=.int k n):RowsC enc K (LW γ w Tp d) a cap l:=by
 refine⟨h.rows.fits,h.rows.room,?_⟩
 rcases h.rows.rows with e|⟨b,off,e,hb⟩
 ·exact .inl e
 ·refine .inr ⟨b,off,e,fun i hlt j v hv=>?_⟩
  obtain⟨k,n,rfl⟩:=hi l[i] (List.getElem_mem hlt) v (List.mem_of_getElem? hv)
  exact lw_int (hb i hlt j _ hv)
end
structure Stays (γ:Gho) (w:World) (γ':Gho) (w':World):Prop where
 hs:γ.hs<=γ'.hs
 bk:∀b,b < γ.hs->γ'.bk b=γ.bk b
 heap:∀b,b < γ.hs->γ.bk b=.priv 0->w'.heap[b]?=w.heap[b]?
theorem Stays.trans (h:Stays γ w γ' w') (h':Stays γ' w' γ2 w2):Stays γ w γ2 w2 :=
 ⟨Nat.le_trans h.hs h'.hs,fun b hb=>(h'.bk b (Nat.lt_of_lt_of_le hb h.hs)).trans (h.bk b hb),fun b hb hp=>(h'.heap b (Nat.lt_of_lt_of_le hb h.hs) ((h.bk b hb).trans hp)).trans (h.heap b hb hp)⟩
theorem Stays.of (l:Later2 γ γ') (h:∀b,b < γ.hs->w'.heap[b]?=w.heap[b]?):Stays γ w γ' w':=⟨l.hs,l.bk,fun b hb _=>h b hb⟩
theorem Stays.own (h:Stays γ w γ' w') {b:Nat} (k:ownT γ w b):ownT γ' w' b:=by
 obtain⟨⟨h1,h2⟩,cs,t,fr,h3⟩:=k
 exact⟨⟨Nat.lt_of_lt_of_le h1 h.hs,(h.bk b h1).trans h2⟩,cs,t,fr,(h.heap b h1 h2).trans h3⟩
theorem Stays.cell (h:Stays γ w γ' w') {ad:Addr} (k:ownT γ w ad.block):w'.cell? ad=w.cell? ad:=by
 obtain⟨⟨h1,h2⟩,_⟩:=k
 unfold World.cell?
 rw[h.heap _ h1 h2]
theorem Held.stays (h:Held γ w a) (k:Stays γ w γ' w'):Held γ' w' a:=fun ad e=>⟨(h ad e).1,k.own (h ad e).2⟩
theorem Held.reads {l:List (BitVec 8)} (h:Held γ w a) (k:Stays γ w γ' w') (hr:Reads w a cap l):Reads w' a cap l :=
 ⟨hr.fits,hr.room,hr.null,hr.bytes.imp id fun⟨b,off,e,hb⟩=>⟨b,off,e,fun i hi=>(k.cell (ad:=⟨b,off+i,none⟩) (h _ e).2).trans (hb i hi)⟩⟩
theorem TextsH.stays (h:TextsH γ w a cap ls) (k:Stays γ w γ' w'):TextsH γ' w' a cap ls:=by
 refine⟨⟨h.txts.fits,h.txts.room,?_⟩,h.held.stays k,fun b off i x n c e hi hc=>?_⟩
 ·rcases h.txts.rows with e|⟨b,off,e,hb⟩
  ·exact .inl e
  ·refine .inr ⟨b,off,e,fun i hi=>?_⟩
   obtain⟨x,c,h1,h2⟩:=hb i hi
   have hx:=h.rows b off i x _ c e hi h1
   exact⟨x,c,(k.cell (ad:=⟨b,off+i,none⟩) (h.held _ e).2).trans h1,hx.1.reads k h2⟩
 ·rw[k.cell (ad:=⟨b,off+i,none⟩) (h.held _ e).2] at hc
  obtain⟨q1,q2⟩:=h.rows b off i x n c e hi hc
  exact⟨q1.stays k,q2⟩
theorem own_of_same (sm:SameN (ownT γ w) γ.hs ρ w1 w') (st:Stays γ w γ' w') (hs':γ'.hs=w'.heap.size) (hnew:∀b,γ.hs<=b->b < γ'.hs->γ'.bk b=.priv 0) {b:Nat} (hb:ρ b b) {cs:Array Value} {t:TypeId} {fr:Nat × Nat} (hc:w1.heap[b]?=some (.cells cs t fr)):ownT γ' w' b:=by
 rcases sm.where_ b b hb with h|h
 ·exact st.own h
 ·obtain⟨cs',fr',e,_⟩:=sm.obj b cs t fr hb hc
  have hlt:b < γ'.hs:=by rw[hs'];exact(Array.getElem?_eq_some_iff.1 e).1
  exact⟨⟨hlt,hnew b h hlt⟩,cs',t,fr',e⟩
theorem cells_of_cell {ad:Addr} {v:Value} (h:w.cell? ad=some v):∃cs t fr,w.heap[ad.block]?=some (.cells cs t fr):=by
 unfold World.cell? at h
 cases hb:w.heap[ad.block]? with
 | none=>rw[hb] at h;cases h
 | some o =>
  cases o with
  | cells cs t fr=>exact⟨cs,t,fr,rfl⟩
  | _=>rw[hb] at h;cases h
theorem rows_of_lone {α:Type} {enc:α->List Value} {K B:Nat} {E:TypeId} {l:List α} {v v':Value} (sm:SameN (ownT γ w) γ.hs ρ w1 w') (st:Stays γ w γ' w') (hs':γ'.hs=w'.heap.size) (hnew:∀b,γ.hs<=b->b < γ'.hs->γ'.bk b=.priv 0)
  (ho:OwnsC enc K w1 B E v l) (hi:∀x∈l,∀v∈enc x,∃k n,v=.int k n) (hv:VR ρ v v'):∃a c,v'=.slice a l.length c/\RowsH enc K γ' w' a c l:=by
 obtain⟨a,c,rfl,hr,hp⟩:=ho.form
 have hsp:∀ad,a=some ad->ad.spot=none:=fun ad e=>by
  rcases hp with⟨_,e2,_⟩|⟨g,e2,_⟩<;>(rw[e] at e2;cases e2)
  rfl
 obtain⟨rfl,hρ⟩:=sm.slice hsp hv
 refine⟨a,c,rfl,⟨hr.fits,hr.room,?_⟩,fun ad e=>⟨hsp ad e,?_⟩⟩
 ·rcases hr.rows with e|⟨b,off,e,hb⟩
  ·exact .inl e
  ·refine .inr ⟨b,off,e,fun i hlt j u hu=>?_⟩
   obtain⟨k,n,rfl⟩:=hi l[i] (List.getElem_mem hlt) u (List.mem_of_getElem? hu)
   exact sm.int (hρ _ e) (hb i hlt j _ hu)
 ·rcases ho.row.2 with⟨e2,_⟩|⟨g,cap,cur,e2,_,hg,_⟩
  ·injection e2 with e2;rw[e] at e2;cases e2
  ·injection e2 with e2
   rw[e] at e2
   injection e2 with e2
   subst e2
   exact own_of_same sm st hs' hnew (hρ _ e) hg
theorem texts_of_lone {B:Nat} {E:TypeId} {v v':Value} {vs:List Value} (sm:SameN (ownT γ w) γ.hs ρ w1 w') (st:Stays γ w γ' w') (hs':γ'.hs=w'.heap.size) (hnew:∀b,γ.hs<=b->b < γ'.hs->γ'.bk b=.priv 0)
  (ho:OwnsRows (fun _=>False) w1 B E v vs ls) (hf:Firm vs) (hv:VR ρ v v'):∃a c,v'=.slice a ls.length c/\TextsH γ' w' a c ls:=by
 obtain⟨a,c,rfl,hnil,h1,h2⟩:=ho.form
 rcases ho.row.2 with⟨e2,hl0⟩|⟨g,cap,cur,e2,_,hg,_⟩
 ·injection e2 with e2 e3 e4
  subst e2 e4
  have hl:ls=[]:=List.eq_nil_of_length_eq_zero hl0
  subst hl
  obtain⟨rfl,_⟩:=sm.slice (fun ad e=>by cases e) hv
  exact⟨none,0,rfl,⟨h1,h2,.inl rfl⟩,held_none,fun b off i x n c e=>by cases e⟩
 ·injection e2 with e2 e3 e4
  subst e2 e4
  obtain⟨rfl,hρ⟩:=sm.slice (fun ad e=>by cases e;rfl) hv
  have hρg:=hρ _ rfl
  have each:∀i,i < ls.length->∃x c,w1.cell? ⟨g,i,none⟩=some (.slice x (txt ls i).length c)/\Reads w1 x c (txt ls i)/\∀ad,x=some ad->0 < (txt ls i).length:=fun i hi=>by
   obtain⟨g',cap',x,c,e5,h5,h6,_⟩:=ho.at_ hi
   injection e5 with e5
   injection e5 with e5
   injection e5 with e5
   subst e5
   refine⟨x,c,h5,h6,fun ad e=>?_⟩
   subst e
   have hvs:vs.getD i undef=.slice (some ad) (txt ls i).length c:=by
    have:=ho.row.cells (g:=g) rfl i (vs.getD i undef) (by rw[List.getElem?_eq_getElem (by rw[ho.len];exact hi),List.getD_eq_getElem?_getD,List.getElem?_eq_getElem (by rw[ho.len];exact hi)];rfl)
    rw[Addr.add_lit,Nat.zero_add] at this
    rw[this] at h5
    injection h5
   exact hf i ad _ c (by rw[ho.len];exact hi) hvs
  have hsp:∀i x c,i < ls.length->Reads w1 x c (txt ls i)->(∀ad,x=some ad->0 < (txt ls i).length)->∀ad,x=some ad->ad.spot=none:=fun i x c hi hr hp ad e=>by
   obtain⟨b,off,e2,_⟩:=hr.bytes.resolve_left fun q=>by have:=hp ad e;rw[q] at this;simp at this
   rw[e] at e2;injection e2 with e2;rw[e2]
  refine⟨_,_,rfl,⟨h1,h2,.inr ⟨g,0,rfl,fun i hi=>?_⟩⟩,fun ad e=>?_,fun b off i x n c e hi hc=>?_⟩
  ·obtain⟨x,c,h5,h6,h7⟩:=each i hi
   obtain⟨q1,q2⟩:=sm.slice_cell (hsp i x c hi h6 h7) hρg h5
   refine⟨x,c,by rw[Nat.zero_add];exact q1,h6.fits,h6.room,h6.null,h6.bytes.imp id fun⟨b,off,e,hb⟩=>⟨b,off,e,fun j hj=>sm.int (q2 _ e) (hb j hj)⟩⟩
  ·injection e with e
   subst e
   exact⟨rfl,own_of_same sm st hs' hnew hρg hg⟩
  ·injection e with e
   injection e with e e' _
   subst e e'
   rw[Nat.zero_add] at hc
   obtain⟨x',c',h5,h6,h7⟩:=each i hi
   obtain⟨q1,q2⟩:=sm.slice_cell (hsp i x' c' hi h6 h7) hρg h5
   rw[q1] at hc
   injection hc with hc
   injection hc with e1 e2 e3
   subst e1 e2 e3
   refine⟨fun ad e=>⟨hsp i _ _ hi h6 h7 ad e,?_⟩,h7⟩
   obtain⟨b,off,e2,hb⟩:=h6.bytes.resolve_left fun q=>by have:=h7 ad e;rw[q] at this;simp at this
   have hρb:=q2 _ e
   have h8:=hb 0 (h7 ad e)
   obtain⟨cs,t,fr,h9⟩:=cells_of_cell h8
   rw[e] at e2
   injection e2 with e2
   subst e2
   exact own_of_same sm st hs' hnew hρb h9
end
end Go.Proofs.YtbicafgmfgdckaaDoor
namespace Go.Proofs.YtbicafgmfgdckaaDoor
open Go Go.Conc
def refFs:List Nat:=[5,8,10,11,15,16,17,18,22,35,36,37,38,66,67,68]
def gNone:Nat->Bool:=fun _=>false
theorem okRef:∀f,refFs.contains f=true->okBody Tryd.prog gNone refFs f=true:=by
 have h:refFs.all (fun f=>okBody Tryd.prog gNone refFs f)=true:=by kernel_rfl
 intro f hf
 exact List.all_eq_true.1 h f (by simpa using hf)
end Go.Proofs.YtbicafgmfgdckaaDoor
namespace Go.Proofs.YtbicafgmfgdckaaDoor
open Go Go.RowKit
def RFindRel (w:World) (S:Txts) (id:List (BitVec 8)) (i:Value) (wr:World):Prop :=
 ∃k:Nat,k<=S.length/\i=.int .i64 k/\(∀x,x < k->¬Hit S id x)/\Below w.heap.size w wr
set_option maxRecDepth 40000 in
set_option maxHeartbeats 4000000 in
theorem refFind_any (a:Option Addr) (cap:Nat) (ls:Txts) (id:List (BitVec 8)) (w:World) (hr:Texts w a cap ls) (hid:id.length=32) (hn:ls.length<=100000) (hl:∀r∈ls,r.length<=1000000) :
  Calls Tryd.prog 15 #[.slice a ls.length cap,.agg (id.map U8).toArray] w fun e w'=>∃v:Int,e=.returned (.int .i64 v)/\FoundAt ls id v:=by
 have hfit:=hr.fits
 have hroom:=hr.room
 have HR:=Lib.hid hr
 have HL:=Lib.hid hl
 have hiM:(Tryd.prog.info? 39).map (·.size)=some (id.map U8).length:=by rw[List.length_map,hid];kernel_rfl
 obtain⟨w1,hw1⟩:∃w1,w.alloc (.cells (id.map U8).toArray 39)=w1:=⟨_,rfl⟩
 have hk1:Below w.heap.size w w1:=by rw[<- hw1];exact(Below.refl w.heap.size w).alloc (Nat.le_refl _) _
 have hm1:w1.rangeAt w.heap.size 0 (id.map U8):=by
  rw[<- hw1]
  intro j v hj
  rw[Nat.zero_add]
  unfold World.cell?
  rw[heap_alloc_new]
  simpa using hj
 have hlt1:w.heap.size < w1.heap.size:=by rw[<- hw1];show _ < (w.heap.push _).size;simp
 have HEQ:=fun(k:List (BitVec 8)) (hk:k.length=32) w=>run_eql_id k id hk hid w
 have HW1:=Lib.hid hw1
 have HK1:=Lib.hid hk1
 have HM1:=Lib.hid hm1
 have HLT:=Lib.hid hlt1
 clear hr hl hk1 hm1 hw1 hlt1
 go_enter Tryd.func15,Tryd.ntmps15
 go_wp2_with fail
 rw[HW1.out]
 go_loopw [5] (fun y wr=>RFindRel w1 ls id y wr) (fun y _=>ls.length - (intOf y).toNat)
 case atStart=>exact⟨0,Nat.zero_le _,rfl,fun x hx=>absurd hx (Nat.not_lt_zero _),Below.refl _ _⟩
 case round =>
  obtain⟨k,hkn,rfl,hno,hbr⟩:=hrel
  by_cases hlt:k < ls.length
  ·obtain⟨b,off,rfl,hrows⟩:=((HR.out.keeps (Keeps.below HK1.out)).keeps (Keeps.below hbr)).rows.resolve_left (fun e=>by rw[e] at hlt;simp at hlt)
   obtain⟨x,c,hcell,hreads⟩:=hrows k hlt
   have hml:(txt ls k).length<=1000000:=by rw[txt_lt hlt];exact HL.out _ (List.getElem_mem hlt)
   have htk:ls[k]?=some (txt ls k):=by rw[txt_lt hlt];exact List.getElem?_eq_getElem hlt
   have hm2:wr.rangeAt w.heap.size 0 (id.map U8):=rangeAt_touch (F:=fun _=>False) (.of_below hbr) HM1.out _root_.id
   have HNE:=fun w=>HEQ (Sha.sum (txt ls k)) (sum_length _) w
   have HBR:=Lib.hid hbr
   have HNO:=Lib.hid hno
   have hit:(Sha.sum (txt ls k)==id)=true↔Hit ls id k:=⟨fun e=>⟨_,htk,by simpa using e⟩,fun⟨r,e1,e2⟩=>by rw[htk] at e1;injection e1 with e1;rw[e1];simpa using e2⟩
   have HIT:=Lib.hid hit
   clear hit
   clear hbr hrows hno htk
   have RS:=fun(w:World) h=>rsum_any x c (txt ls k) w h hml
   generalize (Sha.sum (txt ls k)==id)=bb at *
   generalize id.map U8=M at *
   generalize hsm:(Sha.sum (txt ls k)).map U8=SM at *
   generalize txt ls k=m at *
   clear hsm
   go_wp2_with fail
   refine wp_region_plan [([0,1,2,3,5],some 4),([6],none)] (fun w'=>∃y:Later wr,w'=y.to) (by kernel_rfl) (by kernel_rfl) (fun _ _ d _ _ h=>by cases d<;>exact h) (later_drew wr) ?_
   have hcL:∀y:Later wr,y.to.cell? ⟨b,off+k,none⟩=some (.slice x m.length c):=fun y=>y.cell hcell
   have hmL:∀y:Later wr,y.to.rangeAt w.heap.size 0 M:=fun y=>rangeAt_touch (F:=fun _=>False) (.of_below y.below) hm2 _root_.id
   refine plan_some (show wpQuiet _ _ _ _ (_::_::_::_::_::[]) _ from ?_)
   repeat (first
    |(go_big_quiet_want;refine quiet_mid_of (fun w' e=>(show w'.rangeAt w.heap.size 0 M from by obtain⟨y,rfl⟩:=e;exact hmL y)) Tryd.underlying39 rfl hiM rfl rfl ?_;simp only[Act.put,List.setIfInBounds_toArray,List.set_cons_succ,List.set_cons_zero];go_big_quiet_on)
    | go_big_quiet_step (fail)
    | quiet_step (fail))
   refine wpQuiet_nil (show wpList _ _ _ (_::[]) _ _ from ?_)
   have hmr1:=hreads.keeps (Keeps.drewN wr 1)
   have hb1:=(Below.refl wr.heap.size wr).drew
   have RS1:=RS wr.drew hmr1
   generalize hw:wr.drew=w2 at *
   clear hw hmr1 hcL hmL hm2 hcell
   go_wp2_with fail
   refine RS1.mono ?_
   rintro e w3 ⟨rfl,hb3⟩
   have hb13:=hb1.trans (hb3.mono hb1.size)
   clear RS1 RS hb3 hb1
   go_wp2_with fail
   refine late_normal (fun _ h=>h) (later_of hb13) ?_
   refine plan_none (show wpQuiet _ _ _ _ (_::[]) _ from ?_)
   repeat (go_big_quiet_step (fail))
   refine wpQuiet_nil (plan_nil ?_)
   have HB3:=Lib.hid (HBR.out.trans (hb13.mono HBR.out.size))
   clear hb13 HNE HBR
   cases bb with
   | false =>
    go_wp2
    go_roundw
    case rel =>
     refine⟨k+1,by omega,by go_num,fun x hx=>?_,HB3.out⟩
     rcases Nat.lt_succ_iff_lt_or_eq.1 hx with q|rfl
     ·exact HNO.out x q
     ·exact fun q=>by have:=HIT.out.2 q;cases this
    case measure=>simp[intOf];omega
   | true =>
    go_wp2
    go_ret
    exact⟨k,rfl,.inr ⟨k,rfl,HIT.out.1 (by simp),HNO.out⟩⟩
  ·obtain rfl:k=ls.length:=by omega
   have HNO:=Lib.hid hno
   clear hbr hno
   go_wp2
   go_ret
   exact⟨-1,rfl,.inl ⟨rfl,fun x ⟨r,e1,e2⟩=>HNO.out x ((List.getElem?_eq_some_iff.1 e1).1) ⟨r,e1,e2⟩⟩⟩
end Go.Proofs.YtbicafgmfgdckaaDoor
namespace Go.Proofs.YtbicafgmfgdckaaDoor
open Go Go.RowKit Go.Conc
section
variable {top:Nat} {γ γ' γ2:Gho} {w w' w2 w1:World} {Post:Value->World->Prop} {c b:Frame} {rest:List Frame} {n m:Nat}
structure After (γ:Gho) (w:World) (γ':Gho) (w':World):Prop where
 solo:Solo γ' w'
 later:Later2 γ γ'
 stays:Stays γ w γ' w'
 tape:w'.tape=w.tape
 new:∀b,γ.hs<=b->b < γ'.hs->γ'.bk b=.priv 0
structure Goes2 (γ:Gho) (w:World) (γ':Gho) (w':World):Prop where
 solo:Solo γ' w'
 stays:Stays γ w γ' w'
 tape:w'.tape=w.tape
 cnt:γ'.cnt<=γ.cnt+16
theorem lives_lone {G:Nat->Bool} {fs:List Nat} (hfs:∀f,fs.contains f=true->okBody Tryd.prog G fs f=true) {f:Nat} (hf:fs.contains f=true) (s:Solo γ w) (hgl:Tryd.prog.globals.size<=γ.hs)
  {args:Array Value} (ha:VsR (diag (ownT γ w)) args args) (hG:∀g,G g=true->ownT γ w g) (R:Value->World->Prop)
  (hc:∀(Tp:Tape) (d:Nat),Calls Tryd.prog f args (LW γ w Tp d) (fun e w'=>∃v,e=.returned v/\R v w'))
  (hK:∀γ' w' v v' ρ w1,After γ w γ' w'->R v w1->VR ρ v v'->SameN (ownT γ w) γ.hs ρ w1 w'->LV Tryd.prog wgLink.tWg top Post 0 γ' w' (Conc.G (c.finish v') rest)) :
  LV Tryd.prog wgLink.tWg top Post 0 γ w (Conc.G (Frame.enter Tryd.prog f args .normal) (c::rest)) :=
 lives_call0 hfs hf s hgl (ownT γ w) (fun b hb=>⟨hb.1,hb.2⟩) ha hG R hc fun γ' w' v v' ρ w1 s' l hnew hold htp hR hv sm=>hK γ' w' v v' ρ w1 ⟨s',l,.of l hold,htp,hnew⟩ hR hv sm
theorem lives_rest {G:Nat->Bool} {fs:List Nat} (hfs:∀f,fs.contains f=true->okBody Tryd.prog G fs f=true) {f:Nat} {fn:Func} (hf:Tryd.prog.funcs[f]?=some fn) (hfi:(Tryd.prog.inits.idxOf? f).isNone=true) {code:Code} (hok:okCode Tryd.prog G fs code=true) (hbf:b.fn=f) (hbk:b.kind=.normal) (s:Solo γ w) (hgl:Tryd.prog.globals.size<=γ.hs)
  {ts:Array Value} (ha:VsR (diag (ownT γ w)) ts ts) (hG:∀g,G g=true->ownT γ w g) (R:Value->World->Prop)
  (hc:∀(Tp:Tape) (d:Nat),code.wp Tryd.prog (bodyPost Tryd.prog fn (fun e w'=>∃v,e=.returned v/\R v w')) ⟨ts,[]⟩ (LW γ w Tp d))
  (hK:∀γ' w' v v' ρ w1,After γ w γ' w'->R v w1->VR ρ v v'->SameN (ownT γ w) γ.hs ρ w1 w'->LV Tryd.prog wgLink.tWg top Post 0 γ' w' (Conc.G (c.finish v') rest)) :
  LV Tryd.prog wgLink.tWg top Post 0 γ w (Conc.G (b.at ⟨ts,[]⟩ [.code code]) (c::rest)) :=
 lives_code0 hfs hf hfi hok hbf hbk s hgl (ownT γ w) (fun b hb=>⟨hb.1,hb.2⟩) ha hG R hc fun γ' w' v v' ρ w1 s' l hnew hold htp hR hv sm=>hK γ' w' v v' ρ w1 ⟨s',l,.of l hold,htp,hnew⟩ hR hv sm
theorem vs_nil {ρ:Ren}:VsR ρ #[] #[]:=VsR.empty
theorem vs_cons {ρ:Ren} {v:Value} {l:List Value} (h:VR ρ v v) (k:VsR ρ l.toArray l.toArray):VsR ρ (v::l).toArray (v::l).toArray:=by
 refine⟨rfl,fun i h1 h2=>?_⟩
 cases i with
 | zero=>exact h
 | succ i =>
  have q:=k.at_ i (by simpa using h1) (by simpa using h1)
  rw[List.getElem_toArray] at q ⊢
  exact q
theorem keyC_ints (k:List (BitVec 8)):∀v∈keyC k,∃kd n,v=.int kd n:=fun v hv=>by
 obtain⟨y,_,rfl⟩:=List.mem_map.1 hv
 exact⟨_,_,rfl⟩
theorem keysC_ints (l:Txts):∀x∈l,∀v∈keyC x,∃kd n,v=.int kd n:=fun x _=>keyC_ints x
theorem vs_ints {ρ:Ren}:∀id:List (BitVec 8),VsR ρ (id.map U8).toArray (id.map U8).toArray
 | []=>vs_nil
 | _::l=>vs_cons (.int _ _) (vs_ints l)
structure UserTexts (γ:Gho) (w:World) (a:Option Addr) (cap:Nat) (ls:Txts):Prop where
 txts:Texts w a cap ls
 held:Held γ w a
 rows:∀b off i x n c,a=some ⟨b,off,none⟩->i < ls.length->w.cell? ⟨b,off+i,none⟩=some (.slice x n c)->Held γ w x\/(n=0/\c=0)
theorem UserTexts.lone {a:Option Addr} {cap:Nat} {ls:Txts} {Tp:Tape} {d:Nat} (h:UserTexts γ w a cap ls):Texts (LW γ w Tp d) a cap ls:=by
 refine⟨h.txts.fits,h.txts.room,?_⟩
 rcases h.txts.rows with e|⟨b,off,e,hb⟩
 ·exact .inl e
 ·refine .inr ⟨b,off,e,fun i hi=>?_⟩
  obtain⟨x,c,h1,h2⟩:=hb i hi
  rcases h.rows b off i x _ c e hi h1 with hh|⟨h0,hc0⟩
  ·exact⟨x,c,lw_cell h1 hh.vr,lw_reads h2⟩
  ·subst hc0
   rw[h0] at h1
   have h3:(LW γ w Tp d).cell? ⟨b,off+i,none⟩=some (tameV (diag (ownT γ w)) (.slice x 0 0)):=lone_cell_tame h1
   have ht:txt ls i=[]:=List.eq_nil_of_length_eq_zero h0
   cases x with
   | none =>
    rw[tame_self (.snil _ _)] at h3
    exact⟨none,0,by rw[h0];exact h3,by rw[ht];exact reads_nil _⟩
   | some ad =>
    obtain⟨ad',e2⟩:=tame_void (ρ:=diag (ownT γ w)) ad
    rw[e2] at h3
    exact⟨some ad',0,by rw[h0];exact h3,by rw[ht];exact⟨by simp,by omega,fun e=>(by cases e),.inl rfl⟩⟩
theorem refRight_any (m:Int) (w:World):Calls Tryd.prog 8 #[.int .i64 m] w fun e w'=>e=.returned (.bool (decide (1<=m)&&decide (m<=16)))/\w'=w:=by
 by_cases h1:1<=m
 ·by_cases h2:m<=16
  ·go_enter Tryd.func8,Tryd.ntmps8
   go_wp2
   go_ret
   exact⟨ret_bool (by simp[h1,h2]),rfl⟩
  ·go_enter Tryd.func8,Tryd.ntmps8
   go_wp2
   go_ret
   exact⟨ret_bool (by simp[h1,h2]),rfl⟩
 ·go_enter Tryd.func8,Tryd.ntmps8
  go_wp2
  go_ret
  exact⟨ret_bool (by have q:decide (1<=m)=false:=decide_eq_false (by omega);rw[q];rfl),rfl⟩
theorem lives_refRight {m:Int} (s:Solo γ w) (hgl:Tryd.prog.globals.size<=γ.hs)
  (hK:∀γ' w',After γ w γ' w'->LV Tryd.prog wgLink.tWg top Post 0 γ' w' (Conc.G (c.finish (.bool (decide (1<=m)&&decide (m<=16)))) rest)) :
  LV Tryd.prog wgLink.tWg top Post 0 γ w (Conc.G (Frame.enter Tryd.prog 8 #[.int .i64 m] .normal) (c::rest)):=by
 refine lives_lone okRef (by decide) s hgl (vs_cons (.int _ _) vs_nil) (fun g hg=>by cases hg) (fun v w1=>v=.bool (decide (1<=m)&&decide (m<=16))) (fun Tp d=>(refRight_any m _).mono fun e w' h=>⟨_,h.1,rfl⟩) fun γ' w' v v' ρ w1 A h hv sm=>?_
 subst h
 rw[vr_bool hv]
 exact hK γ' w' A
theorem lives_refSums {a:Option Addr} {cap:Nat} {ls:Txts} (s:Solo γ w) (hgl:Tryd.prog.globals.size<=γ.hs) (hu:TextsH γ w a cap ls) (hn:ls.length<=100000) (hl:∀r∈ls,r.length<=1000000)
  (hK:∀γ' w' x cx,After γ w γ' w'->RowsH keyC 32 γ' w' x cx (ls.map Sha.sum)->LV Tryd.prog wgLink.tWg top Post 0 γ' w' (Conc.G (c.finish (.slice x (ls.map Sha.sum).length cx)) rest)) :
  LV Tryd.prog wgLink.tWg top Post 0 γ w (Conc.G (Frame.enter Tryd.prog 11 #[.slice a ls.length cap] .normal) (c::rest)):=by
 refine lives_lone okRef (by decide) s hgl (vs_cons hu.held.vr vs_nil) (fun g hg=>by cases hg) (fun v w1=>∃B,OwnsC keyC 32 w1 B 39 v (ls.map Sha.sum)) (fun Tp d=>(refSums_any a cap ls _ hu.lone hn hl).mono fun e w' ⟨v,e1,h1,_⟩=>⟨v,e1,_,h1⟩) fun γ' w' v v' ρ w1 A ⟨B,h1⟩ hv sm=>?_
 obtain⟨x,cx,rfl,hx⟩:=rows_of_lone sm A.stays A.solo.hs A.new h1 (keysC_ints _) hv
 exact hK γ' w' x cx A hx
theorem lives_refFind {a:Option Addr} {cap:Nat} {ls:Txts} {id:List (BitVec 8)} (s:Solo γ w) (hgl:Tryd.prog.globals.size<=γ.hs) (hu:TextsH γ w a cap ls) (hid:id.length=32) (hn:ls.length<=100000) (hl:∀r∈ls,r.length<=1000000)
  (hK:∀γ' w' v,After γ w γ' w'->FoundAt ls id v->LV Tryd.prog wgLink.tWg top Post 0 γ' w' (Conc.G (c.finish (.int .i64 v)) rest)) :
  LV Tryd.prog wgLink.tWg top Post 0 γ w (Conc.G (Frame.enter Tryd.prog 15 #[.slice a ls.length cap,.agg (id.map U8).toArray] .normal) (c::rest)):=by
 refine lives_lone okRef (by decide) s hgl (vs_cons hu.held.vr (vs_cons (.agg rfl (vs_ints _).at_) vs_nil)) (fun g hg=>by cases hg) (fun v w1=>∃u:Int,v=.int .i64 u/\FoundAt ls id u) (fun Tp d=>(refFind_any a cap ls id _ hu.lone hid hn hl).mono fun e w' ⟨u,e1,h1⟩=>⟨_,e1,u,rfl,h1⟩) fun γ' w' v v' ρ w1 A ⟨u,h,hf⟩ hv sm=>?_
 subst h
 rw[vr_int hv]
 exact hK γ' w' u A hf
theorem rows_of_sums {rows:Txts} {out:Nat} (hn:n=rows.length) (hn2:n<=1000) (hout:∃cells,w.heap[out]?=some (.cells cells 39 (0,0))/\cells.size=32 * n/\∀x,x < n->∀o,o < 32->cells[32 * x+o]?=some (sumVal rows x o)) (hS:γ.S 0 out):RowsH keyC 32 γ w (some ⟨out,0,none⟩) n (rows.map Sha.sum):=by
 obtain⟨cells,h1,h2,h3⟩:=hout
 refine⟨⟨by rw[List.length_map];omega,by omega,.inr ⟨out,0,rfl,fun i hi j v hv=>?_⟩⟩,fun ad e=>by injection e with e;subst e;exact⟨rfl,hS,_,_,_,h1⟩⟩
 rw[List.length_map] at hi
 rw[List.getElem_map] at hv
 have hj:j < 32:=by
  have:=(List.getElem?_eq_some_iff.1 hv).1
  simp only[keyC,List.length_map,sum_length] at this
  exact this
 have h4:=h3 i (by omega) j hj
 unfold World.cell?
 rw[h1]
 simp only[Option.isSome_none,Bool.false_eq_true,if_false]
 rw[show 0+i * 32+j=32 * i+j by omega,h4]
 unfold sumVal
 rw[List.getD_eq_getElem?_getD,List.getElem?_eq_getElem hi,Option.getD_some,<- hv]
 simp[keyC,byteAt,List.getD_eq_getElem?_getD,List.getElem?_eq_getElem (show j < (Sha.sum rows[i]).length by rw[sum_length];exact hj)]
theorem TextsH.mem {a:Option Addr} {cap:Nat} {ls:Txts} (h:TextsH γ w a cap ls) (hs:γ.hs=w.heap.size) (hn:n=ls.length) (hl:∀r∈ls,r.length<=1048576) (hk:KTab w) (hkS:γ.bk 0=.priv 0):RowsMem (snapW γ γ.hs w) a n ls:=by
 have low:∀b,ownT γ w b->γ.bk b=.priv 0/\b≠γ.hs:=fun b q=>⟨q.1.2,by have:=q.1.1;omega⟩
 refine⟨hn,?_,fun i hi=>snap_cell_of hkS (fun q=>?_) (hk i hi)⟩
 ·rcases h.txts.rows with rfl|⟨b,off,e,hb⟩
  ·exact⟨0,0,fun q=>absurd rfl q,fun x row hx=>by simp at hx⟩
  ·refine⟨b,off,fun _=>e,fun x row hx=>?_⟩
   obtain⟨hlt,e2⟩:=List.getElem?_eq_some_iff.1 hx
   obtain⟨x',c,h1,h2⟩:=hb x hlt
   rw[txt_lt hlt,e2] at h1 h2
   obtain⟨hx1,hx2⟩:=h.rows b off x x' _ c e hlt h1
   obtain⟨p1,p2⟩:=low b (h.held _ e).2
   refine⟨hl row (by rw[<- e2];exact List.getElem_mem hlt),x',c,snap_cell_of p1 p2 h1,⟨h2.fits,h2.room,h2.null,h2.bytes.imp id fun⟨b3,off3,e3,hb3⟩=>⟨b3,off3,e3,fun i hi=>?c1⟩⟩,fun ad e3=>?c2⟩
   case c1 =>
    obtain⟨q1,q2⟩:=low b3 (hx1 _ e3).2
    exact snap_cell_of q1 q2 (hb3 i hi)
   case c2 =>
    obtain⟨b4,off4,e4,hb4⟩:=h2.bytes.resolve_left fun q=>by have:=hx2 ad e3;rw[q] at this;simp at this
    obtain⟨q1,q2⟩:=low ad.block (hx1 _ e3).2
    rw[e3] at e4
    injection e4 with e4
    subst e4
    exact⟨off4+0,_,snap_cell_of q1 q2 (hb4 0 (hx2 _ e3))⟩
 ·have h0:=hk 0 (by decide)
  have:=World.block_lt_of_cell? w _ h0
  dsimp only at this
  omega
end
end Go.Proofs.YtbicafgmfgdckaaDoor
namespace Go.Proofs.YtbicafgmfgdckaaDoor
open Go Go.RowKit Go.Conc Go.Conc.Lib Go.ConcR.Gen
section
variable {top:Nat} {γ γ' γ2:Gho} {w w' w2 w1:World} {Post:Value->World->Prop} {c b:Frame} {rest cs:List Frame} {n m IB:Nat} {id id':List (BitVec 8)} {a:Act} {kk:List Item} {ops:Array Oper} {l:Nat} {o:Oper} {rs:List Nat}
theorem lives_loadId {x:Operand} {B off:Nat} (s:Solo γ w) (hS:γ.S 0 B) (hid:id.length=32) (hc:∀j v,(id.map U8)[j]?=some v->w.cell? ⟨B,off+j,none⟩=some v) (ho:ops[l]?=some o) (hw:Region.wanted o (yielded ops a.tmps)=true) (hk:b.kind≠.early) (hop:o.op=.load 39 x) (hx:a.eval x=.pointer (some ⟨B,off,none⟩))
  (K:LV Tryd.prog wgLink.tWg top Post 0 γ w (G (b.at (a.put o.dst (.agg (id.map U8).toArray)) (.inRegion ops rs::kk)) cs)):LV Tryd.prog wgLink.tWg top Post 0 γ w (G (b.at a (.inRegion ops (l::rs)::kk)) cs):=by
 refine lives_read rfl s.ns (fun γV wV hrl hIV=>?_)
 have hl:=exec_load_row (P:=Tryd.prog) (a:=a) (op:=o) (x:=x) (ty:=39) (g:=B) (o:=off) (vs:=id.map U8) (w:=wV) hop hx (fun w=>by kernel_rfl) (fun w es=>by kernel_rfl) (by rw[List.length_map,hid];kernel_rfl) (fun j v hv=>by
  rw[World.cell?,(s.rel hrl).2.1]
  exact hc j v hv)
 rw[stepG_value ho hw hk hl.1]
 refine⟨⟨rfl,fun e he=>?_⟩,K⟩
 obtain⟨j,rfl⟩:=hl.2 e (mem_listed he)
 exact .inl ⟨_,rfl,rfl,.inl (by rw[hrl.S s.ng];exact hS)⟩
theorem lives_storeId {x y:Operand} (s:Solo γ w) (f:Fact 0 γ w IB (.priv 0) (.cells (id.map U8).toArray 39)) (hid:id.length=32) (hid':id'.length=32) (ho:ops[l]?=some o) (hw:Region.wanted o (yielded ops a.tmps)=true) (hk:b.kind≠.early) (hop:o.op=.store 39 x y) (hx:a.eval x=.pointer (some ⟨IB,0,none⟩)) (hy:a.eval y=.agg (id'.map U8).toArray)
  (K:∀γ' w',Solo γ' w'->Later2 γ γ'->(∀z,z < γ.hs->z≠IB->w'.heap[z]?=w.heap[z]?)->w'.tape=w.tape->Fact 0 γ' w' IB (.priv 0) (.cells (id'.map U8).toArray 39)->LV Tryd.prog wgLink.tWg top Post 0 γ' w' (G (b.at (a.put o.dst undef) (.inRegion ops rs::kk)) cs)):LV Tryd.prog wgLink.tWg top Post 0 γ w (G (b.at a (.inRegion ops (l::rs)::kk)) cs):=by
 refine solo_own s rfl fun w2 e1 e2=>?_
 have hcur:w2.heap[IB]?=some (.cells (id.map U8).toArray 39 (0,0)):=by rw[e1];exact f.heap
 have hinf:(Tryd.prog.info? 39).map (·.size)=some (id'.map U8).length:=by rw[List.length_map,hid'];kernel_rfl
 have hfit:0+(id'.map U8).length<=(id.map U8).toArray.size:=by simp[hid,hid']
 have hv1:∀v∈id'.map U8,v.oneCell'=true:=fun v hv=>by obtain⟨y,_,rfl⟩:=List.mem_map.1 hv;rfl
 have hst:=exec_store_row (P:=Tryd.prog) (a:=a) (op:=o) (o:=0) hop hx hy hinf hcur hfit hv1
 refine⟨_,_,_,stepG_none ho hw hk hst.1,⟨by simp[World.setRow],rfl,rfl,rfl,fun z _ hz=>setRow_other _ _ _ _ fun q=>hz (by rw[q];exact⟨f.lt,f.bk⟩),fun e he=>?_⟩,fun γ' s' l' _=>K γ' _ s' l' (fun z hz hne=>(setRow_other _ _ _ _ hne).trans (by rw[e1])) e2 ⟨Nat.lt_of_lt_of_le f.lt l'.hs,(l'.bk _ f.lt).trans f.bk,?_⟩⟩
 ·obtain⟨j,_,rfl⟩:=hst.2 e (mem_listed he)
  exact .inl ⟨_,rfl,rfl,.inl (.inl ⟨f.lt,f.bk⟩)⟩
 ·rw[setRow_heap _ _ _ _ _ _ hcur]
  have:(id.map U8).length=(id'.map U8).length:=by simp[hid,hid']
  simp[this]
def Gho.hide (γ:Gho) (B:Nat):Gho:={ γ with bk:=Go.ConcN.upd γ.bk B .mix }
theorem hide_bk {z:Nat} (h:z≠IB):(γ.hide IB).bk z=γ.bk z:=Go.ConcN.upd_ne _ _ h
theorem hide_at:(γ.hide IB).bk IB=.mix:=Go.ConcN.upd_same _ _ _
theorem hide_priv {z:Nat} (h:(γ.hide IB).bk z=.priv 0):z≠IB/\γ.bk z=.priv 0:=by
 by_cases q:z=IB
 ·subst q;rw[hide_at] at h;cases h
 ·exact⟨q,by rw[<- hide_bk q];exact h⟩
theorem hide_own {z:Nat} (h:ownT (γ.hide IB) w z):ownT γ w z:=⟨⟨h.1.1,(hide_priv h.1.2).2⟩,h.2⟩
theorem Stays.hide (h:Stays γ w γ' w'):Stays (γ.hide IB) w (γ'.hide IB) w':=⟨h.hs,fun z hz=>by
 by_cases q:z=IB
 ·subst q;rw[hide_at,hide_at]
 ·rw[hide_bk q,hide_bk q];exact h.bk z hz,fun z hz hp=>h.heap z hz (hide_priv hp).2⟩
theorem Held.shown {ad:Option Addr} (h:Held (γ.hide IB) w ad):Held γ w ad:=fun a e=>⟨(h a e).1,hide_own (h a e).2⟩
theorem TextsH.shown {ad:Option Addr} {cap:Nat} {ls:Txts} (h:TextsH (γ.hide IB) w ad cap ls):TextsH γ w ad cap ls:=⟨h.txts,h.held.shown,fun b off i x n c e hi hc=>let ⟨q1,q2⟩:=h.rows b off i x n c e hi hc;⟨q1.shown,q2⟩⟩
theorem lives_fewX {ad:Option Addr} {cap:Nat} {ls:Txts} (s:Solo γ w) (hgl:Tryd.prog.globals.size<=γ.hs) (hIB:IB < γ.hs) (hu:UserTexts (γ.hide IB) w ad cap ls)
  (hK:∀γ' w' x cx,After γ w γ' w'->TextsH (γ'.hide IB) w' x cx (fewOf ls)->LV Tryd.prog wgLink.tWg top Post 0 γ' w' (Conc.G (c.finish (.slice x (fewOf ls).length cx)) rest)) :
  LV Tryd.prog wgLink.tWg top Post 0 γ w (Conc.G (Frame.enter Tryd.prog 5 #[.slice ad ls.length cap] .normal) (c::rest)):=by
 refine lives_call0 okRef (by decide) s hgl (ownT (γ.hide IB) w) (fun b hb=>⟨⟨hb.1.1,(hide_priv hb.1.2).2⟩,hb.2⟩) (vs_cons hu.held.vr vs_nil) (fun g hg=>by cases hg) (fun v w1=>∃B vs,OwnsRows (fun _=>False) w1 B 44 v vs (fewOf ls)/\Firm vs) (fun Tp d=>(few_any ad cap ls _ hu.lone).mono fun e w' ⟨v,vs,e1,h1,h2,_⟩=>⟨v,e1,_,vs,h1,h2⟩) fun γ' w' v v' ρ w1 s' l hnew hold htp ⟨B,vs,h1,h2⟩ hv sm=>?_
 have A:After γ w γ' w':=⟨s',l,.of l hold,htp,hnew⟩
 obtain⟨x,cx,rfl,hx⟩:=texts_of_lone (γ:=γ.hide IB) (γ':=γ'.hide IB) sm A.stays.hide s'.hs (fun z hz hz2=>by
  have hz':γ.hs<=z:=hz
  rw[hide_bk (by omega)];exact hnew z hz hz2) h1 h2 hv
 exact hK γ' w' x cx A hx
end
end Go.Proofs.YtbicafgmfgdckaaDoor
namespace Go.Proofs.YtbicafgmfgdckaaDoor
open Go Go.RowKit Go.Conc Go.Conc.Lib Go.ConcR.Gen
def abc:List (BitVec 8):=[97,98,99]
theorem abc_sum:byteAt (Sha.sum abc) 0=186:=by kernel_rfl
noncomputable def tail9:Code:=match Tryd.f9.body.getD .skip with
 | .seq _ (.seq _ c)=>c
 | _=>.skip
def ts9 (x y sv e:Value):Array Value:=#[.bool false,sv,e,.tuple #[sv,e],x,x,y,.tuple #[sv,e],sv,e]++Array.replicate 14 undef
theorem ts9_vr {ρ:Ren} {x y sv e:Value} (h1:VR ρ x x) (h2:VR ρ y y) (h3:VR ρ sv sv) (h4:VR ρ e e):VsR ρ (ts9 x y sv e) (ts9 x y sv e):=by
 have ht:VR ρ (.tuple #[sv,e]) (.tuple #[sv,e]):=.tuple rfl (vs_cons h3 (vs_cons h4 vs_nil)).at_
 refine VsR.append (vs_cons (.bool _) (vs_cons h3 (vs_cons h4 (vs_cons ht (vs_cons h1 (vs_cons h1 (vs_cons h2 (vs_cons ht (vs_cons h3 (vs_cons h4 vs_nil)))))))))) ⟨rfl,fun i h1 h2=>?_⟩
 simp only[Array.getElem_replicate]
 exact vr_undef
theorem livesTail_any (x y:Value) (oa:Option Addr) (oc:Nat) (w:World) (hS:RowsC keyC 32 w oa oc [Sha.sum abc]) :
  tail9.wp Tryd.prog (bodyPost Tryd.prog Tryd.f9 fun e w'=>∃v,e=.returned v/\v=.bool true) ⟨ts9 x y (.slice oa 1 oc) (.int .i64 0),[]⟩ w:=by
 have hcap:=hS.fits
 have hroom:=hS.room
 obtain⟨b,off,rfl,hrow⟩:=hS.rows.resolve_left (by simp)
 have h0:=hrow 0 (by simp)
 have hc:w.cell? ⟨b,off+0 * 32+0,none⟩=some (.int .u8 186):=by
  refine h0 0 _ ?_
  show (keyC (Sha.sum abc))[0]?=_
  have h1:=abc_sum
  have h2:0 < (Sha.sum abc).length:=by rw[sum_length];decide
  rw[byteAt_lt h2] at h1
  simp[keyC,List.getElem?_eq_getElem h2,h1,U8]
 simp only[Nat.zero_mul,Nat.add_zero] at hc
 clear hrow h0 hS
 obtain⟨fn,hfn⟩:∃fn,fn=Tryd.f9:=⟨_,rfl⟩
 rw[<- hfn]
 have HFN:=Lib.hid hfn
 clear hfn
 simp only[tail9,ts9,Tryd.f9,Option.getD_some,Array.replicate_succ,Array.replicate_zero,List.push_toArray,List.append_toArray,List.nil_append,List.cons_append]
 go_wp2
 obtain rfl:=HFN.out
 go_ret
 exact⟨_,rfl,rfl⟩
theorem conv_at {P:Program} (W:World) (t e:TypeId) (A:Array Obj) (cs:Array Value) (E:TypeId) (len cap:Nat) (hW:W.heap=A.push (.cells cs E)) (hs:P.underlying t=some (.slice e)) (he:P.underlying e=some (.int .u8)) :
  (convert t t (.slice (some ⟨A.size,0,none⟩) len cap)).run P W=.ok (.slice (some ⟨A.size,0,none⟩) len cap) { W with heap:=A.push (.cells cs E (cs.size,cs.size+1)) }:=by
 have hsh:W.shape? A.size=some (E,cs.size):=by
  unfold World.shape?;rw[hW];simp
 have hf:W.freeze ⟨A.size,cs.size,none⟩ 1={ W with heap:=A.push (.cells cs E (cs.size,cs.size+1)) }:=by
  have:W.heap.modify A.size (fun | .cells c elem (lo,hi)=>.cells c elem (if lo==hi then (cs.size,cs.size+1) else (min lo cs.size,max hi (cs.size+1))) | o=>o)=A.push (.cells cs E (cs.size,cs.size+1)):=by
   rw[hW]
   apply Array.ext_getElem?
   intro i
   rw[Array.getElem?_modify,Array.getElem?_push,Array.getElem?_push]
   by_cases h:i=A.size
   ·subst h;simp
   ·simp[h,Ne.symm h]
  unfold World.freeze
  rw[if_neg (by decide)]
  exact congrArg (fun h=>({ W with heap:=h }:World)) this
 simp[convert,run_underlying hs,run_underlying he,markStringish,hsh,hf]
theorem conv_ev {P:Program} (W:World) (t e:TypeId) (A:Array Obj) (cs:Array Value) (E:TypeId) (len cap:Nat) (hW:W.heap=A.push (.cells cs E)) (hs:P.underlying t=some (.slice e)) (he:P.underlying e=some (.int .u8)) :
  (convert t t (.slice (some ⟨A.size,0,none⟩) len cap)).events P W #[]=#[]:=by
 have hsh:W.shape? A.size=some (E,cs.size):=by
  unfold World.shape?;rw[hW];simp
 simp[convert,run_underlying hs,run_underlying he,markStringish,hsh]
theorem own_last {S F:Nat->Prop} {w w':World} {A:Array Obj} {o o':Obj} {es:Array Event} (h:w.heap=A.push o) (h':w'.heap=A.push o') (et:w'.tape=w.tape) (eo:w'.os=w.os) (eu:w'.output=w.output) (hS:S A.size) (he:∀e∈es,False):Own S F w w' es :=
 ⟨by rw[h,h'];simp,et,eo,eu,fun b hb hn=>by
  have hne:b≠A.size:=fun q=>hn (by rw[q];exact hS)
  rw[h,h',Array.getElem?_push,Array.getElem?_push,if_neg hne,if_neg hne],fun e h=>(he e h).elim⟩
section
variable {top:Nat} {γ γ' γ2:Gho} {w w' w2 w1:World} {Post:Value->World->Prop} {c:Frame} {cs:List Frame}
set_option maxRecDepth 100000 in
set_option maxHeartbeats 8000000 in
theorem lives_lives (s0:Solo γ w) (hgl:Tryd.prog.globals.size<=γ.hs) (hcnt:γ.cnt+16<=top) (hk:KTab w) (hkS:γ.bk 0=.priv 0)
  (hK:∀γ' w',Goes2 γ w γ' w'->LV Tryd.prog wgLink.tWg top Post 0 γ' w' (G (c.finish (.bool true)) cs)) :
  LV Tryd.prog wgLink.tWg top Post 0 γ w (G ((base 9).at ⟨#[]++Array.replicate 24 undef,[]⟩ [.code (Tryd.f9.body.getD .skip)]) (c::cs)):=by
 have hg:γ.tag 0≠.gone:=s0.ng
 simp only[Tryd.f9,Option.getD_some]
 walk_nrm;refine lsq hg ?_;refine lrg hg ?_;simp only[ix,Nat.reduceAdd];refine lop hg rfl rfl (by k_ne) fun v W H=>?_;go_simp;refine H _ _ rfl (by simp[go_sem]) ?_;clear H W v;(try walk_nrm);refine len hg ?_;refine lsq hg ?_;refine lrg hg ?_;simp only[ix,Nat.reduceAdd]
 refine solo_goes s0 rfl fun wV eV eT=>?_
 refine goes_oper_k rfl rfl (by k_ne) (fun W hW=>?_)
 go_simp
 refine hW _ _ ⟨own_push (w:=wV) rfl rfl rfl rfl (no_listed (by simp[go_sem])),fun γ1 w1 h1 t1 s1 l1 b1=>?_⟩
 replace h1:w1.heap=(w.heap).push (Obj.cells #[Value.int .u8 97,Value.int .u8 98,Value.int .u8 99] 5):=by rw[h1];show wV.heap.push _=_;rw[eV];try rfl
 replace t1:w1.tape=w.tape:=t1.trans eT
 replace b1:γ1.bk (w.heap.size)=.priv 0:=b1 _ (by rw[s0.hs];simp[Nat.add_assoc]) (by show _ < (wV.heap.push _).size;rw[eV];simp[Nat.add_assoc])
 clear hW;clear W eV eT;clear wV
 have hg:γ1.tag 0≠.gone:=s1.ng
 try walk_nrm
 refine solo_goes s1 rfl fun wV eV eT=>?_
 refine goes_oper_k rfl rfl (by k_ne) (fun W hW=>?_)
 have hcv:=conv_at (P:=Tryd.prog) wV 44 5 w.heap #[Value.int .u8 97,Value.int .u8 98,Value.int .u8 99] 5 3 3 (eV.trans h1) (by kernel_rfl) (by kernel_rfl)
 have hev:=conv_ev (P:=Tryd.prog) wV 44 5 w.heap #[Value.int .u8 97,Value.int .u8 98,Value.int .u8 99] 5 3 3 (eV.trans h1) (by kernel_rfl) (by kernel_rfl)
 go_simp
 refine hW _ _ ⟨own_last (S:=γ1.S 0) (eV.trans h1) rfl (by first|exact(eT.trans t1).symm|exact eT.symm) rfl rfl (show γ1.S 0 w.heap.size from⟨by rw[s1.hs,h1];simp,b1⟩) (no_listed (by simp[go_sem];exact hev)),fun γ2 w2 h2 t2 s2 l2 bX=>?_⟩
 replace h2:w2.heap=w.heap.push (Obj.cells #[Value.int .u8 97,Value.int .u8 98,Value.int .u8 99] 5 (3,4)):=h2
 replace t2:w2.tape=w1.tape:=by first|exact t2.trans eT|exact t2.trans t1.symm|exact t2
 have b2:γ2.bk w.heap.size=.priv 0:=(l2.bk _ (by rw[s1.hs,h1];simp)).trans b1
 clear hW hcv hev bX;clear W eV eT;clear wV
 rw[t1] at t2
 have m2:=l2
 replace l2:=l1.trans l2
 have hg:γ2.tag 0≠.gone:=s2.ng
 try walk_nrm
 refine solo_goes s2 rfl fun wV eV eT=>?_
 refine goes_oper_k rfl rfl (by k_ne) (fun W hW=>?_)
 go_simp
 refine hW _ _ ⟨own_push (w:=wV) rfl rfl rfl rfl (no_listed (by simp[go_sem])),fun γ3 w3 h3 t3 s3 l3 b3=>?_⟩
 replace h3:w3.heap=(w.heap.push (Obj.cells #[Value.int .u8 97,Value.int .u8 98,Value.int .u8 99] 5 (3,4))).push (Obj.cells #[Value.slice (some ⟨w.heap.size,0,none⟩) 3 3] 44):=by rw[h3];show wV.heap.push _=_;rw[eV,h2];try rfl
 replace t3:w3.tape=w2.tape:=t3.trans eT
 replace b3:γ3.bk (w.heap.size+1)=.priv 0:=b3 _ (by rw[s2.hs,h2];simp[Nat.add_assoc]) (by show _ < (wV.heap.push _).size;rw[eV,h2];simp[Nat.add_assoc])
 clear hW;clear W eV eT;clear wV
 rw[t2] at t3
 have m3:=l3
 replace l3:=l2.trans l3
 have hg:γ3.tag 0≠.gone:=s3.ng
 try walk_nrm
 have hN:γ.hs=w.heap.size:=s0.hs
 have hs3:γ3.hs=w.heap.size+2:=by rw[s3.hs,h3];simp
 have H0:w3.heap[w.heap.size]?=some (.cells #[Value.int .u8 97,Value.int .u8 98,Value.int .u8 99] 5 (3,4)):=by
  rw[h3]
  simp only[Array.getElem?_push,Array.size_push]
  rw[if_neg (by omega)]
  try simp
 have H1:w3.heap[w.heap.size+1]?=some (.cells #[Value.slice (some ⟨w.heap.size,0,none⟩) 3 3] 44 (0,0)):=by
  rw[h3]
  simp only[Array.getElem?_push,Array.size_push]
  try simp
 have d0:γ3.bk w.heap.size=.priv 0:=(m3.bk _ (by rw[s2.hs,h2];simp)).trans b2
 have T0:ownT γ3 w3 w.heap.size:=⟨⟨by omega,d0⟩,_,_,_,H0⟩
 have T1:ownT γ3 w3 (w.heap.size+1):=⟨⟨by omega,b3⟩,_,_,_,H1⟩
 have c0:∀i (h:i < 3),w3.cell? ⟨w.heap.size,i,none⟩=some (U8 (byteAt abc i)):=fun i hi=>by
  unfold World.cell?
  rw[H0]
  match i,hi with
  | 0,_=>rfl
  | 1,_=>rfl
  | 2,_=>rfl
 have c1:w3.cell? ⟨w.heap.size+1,0,none⟩=some (.slice (some ⟨w.heap.size,0,none⟩) 3 3):=by
  unfold World.cell?
  rw[H1]
  rfl
 have rd:Reads w3 (some ⟨w.heap.size,0,none⟩) 3 abc:=⟨by decide,by decide,(fun e=>by cases e),.inr ⟨w.heap.size,0,rfl,fun i hi=>by rw[Nat.zero_add];exact c0 i hi⟩⟩
 have tx:TextsH γ3 w3 (some ⟨w.heap.size+1,0,none⟩) 1 [abc]:=by
  refine⟨⟨by simp,by omega,.inr ⟨_,0,rfl,fun i hi=>?_⟩⟩,fun ad e=>by injection e with e;subst e;exact⟨rfl,T1⟩,fun b off i x n cx e hi hc=>?_⟩
  ·obtain rfl:i=0:=by simpa using hi
   exact⟨_,_,c1,rd⟩
  ·obtain rfl:i=0:=by simpa using hi
   injection e with e
   injection e with e e' _
   subst e e'
   have hc':w3.cell? ⟨w.heap.size+1,0,none⟩=some (.slice x n cx):=hc
   rw[c1] at hc'
   injection hc' with hc'
   injection hc' with e1 e2 e3
   subst e1 e2 e3
   exact⟨fun ad e=>by injection e with e;subst e;exact⟨rfl,T0⟩,fun _ _=>by decide⟩
 have st3:Stays γ w γ3 w3:=.of l3 fun b hb=>by
  rw[h3]
  simp only[Array.getElem?_push,Array.size_push]
  rw[if_neg (by omega),if_neg (by omega)]
 have hk3:KTab w3:=fun i hi=>by
  have h:=hk i hi
  have hlt:=World.block_lt_of_cell? w _ h
  rw[<- h]
  unfold World.cell?
  rw[st3.heap _ (by dsimp only at hlt;omega) hkS]
 have hkS3:γ3.bk 0=.priv 0:=by
  have hlt:=World.block_lt_of_cell? w _ (hk 0 (by decide))
  dsimp only at hlt
  exact(st3.bk _ (by omega)).trans hkS
 refine lives_ctl rfl hg (fun _=>stepG_callv (first:=#[]) (caps:=#[]) (vs:=#[.slice (some ⟨w.heap.size+1,0,none⟩) 1 1,.int .i64 2]) rfl rfl (by k_ne) rfl rfl (by simp[Act.eval]) Tryd.func6 (by kernel_rfl) rfl) ?_
 refine lives_sums (n:=1) (rows:=[abc]) s3 (by decide) (tx.mem s3.hs rfl (fun r hr=>by simp at hr;subst hr;decide) hk3 hkS3) (Nat.le_trans hgl st3.hs) (by rw[l3.cnt];exact hcnt) (fun W0 hW0 q1 q16 γ4 w4 out s4 e1 e2 e3 e4 e5 e6 e7 e8=>?_) (fun hm=>absurd (by decide) hm)
 rw[Frame.finish_at]
 have st4:Stays γ w γ4 w4:=st3.trans ⟨by omega,e5,e6⟩
 clear hg
 have hg:γ4.tag 0≠.gone:=s4.ng
 walk_nrm;(iterate 5 (refine lop hg rfl rfl (by k_ne) fun v W H=>?_;go_simp;refine H _ _ rfl (by simp[go_sem]) ?_;clear H W v;try walk_nrm));refine len hg ?_
 have hS4:γ4.S 0 out:=⟨e2,e3⟩
 have hout:=rows_of_sums (γ:=γ4) (rows:=[abc]) rfl (by decide) e8 hS4
 have hgl4:Tryd.prog.globals.size<=γ4.hs:=Nat.le_trans hgl st4.hs
 have hx:Held γ4 w4 (some ⟨w.heap.size,0,none⟩):=fun ad e=>by injection e with e;subst e;exact⟨rfl,Stays.own ⟨by omega,e5,e6⟩ T0⟩
 have hy:Held γ4 w4 (some ⟨w.heap.size+1,0,none⟩):=fun ad e=>by injection e with e;subst e;exact⟨rfl,Stays.own ⟨by omega,e5,e6⟩ T1⟩
 have hT:=fun Tp d=>livesTail_any (.slice (some ⟨w.heap.size,0,none⟩) 3 3) (.slice (some ⟨w.heap.size+1,0,none⟩) 1 1) (some ⟨out,0,none⟩) 1 (LW γ4 w4 Tp d) (hout.lone (keysC_ints _))
 have hV:=ts9_vr (e:=.int .i64 0) (hx.vr (n:=3) (c:=3)) (hy.vr (n:=1) (c:=1)) (hout.held.vr (n:=1) (c:=1)) (.int _ _)
 simp only[tail9,ts9,Tryd.f9,Option.getD_some,Array.replicate_succ,Array.replicate_zero,List.push_toArray,List.append_toArray,List.nil_append,List.cons_append] at hT hV
 refine lives_rest okRef Tryd.func9 (by kernel_rfl) (by kernel_rfl) rfl rfl s4 hgl4 hV (fun g hg=>by cases hg) _ hT (fun γ5 w5 v v' ρ wl A hR hv sm=>?_)
 subst hR
 rw[vr_bool hv]
 exact hK γ5 w5 ⟨A.solo,st4.trans A.stays,A.tape.trans (e7.trans t3),by have:=A.later.cnt;have:=l3.cnt;have e9:(2:Int)=(W0:Int):=hW0;omega⟩
end
end Go.Proofs.YtbicafgmfgdckaaDoor
namespace Go.Proofs.YtbicafgmfgdckaaDoor
open Go Go.Conc
section
variable {ty:TypeId} {top:Nat} {γ:Gho} {w:World} {P:Program} {Post:Value->World->Prop} {g:Goroutine} {b:Frame} {a:Act} {v:Value} {main:Bool}
theorem lives_stop (s:Solo γ w) (hr:g.status=.running) (hst:∀w2,stepG P true g w2=.ended (.done v) w2 #[]) (hP:∀w2,w2.heap=w.heap->w2.tape=w.tape->Post v w2):LV P ty top Post 0 γ w g:=by
 refine lives_step hr s.ng fun γ2 w2 hrl hI hi=>?_
 obtain⟨s2,e1,e2,e3,e5,e4⟩:=s.rel hrl
 exact .stop v rfl (hst w2) ⟨hP w2 e1 e2,fun j hj _=>⟨hj,(hI.free s2.ph s2.col).2.1 j hj⟩,fun t hT=>over_race s2.ph s2.col hT⟩
theorem stepG_finish {fn:Func} {todo:List Item} (hn:b.kind=.normal) (hd:a.defers=[]) (hf:P.funcs[b.fn]?=some fn) (hr:(results fn a.tmps).run P w=.ok v w) (he:(results fn a.tmps).events P w #[]=#[]) (hi:P.inits.idxOf? b.fn=none) :
  stepG P true (G { b.at a todo with mode:=.returning } []) w=.ended (.done v) w #[]:=by
 simp[G,stepG,unwind,doReturn,Frame.at,hn,hd,hf,hr,he,hi,seen,GStep.after]
end
end Go.Proofs.YtbicafgmfgdckaaDoor
