/- A piece. -/
import Derived.Test.YtbicafgmfgdckaaGreatDoorMgBa
import Derived.Test.YtbicafgmfgdckaaGreatDoorMgAy
import Derived.Conc.HoldsTime
import Derived.Deep.DeepHandedRow
import Derived.SevenTiedAt
import Derived.Test.YtbicafgmfgdckaaGreatDoorRows
import Derived.Lib.LaidTab
set_option maxRecDepth 100000
set_option maxHeartbeats 16000000
set_option linter.all false
namespace Go.Proofs.YtbicafgmfgdckaaGreatDoor
open Go.Proofs.Tryz
open Go Go.RowKit Go.ChangeShapes Go.WideShapes Go.Deep
section
variable {H:Type} {enc:TypeId × Value->H} {w:World} {base:Nat} {spare:Nat->Bool} {held:Bool}
theorem R0 {t:TypeId} {k:IntKind} {n:Nat} {v:Value} {y:DataW H × List MemPlace} (ht:prog.underlying t=some (.int k)) (h:DataW.trod enc prog w base spare held n t [v]=some y):∃m,v=.int k m/\(Lit.int k m).wf=true:=by
 obtain⟨m,e,_,hw⟩:=DataW.trod_int ht h;injection e with e;exact⟨m,e,hw⟩
theorem Alc {r:Go.Reach} {b0:Nat} {v:Value} {d:DataW H} {p:List MemPlace} (hv:Value.okWide prog w r b0 24 v) (h:DataW.Trod enc prog w base spare held 24 v d p) :
  ∃(L M K W:Int) (s:BitVec 32),v=Ca L M K W s:=by
 obtain⟨fs,hs⟩:∃fs,prog.underlying 24=some (.struct fs):=⟨_,underlying24⟩;have hs':=hs.symm.trans underlying24;injection hs' with hs';injection hs' with hs';subst hs';obtain⟨cs,rfl,hc,hf⟩:=Ag2 hs (by kernel_rfl) hv h;have h5:cs.size=5:=hc.trans (by kernel_rfl);obtain⟨l⟩:=cs
 match l,h5 with
 | [c0,c1,c2,c3,c4],_ =>
  obtain⟨n0,y0,e0⟩:=hf 0 _ rfl (by simp);obtain⟨n1,y1,e1⟩:=hf 1 _ rfl (by simp);obtain⟨n2,y2,e2⟩:=hf 2 _ rfl (by simp);obtain⟨n3,y3,e3⟩:=hf 3 _ rfl (by simp);obtain⟨n4,y4,e4⟩:=hf 4 _ rfl (by simp);obtain⟨m0,g0,_⟩:=R0 underlying3 e0;obtain⟨m1,g1,_⟩:=R0 underlying3 e1;obtain⟨m2,g2,_⟩:=R0 underlying3 e2;obtain⟨m3,g3,_⟩:=R0 underlying3 e3;obtain⟨m4,g4,w4⟩:=R0 underlying22 e4;obtain⟨s,es⟩:=Anf w4;refine⟨m0,m1,m2,m3,s,?_⟩;have q0:c0=.int .i64 m0:=g0;have q1:c1=.int .i64 m1:=g1;have q2:c2=.int .i64 m2:=g2;have q3:c3=.int .i64 m3:=g3;have q4:c4=.int .u32 m4:=g4;rw[q0,q1,q2,q3,q4,es];rfl
end
open Go.Conc
section
variable {H:Type} {enc:TypeId × Value->H} {w:World} {base:Nat} {held:Bool}
theorem choose_lt {α:Type} [Inhabited α] {n:Nat} {Q:Nat->α->Prop} (h:∀i,i < n->∃t,Q i t):∃f:Nat->α,∀i,i < n->Q i (f i):=by
 refine⟨fun i=>if hi:i < n then (h i hi).choose else default,fun i hi=>?_⟩;simp only[dif_pos hi];exact(h i hi).choose_spec
def O8 (I:Ab) (w:World):Prop:=∀b,b < w.heap.size->I.S 0 b
theorem O8.cells {I:Ab} (h:O8 I w) {b:Nat} {cs:Array Value} {t:TypeId} {fr:Nat × Nat} (hc:w.heap[b]?=some (.cells cs t fr)):D7 I w b:=⟨h b (Array.getElem?_eq_some_iff.1 hc).1,cs,t,fr,hc⟩
theorem O8.cell {I:Ab} (h:O8 I w) {ad:Addr} {v:Value} (hc:w.cell? ad=some v):D7 I w ad.block:=by
 obtain⟨cs,t,fr,e⟩:=Oa hc;exact h.cells e
theorem Aoy {r:Go.Reach} {b0:Nat} {t e:TypeId} {a:Option Addr} {len cap:Nat} (hu:prog.underlying t=some (.slice e)) (hv:Value.okWide prog w r b0 t (.slice a len cap)) {I:Ab} (h:O8 I w):Hx I w a:=by
 intro ad ea;subst ea;simp only[Value.okWide,hu,Cell.okWide,Cell.ok] at hv;obtain⟨_,_,_,hsp,row,cells,hsh,_⟩:=hv;refine⟨hsp,?_⟩;unfold World.shape? at hsh;cases hb:w.heap[ad.block]? with
 | none=>rw[hb] at hsh;cases hsh
 | some o =>
  rw[hb] at hsh;cases o with
  | cells cs t fr=>exact h.cells hb
  | _=>cases hsh
theorem Apj {n:Nat} {v:Value} {y:DataW H × List MemPlace} (h:DataW.trod enc prog w base (fun _=>true) held n 37 [v]=some y):∃a cap l,v=.slice a (l:List (BitVec 8)).length cap/\A0 w a cap l/\∀ad,a=some ad->(ad.spot=none/\∃u,w.cell? ad=some u)\/cap=0:=by
 rcases open_ints underlying37 underlying5 (by kernel_rfl) h with⟨hcs,_⟩|⟨x,l,c,zs,hcs,_,hl,hm,hz,_,hcell,hwz⟩
 ·injection hcs with hcs;exact⟨none,0,[],hcs,Hz w,fun ad e=>by cases e⟩
 ·injection hcs with hcs;have hz':zs.length=c:=by simpa using hz
  have hr:Ap1 .u8 w (some x) l c zs:=.inr ⟨x,rfl,hl,hm,hz',hcell,hwz⟩;obtain⟨m,e,rd⟩:=hr.reads;subst e;refine⟨some x,c,m,hcs,rd,fun ad e=>?_⟩;injection e with e;subst e;by_cases h0:c=0
  ·exact .inr h0
  ·left;have h1:=hcell 0 (by omega);have e0:x.add 0=x:=by simp[Addr.add]
   rw[e0] at h1;exact⟨by rw[Sl h1],_,h1⟩
theorem Alb {r:Go.Reach} {b0:Nat} {v:Value} {d:DataW H} {p:List MemPlace} (hv:Value.okWide prog w r b0 25 v) (h:DataW.Trod enc prog w base (fun _=>true) held 25 v d p) :
  ∃a cap ls,v=.slice a (ls:Dg).length cap/\∀I,O8 I w->F2 I w a cap ls:=by
 obtain⟨a,len,cap,rfl⟩:=okWide_slice underlying25 hv;obtain⟨fuel,hf⟩:=h;rcases open_slice underlying25 hf with⟨hcs,_⟩|⟨x,l,c,m,n,D,Pl,hcs,_,hl,hm,hmm,_,hi⟩
 ·injection hcs with hcs;injection hcs with e1 e2 e3;subst e1 e2 e3;exact⟨none,0,[],rfl,fun I hI=>⟨⟨by simp,by omega,.inl rfl⟩,K3,fun b off i x n c e=>by cases e⟩⟩
 ·injection hcs with hcs;injection hcs with e1 e2 e3;subst e1 e2 e3;rw[if_pos rfl] at hmm;have one:∀i,i < len->∃(t:List (BitVec 8)),∃ai ci,w.cell? (x.add i)=some (.slice ai t.length ci)/\A0 w ai ci t/\∀ad,ai=some ad->(ad.spot=none/\∃u,w.cell? ad=some u)\/ci=0:=by
   intro i hlt;obtain⟨cs',h1,h2⟩:=hi i (by omega);have e1:prog.cellsOf 37=1:=by kernel_rfl
   rw[e1,Nat.mul_one] at h1;obtain⟨_,hcl,hat⟩:=World.cells?_some h1;have hcl':cs'.length=1:=hcl
   match cs',hcl' with
   | [u],_ =>
    obtain⟨ai,ci,t,rfl,rd,q⟩:=Apj h2;refine⟨t,ai,ci,?_,rd,q⟩;have:=hat 0 (by simp);simpa [Addr.add] using this
  obtain⟨f,hf⟩:=choose_lt one;have hmx:maxLen=9223372036854775807:=rfl;have e:∀i,i < len->Sd ((List.range len).map f) i=f i:=fun i hi=>by simp[Sd,List.getD_eq_getElem?_getD,hi]
  refine⟨some x,cap,(List.range len).map f,by simp,fun I hI=>⟨⟨by simpa using hl,by omega,?_⟩,?_,fun b off i x' n' c' e2 hlt hc=>?_⟩⟩
  ·by_cases h0:len=0
   ·left;subst h0;rfl
   ·right;obtain⟨ai,ci,h1,_⟩:=hf 0 (by omega);have hx:=Sl (x:=x) (by simpa [Addr.add] using h1);refine⟨x.block,x.off,by rw[<- hx],fun i hi=>?_⟩;rw[List.length_map,List.length_range] at hi;obtain⟨ai,ci,h1,h2,_⟩:=hf i hi;rw[hx,Addr.add_lit] at h1;rw[e i hi];exact⟨ai,ci,h1,h2⟩
  ·exact Aoy underlying25 hv hI
  ·rw[List.length_map,List.length_range] at hlt;injection e2 with e2;obtain⟨ai,ci,h1,h2,h3⟩:=hf i hlt;rw[e2,Addr.add_lit] at h1;rw[h1] at hc;injection hc with hc;injection hc with q1 q2 q3;subst q1 q2 q3;cases ai with
   | none=>exact .inl K3
   | some ad =>
    rcases h3 ad rfl with⟨hs,u,hu⟩|h0
    ·exact .inl fun ad' ea=>by injection ea with ea;subst ea;exact⟨hs,hI.cell hu⟩
    ·right;have:=h2.fits;exact⟨by omega,h0⟩
end
open Go.ConcM
section
variable {H:Type} {enc:TypeId × Value->H}
theorem Gc {a:Assume} {C:Checked} {os:Os} {f:FuncId} {fn:Func} {s:ChangeSpec} {F:Stop.Interp} {conds:List PathCond} {apart fresh handsOn:Bool} {laid:List (String × DataW Unit)}
  (own:ownKnob C.prog.godebug=none) (started:os.Started) (hfn:C.prog.funcs[f]?=some fn)
  (witness:∃(w:World) (tape:Tape) (i:Input),w.os=os/\(w.forCall tape i).Shaped C.prog/\i.vars=[]/\Input.okWide C.prog (w.forCall tape i) .any w.heap.size f i /\
   (OpenSpec.ofChange s).preRow enc C.prog fn conds apart laid (w.forCall tape i).memory i.args/\a.holds C.prog (lone (Frame.enter C.prog f i.args .normal) [] (w.forCall tape i)))
  (T8:∀(W:World) (base:Nat) (args:Array Value) (ds gs:List (DataW H)) (before:List MemPlace),
   (∀(j:Nat) t v,fn.params[j]?=some t->args[j]?=some v->Value.okWide C.prog W .any base t v) ->
   DataW.Whole enc C.prog fn.params.toList s.vars apart W args.toList ds gs before ->
   laidMetH C.prog laid W->W.ShapedOpen C.prog ->
   ∃M last o w' t',runNT C.prog (M+1) (solo (G (Frame.enter C.prog f args .normal) []) W) #[]=(.ended o w',t')/\runN C.prog M (solo (G (Frame.enter C.prog f args .normal) []) W)=.next last /\
    step C.prog last=.ended o w'/\Conc.Good C.prog (fun v W'=>s.post enc C.prog fn apart fresh handsOn false W args v { W' with os:=W.os }/\OsLater W.os W'.os) last o w' t') :
  ReturnsInLeavingWide a C os f .any ((OpenSpec.ofChange s).preRow enc C.prog fn conds apart laid) ((OpenSpec.ofChange s).postWith enc C.prog fn F (outsideKept [.timePasses]) apart fresh handsOn):=by
 refine returnsInLeavingWide_of_good own started witness ?_;intro w tape i _ hsh _ hok hpre hholds;obtain⟨_,_,_,fn',hfn',_,_,_,_,hval⟩:=hok;have e:fn'=fn:=Option.some.inj (hfn'.symm.trans hfn);subst e;obtain⟨⟨hp,hl⟩,hz⟩:=hpre;obtain⟨ds,gs,before,hw,hc,hk⟩:=OpenSpec.pre_parts hp;have hw':=DataW.Whole.of_heap (w':=w.forCall tape i) (by rfl) hw;obtain⟨M,last,o,w',t',h1,h2,h3,h4⟩:=T8 (w.forCall tape i) w.heap.size i.args ds gs before hval hw' (hl.of_heap (by rfl)) hsh;obtain⟨v,e,hp,r1,r2,r3,r4⟩:=h4;exact⟨M,last,o,w',t',h1,h2,h3,v,e,postWith_blind (postWith_of_post hp.1 hp.2),r1,r2,r3,r4⟩
theorem T3 {C:Checked} {os:Os} {f:FuncId} {fn:Func} {s:OpenSpec} {conds:List PathCond} {apart:Bool} {laid:List (String × DataW Unit)} (w0:World) (args:Array Value) (hos:w0.os=os)
  (hv:(w0.forCall (fun _ _=>0) ⟨#[],args,[]⟩).variablesB C.prog=true)
  (hr:((w0.forCall (fun _ _=>0) ⟨#[],args,[]⟩).heap.toList.drop C.prog.globals.size).take ((begin C.prog (fun _ _=>0) default).world.heap.size - C.prog.globals.size) =
   (begin C.prog (fun _ _=>0) default).world.heap.toList.drop C.prog.globals.size)
  (hok:Input.okWideB C.prog (w0.forCall (fun _ _=>0) ⟨#[],args,[]⟩) f ⟨#[],args,[]⟩=true)
  (hrow:s.preRow enc C.prog fn conds apart laid (w0.forCall (fun _ _=>0) ⟨#[],args,[]⟩).memory args) :
  ∃(w:World) (tape:Tape) (i:Input),w.os=os/\(w.forCall tape i).Shaped C.prog/\i.vars=[]/\Input.okWide C.prog (w.forCall tape i) .any w.heap.size f i /\
   s.preRow enc C.prog fn conds apart laid (w.forCall tape i).memory i.args/\({ calm:=true }:Assume).holds C.prog (lone (Frame.enter C.prog f i.args .normal) [] (w.forCall tape i)) :=
 ⟨w0,fun _ _=>0,⟨#[],args,[]⟩,hos,World.shaped_of_B hv hr,(Input.okWide_of_okWideB (base:=0) hok).1,(Input.okWide_of_okWideB hok).2,hrow,by
  simp only[Assume.holds];exact⟨by simp,fun _ _ _ _=>rfl,by simp,by simp,by simp⟩⟩
end
theorem Aai (Lk:Looks) {p:Pinned} {s:OpenSpec} {c:OpenClaim} (kinds:List LaidKind) (tests:Bool) (har:Bool × String) (lk:Bool)
  (hc:c.holds p s) (hw:c.wfByText s=true) (htie:c.laidByTextAt Lk p kinds tests)
  (hst:c.start=.entering) (hnb:c.noBlocks=false/\c.again=false) (hm:p.checked.prog.mainIs=some (har.1,har.2.toList)) (hn:(!har.1&&har.2.isEmpty&&!lk)=false)
  (hl:∀f fn,p.checked.prog.funcNamed c.func=some f->p.checked.prog.funcs[f]?=some fn->lk=p.checked.prog.looks []/\∀(j:Nat) t,fn.params[j]?=some t->p.checked.prog.wantsStandIn t=false)
  (hg:true=c.goesBy p.checked.prog) :
  Claim7.holds p (.plain s) { stood:={ row:=c,standIns:=[],harness:=har,looks:=lk },kinds:=[],alts:=[],goes:=true,laidByText:=true,laidKinds:=kinds,laidTests:=tests,laidLooks:=Lk }:=by
 have h6:∀r:OpenClaim,Claim7.isSixth { stood:={ row:=r,standIns:=[],harness:=har,looks:=lk },kinds:=[] }=false:=fun r=>by simpa [Claim7.isSixth] using hn
 exact⟨Claim7.tied_new_at Lk kinds tests (Claim7.new_of_sixth hc har lk hst hnb hm (h6 c) hl) hw,(fun D hD=>(by cases hD)),htie,(fun h=>(by cases h)),hg⟩
def Sj (W:World):Ab:={ cnt:=1,hs:=W.heap.size,tag:=fun i=>if i=0 then .solo else .gone,deaf:=fun _=>0,bk:=fun _=>.priv 0,ow:=fun _ _=>some 0,next:=0,done:=fun _=>False,ph:=none,col:=none,gv:=fun _=>undef,gb:=fun _=>none,stp:=false,sk:=⟨fun _ _=>.off,fun _=>⟨false,false,false,0,0⟩,0,fun _=>False,false,fun _=>some 0⟩ }
theorem Ae7 (W:World):B3 (Sj W) W:=⟨rfl,rfl,rfl,rfl,rfl,fun _ _=>.inl rfl⟩
theorem Aix (ty:TypeId) (top:Nat) (W:World):Ae ty top (Sj W) W:=by
 have tg:∀i,i≠0->(Sj W).tag i=.gone:=fun i hi=>by
  show (if i=0 then B6.solo else B6.gone)=B6.gone;rw[if_neg hi]
 exact⟨rfl,Nat.le_refl _,(fun h=>by cases h),fun i hi=>tg i (by have hi':1<=i:=hi;omega),fun _ _=>⟨rfl,tg,fun _ _=>.inr (.inl rfl),fun _=>rfl⟩,(fun p h=>by cases h),(fun c h=>by cases h),(fun c h=>by cases h),(fun p c h=>by cases h),(fun p h=>by cases h),⟨(fun p h=>by cases h),fun c h=>by cases h⟩⟩
theorem Amn (W:World):Iq (Sj W) #[]:=by
 have no:∀i a,touchAt (#[]:Trace) i=some a->False:=fun i a h=>by
  obtain⟨x,hx,_⟩:=touch_of h;simp at hx
 refine⟨⟨fun i op x h=>(by simp at h),fun l _ _ i a h=>(no i a h).elim,fun l _ _ k _ i a h=>(no i a h).elim,fun said h=>?_,fun i a h=>(no i a h).elim,fun i op h=>(by simp at h)⟩,fun i=>rfl,fun op h=>(by simp at h),fun i a h=>(no i a h).elim,fun p h=>(by cases h),fun i h=>?_,(fun c h=>by cases h),fun c h=>by cases h⟩
 ·obtain⟨i,j,_,⟨a,b,h1,_⟩,_⟩:=h;simp[Trace.act?] at h1
 ·obtain⟨x,h1,_⟩:=h;simp[Trace.act?] at h1
theorem Ze:prog.globalNamed "hoard/sha.k"=some 0:=by kernel_rfl
theorem Amy:(prog.globals[0]?).map (·.type)=some 138:=by kernel_rfl
def Zy:List Int:=[1116352408,1899447441,3049323471,3921009573,961987163,1508970993,2453635748,2870763221,3624381080,310598401,607225278,1426881987,1925078388,2162078206,2614888103,3248222580,3835390401,4022224774,264347078,604807628,770255983,1249150122,1555081692,1996064986,2554220882,2821834349,2952996808,3210313671,3336571891,3584528711,113926993,338241895,666307205,773529912,1294757372,1396182291,1695183700,1986661051,2177026350,2456956037,2730485921,2820302411,3259730800,3345764771,3516065817,3600352804,4094571909,275423344,430227734,506948616,659060556,883997877,958139571,1322822218,1537002063,1747873779,1955562222,2024104815,2227730452,2361852424,2428436474,2756734187,3204031479,3329325298]
theorem Au5:Zy.map (Value.int .u32)=Sha.K.map Af:=by rfl
theorem At6 (i:Nat) (hi:i < 64):Value.int .u32 (Zy.getD i 0)=Af (Ac Sha.K i):=by
 have h:=congrArg (fun l=>l[i]?) Au5;simp only[List.getElem?_map] at h;have h1:Zy[i]?=some (Zy.getD i 0):=by rw[List.getD_eq_getElem?_getD,List.getElem?_eq_getElem (show i < Zy.length from hi)];rfl
 have h2:Sha.K[i]?=some (Ac Sha.K i):=by rw[Ac,List.getD_eq_getElem?_getD,List.getElem?_eq_getElem (show i < Sha.K.length from hi)];rfl
 rw[h1,h2] at h;exact Option.some.inj h
theorem Acw {W:World} (h:laidMetH prog [("hoard/sha.k",Rows.laid_hoard_sha_k)] W):C2 W:=by
 have ht:Lib.TabIs prog W "hoard/sha.k" .u32 Zy :=
  Lib.tabIs_of_head (rest:=[]) Ze Amy underlying138 underlying22 (by kernel_rfl) (by kernel_rfl) h
 intro i hi;rw[ht.cell Ze i hi,At6 i hi]
noncomputable def Sw (os:Os):World :=
 { World.holding prog os ⟨#[],#[],[]⟩ with heap:=(World.holding prog os ⟨#[],#[],[]⟩).heap.modify 0 fun
   | .cells _ t frozen=>.cells #[.int .u32 1116352408,.int .u32 1899447441,.int .u32 3049323471,.int .u32 3921009573,.int .u32 961987163,.int .u32 1508970993,.int .u32 2453635748,.int .u32 2870763221,.int .u32 3624381080,.int .u32 310598401,.int .u32 607225278,.int .u32 1426881987,.int .u32 1925078388,.int .u32 2162078206,.int .u32 2614888103,.int .u32 3248222580,.int .u32 3835390401,.int .u32 4022224774,.int .u32 264347078,.int .u32 604807628,.int .u32 770255983,.int .u32 1249150122,.int .u32 1555081692,.int .u32 1996064986,.int .u32 2554220882,.int .u32 2821834349,.int .u32 2952996808,.int .u32 3210313671,.int .u32 3336571891,.int .u32 3584528711,.int .u32 113926993,.int .u32 338241895,.int .u32 666307205,.int .u32 773529912,.int .u32 1294757372,.int .u32 1396182291,.int .u32 1695183700,.int .u32 1986661051,.int .u32 2177026350,.int .u32 2456956037,.int .u32 2730485921,.int .u32 2820302411,.int .u32 3259730800,.int .u32 3345764771,.int .u32 3516065817,.int .u32 3600352804,.int .u32 4094571909,.int .u32 275423344,.int .u32 430227734,.int .u32 506948616,.int .u32 659060556,.int .u32 883997877,.int .u32 958139571,.int .u32 1322822218,.int .u32 1537002063,.int .u32 1747873779,.int .u32 1955562222,.int .u32 2024104815,.int .u32 2227730452,.int .u32 2361852424,.int .u32 2428436474,.int .u32 2756734187,.int .u32 3204031479,.int .u32 3329325298] t frozen
   | o=>o }
end Go.Proofs.YtbicafgmfgdckaaGreatDoor
