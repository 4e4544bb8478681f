/- The arguments, as main holds them at the start. A row that leaves, with the clock and listed variables: its form, out of the run; the pact's start. For any program. What the program's own variable holds as a call begins, told to the walks; and a world that fits. -/
import Derived.Test.YtbicafgmfgdckaaDoorMgBk
import Derived.Test.YtbicafgmfgdckaaDoorMgBm
import Derived.Test.YtbicafgmfgdckaaDoorMgBd
import Derived.Conc.HoldsTime
import Derived.Conc.CrowdBase
import Derived.Stop.Joined
import Derived.Deep.DeepHandedRow
import Derived.SevenTiedAt
import Derived.Test.YtbicafgmfgdckaaDoorRows
import Derived.ProofKit
import Derived.Lib.LaidTab
namespace Go.Proofs.YtbicafgmfgdckaaDoor
open Go Go.RowKit Go.ChangeShapes Go.WideShapes Go.Deep Go.Conc

section
variable {H:Type} {enc:TypeId × Value->H} {w:World} {base:Nat} {held:Bool}
theorem choose_lt {α:Type} [Inhabited α] {n:Nat} {Q:Nat->α->Prop} (h:∀i,i < n->∃t,Q i t):∃f:Nat->α,∀i,i < n->Q i (f i):=by
 refine⟨fun i=>if hi:i < n then (h i hi).choose else default,fun i hi=>?_⟩
 simp only[dif_pos hi]
 exact(h i hi).choose_spec
def AllOwn (γ:Gho) (w:World):Prop:=∀b,b < w.heap.size->γ.S 0 b
theorem AllOwn.cells {γ:Gho} (h:AllOwn γ w) {b:Nat} {cs:Array Value} {t:TypeId} {fr:Nat × Nat} (hc:w.heap[b]?=some (.cells cs t fr)):ownT γ w b:=⟨h b (Array.getElem?_eq_some_iff.1 hc).1,cs,t,fr,hc⟩
theorem AllOwn.cell {γ:Gho} (h:AllOwn γ w) {ad:Addr} {v:Value} (hc:w.cell? ad=some v):ownT γ w ad.block:=by
 obtain⟨cs,t,fr,e⟩:=cells_of_cell hc
 exact h.cells e
set_option maxRecDepth 100000 in
theorem held_arg {r:Go.Reach} {b0:Nat} {t e:TypeId} {a:Option Addr} {len cap:Nat} (hu:Tryd.prog.underlying t=some (.slice e)) (hv:Value.okWide Tryd.prog w r b0 t (.slice a len cap)) {γ:Gho} (h:AllOwn γ w):Held γ w a:=by
 intro ad ea
 subst ea
 simp only[Value.okWide,hu,Cell.okWide,Cell.ok] at hv
 obtain⟨_,_,_,hsp,row,cells,hsh,_⟩:=hv
 refine⟨hsp,?_⟩
 unfold World.shape? at hsh
 cases hb:w.heap[ad.block]? with
 | none=>rw[hb] at hsh;cases hsh
 | some o =>
  rw[hb] at hsh
  cases o with
  | cells cs t fr=>exact h.cells hb
  | _=>cases hsh
theorem arg_text {n:Nat} {v:Value} {y:DataW H × List MemPlace} (h:DataW.trod enc Tryd.prog w base (fun _=>true) held n 44 [v]=some y):∃a cap l,v=.slice a (l:List (BitVec 8)).length cap/\Reads w a cap l/\∀ad,a=some ad->(ad.spot=none/\∃u,w.cell? ad=some u)\/cap=0:=by
 rcases open_ints Tryd.underlying44 Tryd.underlying5 (by kernel_rfl) h with⟨hcs,_⟩|⟨x,l,c,zs,hcs,_,hl,hm,hz,_,hcell,hwz⟩
 ·injection hcs with hcs
  exact⟨none,0,[],hcs,reads_nil w,fun ad e=>by cases e⟩
 ·injection hcs with hcs
  have hz':zs.length=c:=by simpa using hz
  have hr:IsRow .u8 w (some x) l c zs:=.inr ⟨x,rfl,hl,hm,hz',hcell,hwz⟩
  obtain⟨m,e,rd⟩:=hr.reads
  subst e
  refine⟨some x,c,m,hcs,rd,fun ad e=>?_⟩
  injection e with e
  subst e
  by_cases h0:c=0
  ·exact .inr h0
  ·left
   have h1:=hcell 0 (by omega)
   have e0:x.add 0=x:=by simp[Addr.add]
   rw[e0] at h1
   exact⟨by rw[spot_none h1],_,h1⟩
set_option maxRecDepth 100000 in
theorem arg_texts {r:Go.Reach} {b0:Nat} {v:Value} {d:DataW H} {p:List MemPlace} (hv:Value.okWide Tryd.prog w r b0 22 v) (h:DataW.Trod enc Tryd.prog w base (fun _=>true) held 22 v d p) :
  ∃a cap ls,v=.slice a (ls:Txts).length cap/\∀γ,AllOwn γ w->UserTexts γ w a cap ls:=by
 obtain⟨a,len,cap,rfl⟩:=okWide_slice Tryd.underlying22 hv
 obtain⟨fuel,hf⟩:=h
 rcases open_slice Tryd.underlying22 hf with⟨hcs,_⟩|⟨x,l,c,m,n,D,Pl,hcs,_,hl,hm,hmm,_,hi⟩
 ·injection hcs with hcs
  injection hcs with e1 e2 e3
  subst e1 e2 e3
  exact⟨none,0,[],rfl,fun γ hγ=>⟨⟨by simp,by omega,.inl rfl⟩,held_none,fun b off i x n c e=>by cases e⟩⟩
 ·injection hcs with hcs
  injection hcs with e1 e2 e3
  subst e1 e2 e3
  rw[if_pos rfl] at hmm
  have one:∀i,i < len->∃(t:List (BitVec 8)),∃ai ci,w.cell? (x.add i)=some (.slice ai t.length ci)/\Reads w ai ci t/\∀ad,ai=some ad->(ad.spot=none/\∃u,w.cell? ad=some u)\/ci=0:=by
   intro i hlt
   obtain⟨cs',h1,h2⟩:=hi i (by omega)
   have e1:Tryd.prog.cellsOf 44=1:=by kernel_rfl
   rw[e1,Nat.mul_one] at h1
   obtain⟨_,hcl,hat⟩:=World.cells?_some h1
   have hcl':cs'.length=1:=hcl
   match cs',hcl' with
   | [u],_ =>
    obtain⟨ai,ci,t,rfl,rd,q⟩:=arg_text h2
    refine⟨t,ai,ci,?_,rd,q⟩
    have:=hat 0 (by simp)
    simpa [Addr.add] using this
  obtain⟨f,hf⟩:=choose_lt one
  have hmx:maxLen=9223372036854775807:=rfl
  have e:∀i,i < len->txt ((List.range len).map f) i=f i:=fun i hi=>by simp[txt,List.getD_eq_getElem?_getD,hi]
  refine⟨some x,cap,(List.range len).map f,by simp,fun γ hγ=>⟨⟨by simpa using hl,by omega,?_⟩,?_,fun b off i x' n' c' e2 hlt hc=>?_⟩⟩
  ·by_cases h0:len=0
   ·left;subst h0;rfl
   ·right
    obtain⟨ai,ci,h1,_⟩:=hf 0 (by omega)
    have hx:=spot_none (x:=x) (by simpa [Addr.add] using h1)
    refine⟨x.block,x.off,by rw[<- hx],fun i hi=>?_⟩
    rw[List.length_map,List.length_range] at hi
    obtain⟨ai,ci,h1,h2,_⟩:=hf i hi
    rw[hx,Addr.add_lit] at h1
    rw[e i hi]
    exact⟨ai,ci,h1,h2⟩
  ·exact held_arg Tryd.underlying22 hv hγ
  ·rw[List.length_map,List.length_range] at hlt
   injection e2 with e2
   obtain⟨ai,ci,h1,h2,h3⟩:=hf i hlt
   rw[e2,Addr.add_lit] at h1
   rw[h1] at hc
   injection hc with hc
   injection hc with q1 q2 q3
   subst q1 q2 q3
   cases ai with
   | none=>exact .inl held_none
   | some ad =>
    rcases h3 ad rfl with⟨hs,u,hu⟩|h0
    ·exact .inl fun ad' ea=>by injection ea with ea;subst ea;exact⟨hs,hγ.cell hu⟩
    ·right
     have:=h2.fits
     exact⟨by omega,h0⟩
end
end Go.Proofs.YtbicafgmfgdckaaDoor
namespace Go.Proofs.YtbicafgmfgdckaaDoor
open Go Go.Conc Go.ConcM
section
variable {H:Type} {enc:TypeId × Value->H}
theorem returnsInLeavingWide_of_row_time {a:Assume} {C:Checked} {os:Os} {f:FuncId} {fn:Func} {s:ChangeSpec} {F:Stop.Interp} {conds:List PathCond} {apart fresh handsOn:Bool} {laid:List (String × DataW Unit)}
  (own:ownKnob C.prog.godebug=none) (started:os.Started) (hfn:C.prog.funcs[f]?=some fn)
  (witness:∃(w:World) (tape:Tape) (i:Input),w.os=os/\(w.forCall tape i).Shaped C.prog/\i.vars=[]/\Input.okWide C.prog (w.forCall tape i) .any w.heap.size f i /\
   (OpenSpec.ofChange s).preRow enc C.prog fn conds apart laid (w.forCall tape i).memory i.args/\a.holds C.prog (lone (Frame.enter C.prog f i.args .normal) [] (w.forCall tape i)))
  (runs:∀(W:World) (base:Nat) (args:Array Value) (ds gs:List (DataW H)) (before:List MemPlace),
   (∀(j:Nat) t v,fn.params[j]?=some t->args[j]?=some v->Value.okWide C.prog W .any base t v) ->
   DataW.Whole enc C.prog fn.params.toList s.vars apart W args.toList ds gs before ->
   laidMetH C.prog laid W->W.ShapedOpen C.prog ->
   ∃M last o w' t',runNT C.prog (M+1) (solo (G (Frame.enter C.prog f args .normal) []) W) #[]=(.ended o w',t')/\runN C.prog M (solo (G (Frame.enter C.prog f args .normal) []) W)=.next last /\
    step C.prog last=.ended o w'/\Conc.Good C.prog (fun v W'=>s.post enc C.prog fn apart fresh handsOn false W args v { W' with os:=W.os }/\OsLater W.os W'.os) last o w' t') :
  ReturnsInLeavingWide a C os f .any ((OpenSpec.ofChange s).preRow enc C.prog fn conds apart laid) ((OpenSpec.ofChange s).postWith enc C.prog fn F (outsideKept [.timePasses]) apart fresh handsOn):=by
 refine returnsInLeavingWide_of_good own started witness ?_
 intro w tape i _ hsh _ hok hpre hholds
 obtain⟨_,_,_,fn',hfn',_,_,_,_,hval⟩:=hok
 have e:fn'=fn:=Option.some.inj (hfn'.symm.trans hfn)
 subst e
 obtain⟨⟨hp,hl⟩,hz⟩:=hpre
 obtain⟨ds,gs,before,hw,hc,hk⟩:=OpenSpec.pre_parts hp
 have hw':=DataW.Whole.of_heap (w':=w.forCall tape i) (by rfl) hw
 obtain⟨M,last,o,w',t',h1,h2,h3,h4⟩:=runs (w.forCall tape i) w.heap.size i.args ds gs before hval hw' (hl.of_heap (by rfl)) hsh
 obtain⟨v,e,hp,r1,r2,r3,r4⟩:=h4
 exact⟨M,last,o,w',t',h1,h2,h3,v,e,postWith_blind (postWith_of_post hp.1 hp.2),r1,r2,r3,r4⟩
theorem witness_calm_at {C:Checked} {os:Os} {f:FuncId} {fn:Func} {s:OpenSpec} {conds:List PathCond} {apart:Bool} {laid:List (String × DataW Unit)} (w0:World) (args:Array Value) (hos:w0.os=os)
  (hv:(w0.forCall (fun _ _=>0) ⟨#[],args,[]⟩).variablesB C.prog=true)
  (hr:((w0.forCall (fun _ _=>0) ⟨#[],args,[]⟩).heap.toList.drop C.prog.globals.size).take ((begin C.prog (fun _ _=>0) default).world.heap.size - C.prog.globals.size) =
   (begin C.prog (fun _ _=>0) default).world.heap.toList.drop C.prog.globals.size)
  (hok:Input.okWideB C.prog (w0.forCall (fun _ _=>0) ⟨#[],args,[]⟩) f ⟨#[],args,[]⟩=true)
  (hrow:s.preRow enc C.prog fn conds apart laid (w0.forCall (fun _ _=>0) ⟨#[],args,[]⟩).memory args) :
  ∃(w:World) (tape:Tape) (i:Input),w.os=os/\(w.forCall tape i).Shaped C.prog/\i.vars=[]/\Input.okWide C.prog (w.forCall tape i) .any w.heap.size f i /\
   s.preRow enc C.prog fn conds apart laid (w.forCall tape i).memory i.args/\({ calm:=true }:Assume).holds C.prog (lone (Frame.enter C.prog f i.args .normal) [] (w.forCall tape i)) :=
 ⟨w0,fun _ _=>0,⟨#[],args,[]⟩,hos,World.shaped_of_B hv hr,(Input.okWide_of_okWideB (base:=0) hok).1,(Input.okWide_of_okWideB hok).2,hrow,by
  simp only[Assume.holds]
  exact⟨by simp,fun _ _ _ _=>rfl,by simp,by simp,by simp⟩⟩
end
theorem tied_goes_at (Lk:Looks) {p:Pinned} {s:OpenSpec} {c:OpenClaim} (kinds:List LaidKind) (tests:Bool) (har:Bool × String) (lk:Bool)
  (hc:c.holds p s) (hw:c.wfByText s=true) (htie:c.laidByTextAt Lk p kinds tests)
  (hst:c.start=.entering) (hnb:c.noBlocks=false/\c.again=false) (hm:p.checked.prog.mainIs=some (har.1,har.2.toList)) (hn:(!har.1&&har.2.isEmpty&&!lk)=false)
  (hl:∀f fn,p.checked.prog.funcNamed c.func=some f->p.checked.prog.funcs[f]?=some fn->lk=p.checked.prog.looks []/\∀(j:Nat) t,fn.params[j]?=some t->p.checked.prog.wantsStandIn t=false)
  (hg:true=c.goesBy p.checked.prog) :
  Claim7.holds p (.plain s) { stood:={ row:=c,standIns:=[],harness:=har,looks:=lk },kinds:=[],alts:=[],goes:=true,laidByText:=true,laidKinds:=kinds,laidTests:=tests,laidLooks:=Lk }:=by
 have h6:∀r:OpenClaim,Claim7.isSixth { stood:={ row:=r,standIns:=[],harness:=har,looks:=lk },kinds:=[] }=false:=fun r=>by simpa [Claim7.isSixth] using hn
 exact⟨Claim7.tied_new_at Lk kinds tests (Claim7.new_of_sixth hc har lk hst hnb hm (h6 c) hl) hw,(fun D hD=>(by cases hD)),htie,(fun h=>(by cases h)),hg⟩
def startG (W:World):Gho:={ cnt:=1,hs:=W.heap.size,tag:=fun i=>if i=0 then .solo else .gone,deaf:=fun _=>0,bk:=fun _=>.priv 0,ow:=fun _ _=>some 0,next:=0,done:=fun _=>False,ph:=none,col:=none,gv:=fun _=>undef,gb:=fun _=>none,stp:=false,sk:=⟨fun _ _=>.off,fun _=>⟨false,false,false,0,0⟩,0,fun _=>False,false,fun _=>some 0⟩ }
theorem start_solo (W:World):Solo (startG W) W:=⟨rfl,rfl,rfl,rfl,rfl,fun _ _=>.inl rfl⟩
theorem start_inv (ty:TypeId) (top:Nat) (W:World):GInv ty top (startG W) W:=by
 have tg:∀i,i≠0->(startG W).tag i=.gone:=fun i hi=>by
  show (if i=0 then Tag.solo else Tag.gone)=Tag.gone
  rw[if_neg hi]
 exact⟨rfl,Nat.le_refl _,(fun h=>by cases h),fun i hi=>tg i (by have hi':1<=i:=hi;omega),fun _ _=>⟨rfl,tg,fun _ _=>.inr (.inl rfl),fun _=>rfl⟩,(fun p h=>by cases h),(fun c h=>by cases h),(fun c h=>by cases h),(fun p c h=>by cases h),(fun p h=>by cases h),⟨(fun p h=>by cases h),fun c h=>by cases h⟩⟩
theorem start_tr (W:World):GTr (startG W) #[]:=by
 have no:∀i a,touchAt (#[]:Trace) i=some a->False:=fun i a h=>by
  obtain⟨x,hx,_⟩:=touch_of h
  simp at hx
 refine⟨⟨fun i op x h=>(by simp at h),fun l _ _ i a h=>(no i a h).elim,fun l _ _ k _ i a h=>(no i a h).elim,fun said h=>?_,fun i a h=>(no i a h).elim,fun i op h=>(by simp at h)⟩,fun i=>rfl,fun op h=>(by simp at h),fun i a h=>(no i a h).elim,fun p h=>(by cases h),fun i h=>?_,(fun c h=>by cases h),fun c h=>by cases h⟩
 ·obtain⟨i,j,_,⟨a,b,h1,_⟩,_⟩:=h
  simp[Trace.act?] at h1
 ·obtain⟨x,h1,_⟩:=h
  simp[Trace.act?] at h1
end Go.Proofs.YtbicafgmfgdckaaDoor
namespace Go.Proofs.YtbicafgmfgdckaaDoor
open Go Go.RowKit

theorem shaKNamed:Tryd.prog.globalNamed "hoard/sha.k"=some 0:=by kernel_rfl
theorem shaKType:(Tryd.prog.globals[0]?).map (·.type)=some 108:=by kernel_rfl
def kInts:List Int:=[1116352408,1899447441,3049323471,3921009573,961987163,1508970993,2453635748,2870763221,3624381080,310598401,607225278,1426881987,1925078388,2162078206,2614888103,3248222580,3835390401,4022224774,264347078,604807628,770255983,1249150122,1555081692,1996064986,2554220882,2821834349,2952996808,3210313671,3336571891,3584528711,113926993,338241895,666307205,773529912,1294757372,1396182291,1695183700,1986661051,2177026350,2456956037,2730485921,2820302411,3259730800,3345764771,3516065817,3600352804,4094571909,275423344,430227734,506948616,659060556,883997877,958139571,1322822218,1537002063,1747873779,1955562222,2024104815,2227730452,2361852424,2428436474,2756734187,3204031479,3329325298]
theorem k_map:kInts.map (Value.int .u32)=Sha.K.map U32:=by rfl
theorem k_ints (i:Nat) (hi:i < 64):Value.int .u32 (kInts.getD i 0)=U32 (wordAt Sha.K i):=by
 have h:=congrArg (fun l=>l[i]?) k_map
 simp only[List.getElem?_map] at h
 have h1:kInts[i]?=some (kInts.getD i 0):=by rw[List.getD_eq_getElem?_getD,List.getElem?_eq_getElem (show i < kInts.length from hi)];rfl
 have h2:Sha.K[i]?=some (wordAt Sha.K i):=by rw[wordAt,List.getD_eq_getElem?_getD,List.getElem?_eq_getElem (show i < Sha.K.length from hi)];rfl
 rw[h1,h2] at h
 exact Option.some.inj h
theorem sha_of_laid {W:World} (h:laidMetH Tryd.prog [("hoard/sha.k",Rows.laid_hoard_sha_k)] W):KTab W:=by
 have ht:Lib.TabIs Tryd.prog W "hoard/sha.k" .u32 kInts :=
  Lib.tabIs_of_head (rest:=[]) shaKNamed shaKType Tryd.underlying108 Tryd.underlying52 (by kernel_rfl) (by kernel_rfl) h
 intro i hi
 rw[ht.cell shaKNamed i hi,k_ints i hi]
noncomputable def laidWorld (os:Os):World :=
 { World.holding Tryd.prog os ⟨#[],#[],[]⟩ with heap:=(World.holding Tryd.prog os ⟨#[],#[],[]⟩).heap.modify 0 fun
   | .cells _ t frozen=>.cells #[.int .u32 1116352408,.int .u32 1899447441,.int .u32 3049323471,.int .u32 3921009573,.int .u32 961987163,.int .u32 1508970993,.int .u32 2453635748,.int .u32 2870763221,.int .u32 3624381080,.int .u32 310598401,.int .u32 607225278,.int .u32 1426881987,.int .u32 1925078388,.int .u32 2162078206,.int .u32 2614888103,.int .u32 3248222580,.int .u32 3835390401,.int .u32 4022224774,.int .u32 264347078,.int .u32 604807628,.int .u32 770255983,.int .u32 1249150122,.int .u32 1555081692,.int .u32 1996064986,.int .u32 2554220882,.int .u32 2821834349,.int .u32 2952996808,.int .u32 3210313671,.int .u32 3336571891,.int .u32 3584528711,.int .u32 113926993,.int .u32 338241895,.int .u32 666307205,.int .u32 773529912,.int .u32 1294757372,.int .u32 1396182291,.int .u32 1695183700,.int .u32 1986661051,.int .u32 2177026350,.int .u32 2456956037,.int .u32 2730485921,.int .u32 2820302411,.int .u32 3259730800,.int .u32 3345764771,.int .u32 3516065817,.int .u32 3600352804,.int .u32 4094571909,.int .u32 275423344,.int .u32 430227734,.int .u32 506948616,.int .u32 659060556,.int .u32 883997877,.int .u32 958139571,.int .u32 1322822218,.int .u32 1537002063,.int .u32 1747873779,.int .u32 1955562222,.int .u32 2024104815,.int .u32 2227730452,.int .u32 2361852424,.int .u32 2428436474,.int .u32 2756734187,.int .u32 3204031479,.int .u32 3329325298] t frozen
   | o=>o }
end Go.Proofs.YtbicafgmfgdckaaDoor
