/- The crew's pact: a feeder, workers, a WaitGroup, a channel of jobs; the jobs fill a block place by place (fill), or look for something (seek), or are handed to main, who collects them (hand): the ghost, what holds of it, what each may count on. For any program. The crew's pact: its laws, the first. For any program. The crew's pact: steps of a goroutine's own. For any program. The crew's pact: own steps are within it; idle ones; those of who leaves. For any program. The crew's pact: communications; nobody is left waiting. For any program. The crew's pact: what a worker hands passes to main. For any program. The crew's pact is a pact. For any program. -/
import Derived.Test.YtbicafgmfgdckaaDoorMgAa
import Derived.Test.YtbicafgmfgdckaaDoorMgAb
import Derived.Test.YtbicafgmfgdckaaDoorMgAg
import Derived.Conc.CrowdBase
import Derived.Conc.CrowdCom2
namespace Go.Proofs.YtbicafgmfgdckaaDoor
open Go Go.Conc
open Go.ConcR (KK wgBlock WgAt stA smA)
open Go.ConcN (sumTo upd RelBy PermW WgLive)

inductive Tag where
 | solo|gone|coll|pre|fin|add (j p:Nat) | feed|shut|reg|thru
 | idle|busy (x:Nat) | give (x:Nat) | out|rel|last (k:Nat)
 deriving DecidableEq
inductive BK where
 | priv (i:Nat) | shd (say:Nat) | fix (m:Nat) | mix|lock
 deriving DecidableEq
inductive Kind where
 | fill|seek|hand
 deriving DecidableEq
structure Ph where
 f:Nat
 b:Nat
 W:Nat
 n:Nat
 wg:Nat
 jobs:Nat
 stop:Nat
 out:Nat
 oty:TypeId
 H:Nat->Option Obj
 val:Nat->Nat->Value
 kind:Kind
 once:Nat
 onty:TypeId
 hit:Nat->Prop
structure Sk where
 ml:Nat->Nat->ML
 mw:Nat->MW
 left:Nat
 took:Nat->Prop
 od:Bool
 lo:Nat->Option Nat
def Sk.V (s:Sk) (p:Ph) (m:Nat):Nat:=6 * s.left+mN ML.wt p.b p.W (s.ml m)+(s.mw m).q
structure Col where
 f:Nat
 W:Nat
 dn:Nat
 n:Nat
 H:Nat->Option Obj
 good:Nat->Value->Option (Nat × Obj)->Prop
structure Gho where
 cnt:Nat
 hs:Nat
 tag:Nat->Tag
 deaf:Nat->Nat
 bk:Nat->BK
 ow:Nat->Nat->Option Nat
 next:Nat
 done:Nat->Prop
 ph:Option Ph
 col:Option Col
 gv:Nat->Value
 gb:Nat->Option Nat
 stp:Bool
 sk:Sk
def blk:Loc->Nat
 | .cell a=>a.block
 | .obj r=>r
 | _=>0
def Gho.lo (γ:Gho):Option Nat:=match γ.col with
 | some c=>some c.f
 | none=>γ.ph.map (·.b)
def Gho.S (γ:Gho) (i:Nat) (b:Nat):Prop:=b < γ.hs/\γ.bk b=.priv i
def Gho.F (γ:Gho) (i:Nat) (b:Nat):Prop:=b < γ.hs/\∃m,m<=i/\γ.bk b=.fix m
def Gho.mixAt (γ:Gho):Loc->Option Nat
 | .cell a=>γ.ow a.block a.off
 | _=>some 0
def Gho.live (γ:Gho) (k:Nat) (l:Loc):Prop:=k < γ.cnt/\γ.tag k≠.gone/\∀m,γ.bk (blk l)=.fix m->m<=k
def lockSh:Loc->Prop
 | .cell a=>a.off < 2
 | _=>False
def Gho.wh (γ:Gho):Wh where
 sh:=fun l=>(∃s,γ.bk (blk l)=.shd s)\/(γ.bk (blk l)=.mix/\γ.mixAt l=none)\/(γ.bk (blk l)=.lock/\lockSh l)
 say:=fun l=>match γ.bk (blk l) with
  | .shd s=>s
  | _=>0
 ro:=fun l=>∃m,γ.bk (blk l)=.fix m
 own:=fun l=>match γ.bk (blk l) with
  | .priv i=>some i
  | .mix=>some ((γ.mixAt l).getD 0)
  | .lock=>γ.sk.lo (blk l)
  | _=>some 0
 lk:=fun l=>⟨blk l,0,none⟩
 live:=γ.live
def Tag.closed:Tag->Bool
 | .shut | .reg | .thru=>true
 | _=>false
def Tag.ended:Tag->Bool
 | .gone=>true
 | _=>false
def Tag.feeds:Tag->Prop
 | .add _ _ | .feed | .shut | .reg | .thru=>True
 | _=>False
def Tag.works:Tag->Prop
 | .gone | .idle | .busy _ | .give _ | .out | .rel | .last _=>True
 | _=>False
def Tag.early:Tag->Prop
 | .idle | .busy _ | .give _=>True
 | _=>False
def Tag.said:Tag->Prop
 | .rel | .last _ | .gone=>True
 | _=>False
def Tag.tied:Tag->Prop
 | .rel | .last _ | .gone | .give _=>True
 | _=>False
theorem Tag.tied_of_said {x:Tag} (h:x.said):x.tied:=by cases x<;>first|exact h|exact h.elim
def Tag.cw:Tag->Nat
 | .idle | .busy _ | .give _ | .out | .rel=>1
 | _=>0
def Tag.pend:Tag->Nat
 | .add _ p=>p
 | _=>0
def Tag.open_:Tag->Prop
 | .add _ _ | .feed | .shut=>True
 | _=>False
def Tag.lasts:Tag->Prop
 | .last _=>True
 | _=>False
def Tag.at_ (t:Tag) (x:Nat):Prop:=t=.busy x\/t=.give x
def Gho.started (γ:Gho) (p:Ph):Nat:=match γ.tag p.f with
 | .add j _=>j
 | _=>p.W
def vcT (tag:Nat->Tag) (p:Ph):Nat:=sumTo p.W fun j=>(tag (p.b+j)).cw
def Gho.vc (γ:Gho) (p:Ph):Nat:=vcT γ.tag p
inductive WMode (tag:Nat->Tag) (p:Ph):Int->Int->Prop
 | opn:(tag p.f).open_->(∀i,p.b<=i->¬(tag i).lasts)->WMode tag p (((vcT tag p+(tag p.f).pend:Nat):Int) * KK) 0
 | reg:tag p.f=.reg->(∀i,p.b<=i->¬(tag i).lasts)->1<=vcT tag p->WMode tag p (((vcT tag p:Nat):Int) * KK+1) 0
 | last (L k:Nat):tag p.f=.reg->p.b<=L->tag L=.last k->(∀i,p.b<=i->i≠L->tag i=.gone)->WMode tag p (if k=1 then 0 else 1) 0
 | sema:tag p.f=.reg->(∀i,p.b<=i->tag i=.gone)->WMode tag p 0 1
 | fin:tag p.f=.thru->(∀i,p.b<=i->tag i=.gone)->WMode tag p 0 0
structure FillI (γ:Gho) (p:Ph) (w:World):Prop where
 bout:γ.bk p.out=.mix
 out:∃cs,w.heap[p.out]?=some (.cells cs p.oty (0,0))/\cs.size=32 * p.n/\∀x,x < p.n->γ.done x->∀o,o < 32->cs[32 * x+o]?=some (p.val x o)
 busy:∀i x,γ.tag i=.busy x->∀o,o < 32->γ.ow p.out (32 * x+o)=some i
 mine:∀x,γ.next<=x->∀o,o < 32->γ.ow p.out (32 * x+o)=some p.f
 owm:∀o,γ.ow p.out o≠none
 mixo:∀b,b < γ.hs->γ.bk b=.mix->b=p.out
 nog:∀i x,γ.tag i≠.give x
def BestV (took:Nat->Prop) (v:Int):Prop:=(v=-1/\∀x,¬took x)\/∃y:Nat,v=y/\took y/\∀x,took x->y<=x
structure SeekI (γ:Gho) (p:Ph) (w:World):Prop where
 bout:γ.bk p.out=.lock
 bonce:γ.bk p.once=.shd p.f
 ne:p.once≠p.wg/\p.once≠p.jobs/\p.once≠p.stop
 W:p.W<=16
 best:∃v:Int,w.heap[p.out]?=some (.cells #[.int .i32 ((γ.sk.mw 0).code:Nat),.int .u32 ((γ.sk.mw 0).q:Nat),.int .i64 v] p.oty (0,0))/\BestV γ.sk.took v
 once:w.heap[p.once]?=some (.cells #[.int .u32 (if γ.sk.od then 1 else 0),.int .i32 ((γ.sk.mw 1).code:Nat),.int .u32 ((γ.sk.mw 1).q:Nat)] p.onty (0,0))
 mi:∀m,m < 2->MuI p.b p.W (γ.sk.ml m) (γ.sk.mw m)
 busy:∀m i,m < 2->γ.sk.ml m i≠.off->∃x,γ.tag i=.busy x
 left:γ.sk.left+γ.next=p.n
 lo1:∀i,γ.sk.ml 0 i=.own 1->γ.sk.lo p.out=some i
 lo0:(∀i,γ.sk.ml 0 i≠.own 1)->γ.sk.lo p.out=none
 two:∀i,γ.sk.ml 0 i=.off\/γ.sk.ml 0 i=.fresh\/γ.sk.ml 1 i=.off\/γ.sk.ml 1 i=.fresh
 took:∀x,γ.sk.took x->p.hit x/\x < γ.next
 done:∀x,γ.done x->p.hit x->γ.sk.took x
 stp:γ.stp=true->∃x,γ.sk.took x
 od0:γ.sk.od=false->γ.stp=true->∃i,γ.sk.ml 1 i=.own 2
 od1:γ.sk.od=true->γ.stp=true
 nogive:∀i x,γ.tag i≠.give x
def BusyI (γ:Gho) (i x:Nat):Prop:=x < γ.next/\¬γ.done x/\∀j,(γ.tag j).at_ x->j=i
def BusyA (γ:Gho):Prop:=(∀i x,(γ.tag i).at_ x->BusyI γ i x)/\∀x,γ.done x->x < γ.next
theorem BusyA.of {γ γ':Gho} (h:BusyA γ) (ht:∀k z,(γ'.tag k).at_ z->(γ.tag k).at_ z) (hn:γ'.next=γ.next) (hd:∀z,γ'.done z↔γ.done z):BusyA γ' :=
 ⟨fun i x e=>by
  obtain⟨h1,h2,h3⟩:=h.1 i x (ht i x e)
  exact⟨by rw[hn];exact h1,fun q=>h2 ((hd x).1 q),fun j q=>h3 j (ht j x q)⟩,fun x q=>by rw[hn];exact h.2 x ((hd x).1 q)⟩
structure Core (ty:TypeId) (γ:Gho) (p:Ph) (w:World):Prop where
 bwg:γ.bk p.wg=.shd p.f
 bjobs:γ.bk p.jobs=.shd p.f
 bstop:γ.bk p.stop=.shd p.f
 ne:p.jobs≠p.wg/\p.stop≠p.wg/\p.jobs≠p.stop
 fix:∀b m,b < γ.hs->γ.bk b=.fix m->w.heap[b]?=p.H b
 fixm:∀b m,b < γ.hs->γ.bk b=.fix m->m<=p.f
 fd:p.f < p.b
 ftag:(γ.tag p.f).feeds
 cnt:γ.cnt=p.b+γ.started p
 add:∀j q,γ.tag p.f=.add j q->j<=p.W/\(q=0\/(q=1/\j < p.W))/\γ.next=0
 rest:∀i,i≠p.f->i < p.b->i≠0->γ.tag i=.gone
 wtag:∀i,p.b<=i->(γ.tag i).works
 early:(γ.tag p.f).closed=false->∀i,p.b<=i->i < γ.cnt->(γ.tag i).early
 wgm:∃st sm,WgAt ty p.wg w st sm/\WMode γ.tag p st sm
 jobs:∃s,w.heap[p.jobs]?=some (.chan 0 #[] (γ.tag p.f).closed s s false)
 stop:w.heap[p.stop]?=some (.chan 0 #[] γ.stp 0 0 false)
 stpk:p.kind≠.seek->γ.stp=false
 job:∀x,x < γ.next->γ.done x\/∃i,p.b<=i/\(γ.tag i).at_ x
 nle:γ.next<=p.n
 full:(γ.tag p.f).closed=true->γ.next=p.n\/γ.stp=true
 busy:BusyA γ
 hear:∀i,γ.tag i=.idle\/γ.tag i=.feed->γ.deaf i=0
 small:p.W < 2147483647
 pos:1<=p.W
 fill:p.kind=.fill->FillI γ p w
 seek:p.kind=.seek->SeekI γ p w
 nomix:p.kind≠.fill->∀b,b < γ.hs->γ.bk b≠.mix
structure HandOk (γ:Gho) (w:World) (c:Col) (i x:Nat):Prop where
 deaf:γ.deaf i=0
 good:∃ob,c.good x (γ.gv i) ob/\match γ.gb i with
  | none=>ob=none
  | some B=>B < γ.hs/\γ.bk B=.priv i/\∃o,w.heap[B]?=some o/\ob=some (B,o)
structure Coll (γ:Gho) (w:World) (c:Col):Prop where
 tag0:γ.tag 0=.coll
 f:0 < c.f/\c.f < γ.cnt/\γ.cnt<=c.f+1+c.W
 bdn:γ.bk c.dn=.shd 0
 dn:∃s,w.heap[c.dn]?=some (.chan 0 #[] (γ.tag c.f).ended s s false)
 fix:∀b,b < γ.hs->γ.bk b=.fix 0->w.heap[b]?=c.H b
 deaf:γ.deaf 0=0
 give:∀i x,γ.tag i=.give x->HandOk γ w c i x
structure Lull (γ:Gho) (c:Col):Prop where
 rest:∀i,i≠0->i≠c.f->γ.tag i=.gone
 at_:(γ.tag c.f=.pre/\∀x,¬γ.done x)\/((γ.tag c.f=.fin\/γ.tag c.f=.gone)/\∀x,x < c.n->γ.done x)
 nomix:∀b,b < γ.hs->γ.bk b≠.mix
 top:γ.tag c.f=.pre->γ.cnt=c.f+1/\∀b m,b < γ.hs->γ.bk b=.fix m->m=0
structure GInv (ty:TypeId) (top:Nat) (γ:Gho) (w:World):Prop where
 hs:γ.hs=w.heap.size
 cnt:1<=γ.cnt
 main:γ.tag 0≠.gone
 un:∀i,γ.cnt<=i->γ.tag i=.gone
 free:γ.ph=none->γ.col=none->γ.tag 0=.solo/\(∀i,i≠0->γ.tag i=.gone)/\(∀b,b < γ.hs->(∃s,γ.bk b=.shd s)\/γ.bk b=.priv 0\/γ.bk b=.lock)/\∀b,γ.sk.lo b=some 0
 core:∀p,γ.ph=some p->Core ty γ p w
 coll:∀c,γ.col=some c->Coll γ w c
 lull:∀c,γ.col=some c->γ.ph=none->Lull γ c
 mate:∀p c,γ.ph=some p->γ.col=some c->p.f=c.f/\p.kind=.hand/\p.n=c.n/\p.b=c.f+1/\p.W<=c.W
 alone:∀p,γ.ph=some p->γ.col=none->p.f=0/\p.kind≠.hand
 top:(∀p,γ.ph=some p->p.b+p.W<=top)/\∀c,γ.col=some c->c.f+1+c.W<=top
structure GTr (γ:Gho) (t:Trace):Prop where
 d:DTr γ.wh t γ.cnt
 deaf:∀i,Deaf t i=γ.deaf i
 nrel:NoRel t
 low:∀i a,touchAt t i=some a->blk a.loc < γ.hs
 rel:∀p,γ.ph=some p->∀k,p.b<=k->k < γ.cnt->(γ.tag k).said->∃r,RelBy (stA p.wg) t k r
 old:∀i,t.counts i->Knows t 0 i\/∃lo,γ.lo=some lo/\∃k,lo<=k/\t.g? i=some k
 fin:∀c,γ.col=some c->γ.ph=none->γ.tag c.f=.fin->∀i,t.counts i->Knows t 0 i\/Knows t c.f i
 shut:∀c,γ.col=some c->γ.ph=none->γ.tag c.f=.gone->∃q,t.act? q=some (.close c.dn)/\t.heard q/\∀i,t.counts i->Knows t 0 i\/Before t i q
def Gho.nc (γ:Gho) (i:Nat):Prop:=i≠0\/γ.col=none
def Gho.on (γ:Gho) (i:Nat) (p:Ph):Prop:=γ.ph=some p/\(i≠0\/p.f=0)
structure SkRel (i:Nat) (p:Ph) (γ:Gho) (w:World) (γ2:Gho) (w2:World):Prop where
 v:∀m,m < 2->γ2.sk.V p m<=γ.sk.V p m/\((γ2.sk.mw m).code=(γ.sk.mw m).code\/γ2.sk.V p m < γ.sk.V p m)
 hand:∀m,m < 2->γ.sk.ml m i=.hand->(γ.sk.mw m).w<=(γ2.sk.mw m).w
 at_:γ.sk.ml 0 i=.own 1->w2.cell? ⟨p.out,2,none⟩=w.cell? ⟨p.out,2,none⟩/\∀x,γ2.sk.took x↔γ.sk.took x
 od:∀k,γ.sk.ml 1 i=.own k->γ2.sk.od=γ.sk.od/\γ2.stp=γ.stp
 took:∀x,γ.sk.took x->γ2.sk.took x
structure RelL (i:Nat) (γ:Gho) (w:World) (γ2:Gho) (w2:World):Prop where
 hs:γ.hs<=γ2.hs
 bk:∀b,b < γ.hs->(∀j,j≠i->γ.bk b≠.priv j)->γ2.bk b=γ.bk b
 bk2:∀b,b < γ2.hs->γ2.bk b=.priv i->b < γ.hs/\γ.bk b=.priv i
 keep:∀b,b < γ.hs->(γ.bk b=.priv i\/∃m,m<=i/\γ.bk b=.fix m)->w2.heap[b]?=w.heap[b]?
 tape:w2.tape=w.tape
 ph:∀p,γ.on i p->γ2.ph=some p
 pn:γ.ph=none->γ.nc i->γ2.ph=none
 col:γ2.col=γ.col
 feed:∀p,γ.on i p->p.f=i->γ2.next=γ.next/\γ2.vc p<=γ.vc p
 still:i=0->γ.col=none->γ.ph=none->w2.heap=w.heap/\γ2.hs=γ.hs/\γ2.cnt=γ.cnt
 pre:i≠0->∀c,γ.col=some c->c.f=i->γ.ph=none->(∀b,b < γ.hs->γ.bk b=.shd i->w2.heap[b]?=w.heap[b]?)/\γ2.cnt=γ.cnt
 next:∀p,γ.on i p->γ.next<=γ2.next
 done:i=0->γ.col≠none->∀x,γ2.done x↔γ.done x
 stp:∀p,γ.on i p->γ.stp=true->γ2.stp=true
 ml:∀m,γ2.sk.ml m i=γ.sk.ml m i
 sk:∀p,γ.on i p->p.kind=.seek->SkRel i p γ w γ2 w2
structure Rel (i:Nat) (γ:Gho) (w:World) (γ2:Gho) (w2:World):Prop where
 tag:γ2.tag i=γ.tag i
 deaf:γ2.deaf i=γ.deaf i
 gv:γ2.gv i=γ.gv i/\γ2.gb i=γ.gb i
 live:γ.tag i≠.gone->RelL i γ w γ2 w2
def Gho.setTag (γ:Gho) (i:Nat) (t:Tag):Gho:={ γ with tag:=upd γ.tag i t }
def Gho.setDeaf (γ:Gho) (i:Nat) (d:Nat):Gho:={ γ with deaf:=upd γ.deaf i d }
def Gho.pass (γ:Gho) (p:Ph) (i:Nat):Gho:={ γ with tag:=upd γ.tag i (.busy γ.next),next:=γ.next+1,ow:=fun b o=>if p.kind=.fill/\b=p.out/\o / 32=γ.next then some i else γ.ow b o,sk:={ γ.sk with ml:=fun m k=>if k=i then .fresh else γ.sk.ml m k,left:=γ.sk.left - 1 } }
def Gho.taken (γ:Gho) (i x:Nat):Gho:={ γ with tag:=upd γ.tag i .idle,done:=fun z=>γ.done z\/z=x,bk:=fun b=>if γ.gb i=some b then .priv 0 else γ.bk b }
def Gho.home (γ:Gho):Gho:={ γ with tag:=upd γ.tag 0 .solo,col:=none,sk:={ γ.sk with lo:=fun _=>some 0 },bk:=fun b=>match γ.bk b with
  | .shd s=>.shd s
  | .lock=>.lock
  | _=>.priv 0 }
inductive GWait (ty:TypeId) (i:Nat) (γ:Gho) (w:World):Prop
 | wg (p:Ph) (st:Int):γ.ph=some p->i=p.f->γ.tag i=.reg->WgAt ty p.wg w st 0->GWait ty i γ w
 | que (p:Ph) (m:Nat):γ.ph=some p->p.kind=.seek->m < 2->γ.sk.ml m i=.que->(γ.sk.mw m).q=0->GWait ty i γ w
inductive GOffer (i:Nat) (γ:Gho) (cases:Array CommCase) (b:Bool):Prop
 | idle (p:Ph) (z:Value):γ.ph=some p->p.b<=i->γ.tag i=.idle->b=true->cases=#[rcase p.jobs z]->GOffer i γ cases b
 | peek (p:Ph) (z:Value):γ.ph=some p->i=p.f->γ.tag i=.feed->b=false->cases=#[rcase p.stop z]->GOffer i γ cases b
 | feed (p:Ph) (z z':Value):γ.ph=some p->i=p.f->γ.tag i=.feed->b=true->γ.next < p.n->cases=#[scase p.jobs (.int .i64 γ.next) z,rcase p.stop z']->GOffer i γ cases b
 | coll (c:Col) (z:Value):γ.col=some c->i=0->b=true->cases=#[rcase c.dn z]->GOffer i γ cases b
 | give (c:Col) (x:Nat) (z:Value):γ.col=some c->i≠0->γ.tag i=.give x->b=true->cases=#[scase c.dn (γ.gv i) z]->GOffer i γ cases b
inductive GResult (i:Nat) (γ:Gho) (w:World) (b:Bool) (k:Int) (v:Value) (ok:Bool) (γ':Gho) (w':World):Prop
 | job (p:Ph) (s:Nat):γ.ph=some p->p.b<=i->γ.tag i=.idle->ok=true->v=.int .i64 γ.next->γ'=γ.pass p i->γ.next < p.n->w'=w.setChan p.jobs 0 #[] false s s false->GResult i γ w b k v ok γ' w'
 | out (p:Ph):γ.ph=some p->p.b<=i->γ.tag i=.idle->ok=false->γ'=γ.setTag i .out->w'=w->GResult i γ w b k v ok γ' w'
 | peek (p:Ph):γ.ph=some p->i=p.f->γ.tag i=.feed->b=false->k=-1->v=undef->ok=false->γ'=γ->w'=w->GResult i γ w b k v ok γ' w'
 | stop (p:Ph):γ.ph=some p->i=p.f->γ.tag i=.feed->k=(if b then 1 else 0)->ok=false->γ.stp=true->γ'=γ->w'=w->GResult i γ w b k v ok γ' w'
 | fed (p:Ph) (h s:Nat):γ.ph=some p->i=p.f->γ.tag i=.feed->b=true->k=0->v=undef->ok=false->p.b<=h->γ.tag h=.idle->γ'=γ.pass p h->w'=w.setChan p.jobs 0 #[] false s s false->GResult i γ w b k v ok γ' w'
 | took (c:Col) (h x s:Nat):γ.col=some c->i=0->k=0->ok=true->γ.tag h=.give x->v=γ.gv h->x < c.n->¬γ.done x->HandOk γ w c h x->γ'=γ.taken h x->w'=w.setChan c.dn 0 #[] false s s false->GResult i γ w b k v ok γ' w'
 | home (c:Col):γ.col=some c->i=0->ok=false->(∀x,x < c.n->γ.done x)->γ'=γ.home->w'=w->GResult i γ w b k v ok γ' w'
 | gave (c:Col) (x s:Nat):γ.col=some c->i≠0->γ.tag i=.give x->k=0->v=undef->ok=false->γ'=γ.taken i x->w'=w.setChan c.dn 0 #[] false s s false->GResult i γ w b k v ok γ' w'
def crewPact (P:Program) (ty:TypeId) (top:Nat) (Post:Value->World->Prop):Pact P where
 Gh:=Gho
 Inv:=GInv ty top
 Tr:=GTr
 R:=Rel
 Wait:=GWait ty
 Offer:=GOffer
 Result:=GResult
 Gone:=fun i γ=>i≠0/\γ.tag i=.gone
 deaf:=Gho.deaf
 cnt:=Gho.cnt
 top:=top
 Post:=Post
end Go.Proofs.YtbicafgmfgdckaaDoor
namespace Go.Proofs.YtbicafgmfgdckaaDoor
open Go Go.Conc
open Go.ConcR (KK wgBlock WgAt stA smA)
open Go.ConcN (sumTo upd upd_same upd_ne sumTo_upd sumTo_congr sumTo_upd_out le_sumTo RelBy PermW WgLive)

section
variable {ty:TypeId} {top:Nat} {γ γ' γ1 γ2:Gho} {p:Ph} {c:Col} {w w' w1 w2:World} {i j k:Nat} {t u:Trace} {P:Program} {Post:Value->World->Prop}
theorem SkRel.of {c1:γ2.sk=γ.sk} (h2:γ2.stp=γ.stp) (h3:γ.sk.ml 0 i=.own 1->w2.cell? ⟨p.out,2,none⟩=w.cell? ⟨p.out,2,none⟩):SkRel i p γ w γ2 w2 :=
 ⟨fun m _=>by rw[c1];exact⟨Nat.le_refl _,.inl rfl⟩,fun m _ _=>by rw[c1];exact Nat.le_refl _,fun q=>⟨h3 q,fun x=>by rw[c1]⟩,fun k _=>⟨by rw[c1],h2⟩,fun x q=>by rw[c1];exact q⟩
theorem SkRel.refl (i:Nat) (p:Ph) (γ:Gho) (w:World):SkRel i p γ w γ w:=.of (c1:=rfl) rfl fun _=>rfl
theorem SkRel.trans (h:SkRel i p γ w γ1 w1) (h':SkRel i p γ1 w1 γ2 w2) (e:∀m,m < 2->γ1.sk.ml m i=γ.sk.ml m i):SkRel i p γ w γ2 w2:=by
 refine⟨fun m hm=>?_,fun m hm q=>Nat.le_trans (h.hand m hm q) (h'.hand m hm ((e m hm).trans q)),fun q=>⟨(h'.at_ ((e 0 (by omega)).trans q)).1.trans (h.at_ q).1,fun x=>((h'.at_ ((e 0 (by omega)).trans q)).2 x).trans ((h.at_ q).2 x)⟩,fun k q=>⟨(h'.od k ((e 1 (by omega)).trans q)).1.trans (h.od k q).1,(h'.od k ((e 1 (by omega)).trans q)).2.trans (h.od k q).2⟩,fun x q=>h'.took x (h.took x q)⟩
 obtain⟨a1,a2⟩:=h.v m hm
 obtain⟨b1,b2⟩:=h'.v m hm
 refine⟨Nat.le_trans b1 a1,?_⟩
 rcases a2 with a2|a2
 ·rcases b2 with b2|b2
  ·exact .inl (b2.trans a2)
  ·exact .inr (by omega)
 ·exact .inr (by omega)
theorem RelL.refl (i:Nat) (γ:Gho) (w:World):RelL i γ w γ w:=⟨Nat.le_refl _,fun _ _ _=>rfl,fun _ h1 h2=>⟨h1,h2⟩,fun _ _ _=>rfl,rfl,fun _ h=>h.1,fun h _=>h,rfl,fun _ _ _=>⟨rfl,Nat.le_refl _⟩,fun _ _ _=>⟨rfl,rfl,rfl⟩,fun _ _ _ _ _=>⟨fun _ _ _=>rfl,rfl⟩,fun _ _=>Nat.le_refl _,fun _ _ _=>Iff.rfl,fun _ _ h=>h,fun _=>rfl,fun p _ _=>.refl i p γ w⟩
theorem Rel.refl (i:Nat) (γ:Gho) (w:World):Rel i γ w γ w:=⟨rfl,rfl,⟨rfl,rfl⟩,fun _=>.refl i γ w⟩
theorem Gho.nc.keep (h:γ.nc i) (e:γ'.col=γ.col):γ'.nc i:=h.imp id e.trans
theorem RelL.trans (h:RelL i γ w γ1 w1) (h':RelL i γ1 w1 γ2 w2):RelL i γ w γ2 w2:=by
 refine⟨Nat.le_trans h.hs h'.hs,fun b hb hj=>?_,fun b hb e=>?_,fun b hb e=>?_,h'.tape.trans h.tape,fun p q=>h'.ph p ⟨h.ph p q,q.2⟩,fun q1 q=>h'.pn (h.pn q1 q) (q.keep h.col),h'.col.trans h.col,fun p hp e=>?_,fun e1 e2 e3=>?_,fun e1 c e2 e3 e4=>?_,fun p q=>Nat.le_trans (h.next p q) (h'.next p ⟨h.ph p q,q.2⟩),fun e q x=>(h'.done e (by rw[h.col];exact q) x).trans (h.done e q x),fun p q e=>h'.stp p ⟨h.ph p q,q.2⟩ (h.stp p q e),fun m=>(h'.ml m).trans (h.ml m),fun p q e=>(h.sk p q e).trans (h'.sk p ⟨h.ph p q,q.2⟩ e) fun m _=>h.ml m⟩
 ·have e1:=h.bk b hb hj
  exact(h'.bk b (Nat.lt_of_lt_of_le hb h.hs) fun j hj'=>by rw[e1];exact hj j hj').trans e1
 ·obtain⟨e1,e2⟩:=h'.bk2 b hb e
  exact h.bk2 b e1 e2
 ·have e1:γ1.bk b=γ.bk b:=h.bk b hb fun j hj e2=>by
   rcases e with e|⟨m,_,e⟩<;>(rw[e] at e2;cases e2)
   exact hj rfl
  exact(h'.keep b (Nat.lt_of_lt_of_le hb h.hs) (by rw[e1];exact e)).trans (h.keep b hb e)
 ·obtain⟨q1,q2⟩:=h.feed p hp e
  obtain⟨q3,q4⟩:=h'.feed p ⟨h.ph p hp,hp.2⟩ e
  exact⟨q3.trans q1,Nat.le_trans q4 q2⟩
 ·obtain⟨a1,a2,a3⟩:=h.still e1 e2 e3
  obtain⟨b1,b2,b3⟩:=h'.still e1 (h.col.trans e2) (h.pn e3 (.inr e2))
  exact⟨b1.trans a1,b2.trans a2,b3.trans a3⟩
 ·obtain⟨a1,a2⟩:=h.pre e1 c e2 e3 e4
  obtain⟨b1,b2⟩:=h'.pre e1 c (h.col.trans e2) e3 (h.pn e4 (.inl e1))
  refine⟨fun b hb q=>(b1 b (Nat.lt_of_lt_of_le hb h.hs) ((h.bk b hb fun j _ q2=>by rw[q] at q2;cases q2).trans q)).trans (a1 b hb q),b2.trans a2⟩
theorem Rel.trans (h:Rel i γ w γ1 w1) (h':Rel i γ1 w1 γ2 w2):Rel i γ w γ2 w2 :=
 ⟨h'.tag.trans h.tag,h'.deaf.trans h.deaf,⟨h'.gv.1.trans h.gv.1,h'.gv.2.trans h.gv.2⟩,fun e=>(h.live e).trans (h'.live (by rw[h.tag];exact e))⟩
theorem RelL.same (hh:w'.heap=w.heap) (ht:w'.tape=w.tape):RelL i γ w γ w':=⟨Nat.le_refl _,fun _ _ _=>rfl,fun _ h1 h2=>⟨h1,h2⟩,fun _ _ _=>by rw[hh],ht,fun _ h=>h.1,fun h _=>h,rfl,fun _ _ _=>⟨rfl,Nat.le_refl _⟩,fun _ _ _=>⟨hh,rfl,rfl⟩,fun _ _ _ _ _=>⟨fun _ _ _=>by rw[hh],rfl⟩,fun _ _=>Nat.le_refl _,fun _ _ _=>Iff.rfl,fun _ _ h=>h,fun _=>rfl,fun _ _ _=>.of (c1:=rfl) rfl fun _=>by simp only[World.cell?,hh]⟩
theorem Rel.at (i:Nat) (γ:Gho) (w:World) (d:Nat):Rel i γ w γ (w.at d):=⟨rfl,rfl,⟨rfl,rfl⟩,fun _=>.same rfl rfl⟩
theorem Core.lts (h:Core ty γ p w) (hs:γ.hs=w.heap.size):p.wg < γ.hs/\p.jobs < γ.hs/\p.stop < γ.hs:=by
 obtain⟨st,sm,h1,_⟩:=h.wgm
 obtain⟨s,h2⟩:=h.jobs
 rw[hs]
 exact⟨(Array.getElem?_eq_some_iff.1 h1).1,(Array.getElem?_eq_some_iff.1 h2).1,(Array.getElem?_eq_some_iff.1 h.stop).1⟩
theorem FillI.lt (h:FillI γ p w) (hs:γ.hs=w.heap.size):p.out < γ.hs:=by
 obtain⟨cs,h3,_⟩:=h.out
 rw[hs]
 exact(Array.getElem?_eq_some_iff.1 h3).1
theorem Coll.lt (h:Coll γ w c) (hs:γ.hs=w.heap.size):c.dn < γ.hs:=by
 obtain⟨s,h2⟩:=h.dn
 rw[hs]
 exact(Array.getElem?_eq_some_iff.1 h2).1
structure Calm (γ:Gho) (w:World) (γ':Gho) (w':World):Prop where
 tag:γ'.tag=γ.tag
 cnt:γ'.cnt=γ.cnt
 next:γ'.next=γ.next
 done:γ'.done=γ.done
 ow:γ'.ow=γ.ow
 ph:γ'.ph=γ.ph
 col:γ'.col=γ.col
 gv:γ'.gv=γ.gv
 gb:γ'.gb=γ.gb
 stp:γ'.stp=γ.stp
 sk:γ'.sk=γ.sk
 bk:∀b,b < γ.hs->γ'.bk b=γ.bk b
 new:∀b,γ.hs<=b->b < γ'.hs->(∀m,γ'.bk b≠.fix m)/\γ'.bk b≠.mix
 hs:γ.hs<=γ'.hs
 deaf:∀i,(γ.tag i=.idle\/γ.tag i=.feed\/γ.tag i=.coll\/∃x,γ.tag i=.give x)->γ'.deaf i=γ.deaf i
 heap:∀b,b < γ.hs->(∀j,γ.bk b≠.priv j)->w'.heap[b]?=w.heap[b]?
 heap2:∀b i x,b < γ.hs->γ.bk b=.priv i->γ.tag i=.give x->w'.heap[b]?=w.heap[b]?
theorem SeekI.lt (h:SeekI γ p w) (hs:γ.hs=w.heap.size):p.out < γ.hs/\p.once < γ.hs:=by
 obtain⟨v,h3,_⟩:=h.best
 rw[hs]
 exact⟨(Array.getElem?_eq_some_iff.1 h3).1,(Array.getElem?_eq_some_iff.1 h.once).1⟩
theorem SeekI.keep (h:SeekI γ p w) (es:γ'.sk=γ.sk) (e1:γ'.bk p.out=γ.bk p.out) (e2:γ'.bk p.once=γ.bk p.once) (en:γ'.next=γ.next) (ed:γ'.done=γ.done) (et:γ'.stp=γ.stp) (eb:∀i x,γ.tag i=.busy x->γ'.tag i=.busy x) (eg:∀i x,γ'.tag i=.give x->γ.tag i=.give x)
  (h1:w'.heap[p.out]?=w.heap[p.out]?) (h2:w'.heap[p.once]?=w.heap[p.once]?):SeekI γ' p w':=by
 refine⟨e1.trans h.bout,e2.trans h.bonce,h.ne,h.W,?_,?_,?_,?_,?_,?_,?_,?_,?_,?_,?_,?_,?_,fun i x q=>h.nogive i x (eg i x q)⟩<;>rw[es]
 ·obtain⟨v,q,q2⟩:=h.best
  exact⟨v,h1.trans q,q2⟩
 ·exact h2.trans h.once
 ·exact h.mi
 ·exact fun m i hm q=>let ⟨x,r⟩:=h.busy m i hm q;⟨x,eb i x r⟩
 ·rw[en];exact h.left
 ·exact h.lo1
 ·exact h.lo0
 ·exact h.two
 ·rw[en];exact h.took
 ·rw[ed];exact h.done
 ·rw[et];exact h.stp
 ·rw[et];exact h.od0
 ·rw[et];exact h.od1
theorem Core.frame (h:Core ty γ p w) (hs:γ.hs=w.heap.size) (e:Calm γ w γ' w'):Core ty γ' p w':=by
 obtain⟨l1,l2,l3⟩:=h.lts hs
 have n1:w'.heap[p.wg]?=w.heap[p.wg]?:=e.heap _ l1 fun j=>by rw[h.bwg];simp
 have n2:w'.heap[p.jobs]?=w.heap[p.jobs]?:=e.heap _ l2 fun j=>by rw[h.bjobs];simp
 have n3:w'.heap[p.stop]?=w.heap[p.stop]?:=e.heap _ l3 fun j=>by rw[h.bstop];simp
 obtain⟨e1,e2,e3,e4,e5,_,_,e6,e7,e8,e9,eb,en,eh,ed,hh,hh2⟩:=e
 obtain⟨cnt',hs',tag',deaf',bk',ow',next',done',ph',col',gv',gb',stp',sk'⟩:=γ'
 dsimp only at *
 subst e1 e2 e3 e4 e5 e6 e7 e8 e9
 have fx:∀b m,b < hs'->bk' b=.fix m->b < γ.hs/\γ.bk b=.fix m:=fun b m hb q=>by
  by_cases hlt:b < γ.hs
  ·exact⟨hlt,(eb b hlt).symm.trans q⟩
  ·exact absurd q ((en b (by omega) hb).1 m)
 have mx:∀b,b < hs'->bk' b=.mix->b < γ.hs/\γ.bk b=.mix:=fun b hb q=>by
  by_cases hlt:b < γ.hs
  ·exact⟨hlt,(eb b hlt).symm.trans q⟩
  ·exact absurd q (en b (by omega) hb).2
 refine⟨(eb _ l1).trans h.bwg,(eb _ l2).trans h.bjobs,(eb _ l3).trans h.bstop,h.ne,fun b m hb q=>?_,fun b m hb q=>?_,h.fd,h.ftag,h.cnt,h.add,h.rest,h.wtag,h.early,?_,?_,n3.trans h.stop,h.stpk,h.job,h.nle,h.full,h.busy,fun i hi=>(ed i (hi.imp id .inl)).trans (h.hear i hi),h.small,h.pos,fun q=>?_,fun q=>?_,fun q b hb r=>?_⟩
 ·obtain⟨q1,q2⟩:=fx b m hb q
  exact(hh b q1 fun j=>by rw[q2];simp).trans (h.fix b m q1 q2)
 ·obtain⟨q1,q2⟩:=fx b m hb q
  exact h.fixm b m q1 q2
 ·obtain⟨st,sm,q1,q2⟩:=h.wgm
  exact⟨st,sm,n1.trans q1,q2⟩
 ·obtain⟨s,q⟩:=h.jobs
  exact⟨s,n2.trans q⟩
 ·have hf:=h.fill q
  have l4:=hf.lt hs
  refine⟨(eb _ l4).trans hf.bout,?_,hf.busy,hf.mine,hf.owm,fun b hb r=>?_,hf.nog⟩
  ·obtain⟨cs,q,q2⟩:=hf.out
   exact⟨cs,(hh _ l4 fun j=>by rw[hf.bout];simp).trans q,q2⟩
  ·obtain⟨q1,q2⟩:=mx b hb r
   exact hf.mixo b q1 q2
 ·have hf:=h.seek q
  obtain⟨l4,l5⟩:=hf.lt hs
  exact hf.keep rfl (eb _ l4) (eb _ l5) rfl rfl rfl (fun _ _ r=>r) (fun _ _ r=>r) (hh _ l4 fun j=>by rw[hf.bout];simp) (hh _ l5 fun j=>by rw[hf.bonce];simp)
 ·obtain⟨q1,q2⟩:=mx b hb r
  exact h.nomix q b q1 q2
theorem Coll.frame (h:Coll γ w c) (hs:γ.hs=w.heap.size) (e:Calm γ w γ' w'):Coll γ' w' c:=by
 have l1:=h.lt hs
 refine⟨by rw[e.tag];exact h.tag0,by rw[e.cnt];exact h.f,(e.bk _ l1).trans h.bdn,?_,fun b hb q=>?_,(e.deaf 0 (.inr (.inr (.inl h.tag0)))).trans h.deaf,fun i x hx=>?_⟩
 ·obtain⟨s,q⟩:=h.dn
  exact⟨s,by rw[e.tag,e.heap _ l1 fun j=>by rw[h.bdn];simp];exact q⟩
 ·by_cases hlt:b < γ.hs
  ·have q':=(e.bk b hlt).symm.trans q
   exact(e.heap b hlt fun j=>by rw[q'];simp).trans (h.fix b hlt q')
  ·exact absurd q ((e.new b (by omega) hb).1 0)
 ·rw[e.tag] at hx
  obtain⟨q1,ob,q2,q3⟩:=h.give i x hx
  refine⟨(e.deaf i (.inr (.inr (.inr ⟨x,hx⟩)))).trans q1,ob,by rw[e.gv];exact q2,?_⟩
  rw[e.gb]
  cases hb:γ.gb i with
  | none=>rw[hb] at q3;exact q3
  | some B =>
   rw[hb] at q3
   obtain⟨r1,r2,o,r3,r4⟩:=q3
   exact⟨Nat.lt_of_lt_of_le r1 e.hs,(e.bk B r1).trans r2,o,(e.heap2 B i x r1 r2 hx).trans r3,r4⟩
theorem Lull.frame (h:Lull γ c) (e:Calm γ w γ' w'):Lull γ' c:=by
 refine⟨by rw[e.tag];exact h.rest,by rw[e.tag,e.done];exact h.at_,fun b hb q=>?_,fun q=>?_⟩
 ·by_cases hlt:b < γ.hs
  ·exact h.nomix b hlt ((e.bk b hlt).symm.trans q)
  ·exact absurd q (e.new b (by omega) hb).2
 ·rw[e.tag] at q
  obtain⟨q1,q2⟩:=h.top q
  refine⟨e.cnt.trans q1,fun b m hb r=>?_⟩
  by_cases hlt:b < γ.hs
  ·exact q2 b m hlt ((e.bk b hlt).symm.trans r)
  ·exact absurd r ((e.new b (by omega) hb).1 m)
theorem GInv.frame (h:GInv ty top γ w) (hs:γ'.hs=w'.heap.size) (e:Calm γ w γ' w') (e9:γ.ph=none->γ.col=none->∀b,γ.hs<=b->b < γ'.hs->(∃s,γ'.bk b=.shd s)\/γ'.bk b=.priv 0\/γ'.bk b=.lock):GInv ty top γ' w':=by
 refine⟨hs,by rw[e.cnt];exact h.cnt,by rw[e.tag];exact h.main,by rw[e.tag,e.cnt];exact h.un,fun q1 q2=>?_,fun p hp=>(h.core p (e.ph.symm.trans hp)).frame h.hs e,fun c hc=>(h.coll c (e.col.symm.trans hc)).frame h.hs e,fun c hc hp=>(h.lull c (e.col.symm.trans hc) (e.ph.symm.trans hp)).frame e,fun p c hp hc=>h.mate p c (e.ph.symm.trans hp) (e.col.symm.trans hc),fun p hp hc=>h.alone p (e.ph.symm.trans hp) (e.col.symm.trans hc),by rw[e.ph,e.col];exact h.top⟩
 obtain⟨r1,r2,r3⟩:=h.free (e.ph.symm.trans q1) (e.col.symm.trans q2)
 rw[e.tag]
 exact⟨r1,r2,fun b hb=>(Nat.lt_or_ge b γ.hs).elim (fun q=>by rw[e.bk b q];exact r3.1 b q) fun q=>e9 (e.ph.symm.trans q1) (e.col.symm.trans q2) b q hb,by rw[e.sk];exact r3.2⟩
theorem GInv.at (h:GInv ty top γ w) (d:Nat):GInv ty top γ (w.at d):=h.frame h.hs ⟨rfl,rfl,rfl,rfl,rfl,rfl,rfl,rfl,rfl,rfl,rfl,fun _ _=>rfl,fun _ h1 h2=>absurd h2 (Nat.not_lt.2 h1),Nat.le_refl _,fun _ _=>rfl,fun _ _ _=>rfl,fun _ _ _ _ _ _=>rfl⟩ (fun _ _ b h1 h2=>absurd h2 (Nat.not_lt.2 h1))
theorem GInv.deaf (h:GInv ty top γ w) {d:Nat->Nat} (hd:∀i,(γ.tag i=.idle\/γ.tag i=.feed\/γ.tag i=.coll\/∃x,γ.tag i=.give x)->d i=γ.deaf i):GInv ty top { γ with deaf:=d } w :=
 h.frame h.hs ⟨rfl,rfl,rfl,rfl,rfl,rfl,rfl,rfl,rfl,rfl,rfl,fun _ _=>rfl,fun _ h1 h2=>absurd h2 (Nat.not_lt.2 h1),Nat.le_refl _,hd,fun _ _ _=>rfl,fun _ _ _ _ _ _=>rfl⟩ (fun _ _ b h1 h2=>absurd h2 (Nat.not_lt.2 h1))
theorem GInv.who (h:GInv ty top γ w) (hi:γ.tag i≠.gone):i=0\/∃lo,γ.lo=some lo/\lo<=i:=by
 by_cases h0:i=0
 ·exact .inl h0
 right
 unfold Gho.lo
 cases hc:γ.col with
 | none =>
  cases hp:γ.ph with
  | none=>exact absurd ((h.free hp hc).2.1 i h0) hi
  | some p =>
   refine⟨p.b,rfl,Nat.le_of_not_lt fun hlt=>hi ((h.core p hp).rest i (by rw[(h.alone p hp hc).1];exact h0) hlt h0)⟩
 | some c =>
  refine⟨c.f,rfl,Nat.le_of_not_lt fun hlt=>hi ?_⟩
  cases hp:γ.ph with
  | none=>exact(h.lull c hc hp).rest i h0 (by omega)
  | some p =>
   have e:=(h.mate p c hp hc).1
   have:=(h.core p hp).fd
   exact(h.core p hp).rest i (by omega) (by omega) h0
end
end Go.Proofs.YtbicafgmfgdckaaDoor
namespace Go.Proofs.YtbicafgmfgdckaaDoor
open Go Go.Conc
open Go.ConcR (KK wgBlock WgAt stA smA)
open Go.ConcN (sumTo upd upd_same upd_ne RelBy PermW WgLive)

section
variable {ty:TypeId} {top:Nat} {γ γ':Gho} {p:Ph} {w w':World} {i j k n:Nat} {t u:Trace} {P:Program} {Post:Value->World->Prop} {es:Array Event}
theorem mix_same (e5:γ'.ow=γ.ow) (l:Loc):γ'.mixAt l=γ.mixAt l:=by cases l<;>simp[Gho.mixAt,e5]
theorem DTr.low (h:DTr γ.wh t n) (hlow:∀i a,touchAt t i=some a->blk a.loc < γ.hs) (e6:∀b,b < γ.hs->γ'.bk b=γ.bk b) (e5:γ'.ow=γ.ow) (e7:γ'.sk.lo=γ.sk.lo) (hl:∀k l,blk l < γ.hs->γ'.live k l->γ.live k l):DTr γ'.wh t n:=by
 have hm:=mix_same e5
 have hsh:∀l,blk l < γ.hs->(γ'.wh.sh l↔γ.wh.sh l):=fun l hl=>by simp only[Gho.wh,e6 _ hl,hm]
 have hro:∀l,blk l < γ.hs->(γ'.wh.ro l↔γ.wh.ro l):=fun l hl=>by simp only[Gho.wh,e6 _ hl]
 have hsay:∀l,blk l < γ.hs->γ'.wh.say l=γ.wh.say l:=fun l hl=>by simp only[Gho.wh,e6 _ hl]
 have hown:∀l,blk l < γ.hs->γ'.wh.own l=γ.wh.own l:=fun l hl=>by simp only[Gho.wh,e6 _ hl,hm,e7]
 have fresh:∀l,¬blk l < γ.hs->∀i a,touchAt t i=some a->a.loc≠l:=fun l hl i a ha e=>hl (e ▸ hlow i a ha)
 refine h.anew (fun i op x hi hx hs=>?_) (fun l hs hr=>?_) (fun l hs hr k hk=>?_) fun i a ha hs=>(hsh _ (hlow i a ha)).2 hs
 ·have hlt:=hlow i x (by rw[touchAt_of hi];exact hx)
  exact .inl ⟨(hsh _ hlt).1 hs,hsay _ hlt⟩
 ·by_cases hlt:blk l < γ.hs
  ·rw[hown l hlt];exact(h.own l (fun q=>hs ((hsh l hlt).2 q)) fun q=>hr ((hro l hlt).2 q)).mono fun k hk=>hl k l hlt hk
  ·exact PermO.fresh (fresh l hlt)
 ·by_cases hlt:blk l < γ.hs
  ·exact h.ro l (fun q=>hs ((hsh l hlt).2 q)) ((hro l hlt).1 hr) k (hl k l hlt hk)
  ·exact fun i a ha e=>absurd e (fresh l hlt i a ha)
theorem GInv.who2 (h:GInv ty top γ w) (hi:γ.tag i≠.gone):∀c,γ.col=some c->γ.ph=none->i=0\/(i=c.f/\γ.tag i≠.gone):=fun c hc hp=>by
 by_cases h0:i=0
 ·exact .inl h0
 ·by_cases e:i=c.f
  ·exact .inr ⟨e,hi⟩
  ·exact absurd ((h.lull c hc hp).rest i h0 e) hi
theorem GTr.own (h:GTr γ t) (e:γ'.ph=γ.ph) (ec:γ'.col=γ.col) (hg:∀op∈u,op.g=i) (hwho:i=0\/∃lo,γ.lo=some lo/\lo<=i) (hwho2:∀c,γ.col=some c->γ.ph=none->i=0\/(i=c.f/\γ.tag i≠.gone)) (hd:DTr γ'.wh (t++u) γ'.cnt) (hdeaf:∀k,k≠i->γ'.deaf k=γ.deaf k) (hdi:Deaf (t++u) i=γ'.deaf i)
  (hn:∀op∈u,∀a,op.act≠.mark (.release a)) (hlow:∀i a,touchAt (t++u) i=some a->blk a.loc < γ'.hs) (hrel:∀k,k≠i->k < γ'.cnt->(γ'.tag k).said->k < γ.cnt/\(γ.tag k).said)
  (hreli:∀p,γ.ph=some p->p.b<=i->(γ'.tag i).said->∃r,RelBy (stA p.wg) (t++u) i r) (htag:∀c,γ.col=some c->γ.ph=none->γ'.tag c.f=γ.tag c.f):GTr γ' (t++u):=by
 have elo:γ'.lo=γ.lo:=by unfold Gho.lo;rw[e,ec]
 have new:∀ {m},¬m < t.size->(t++u).counts m->∃op,(t++u)[m]?=some op/\op.g=i:=fun {m} hm hc=>by
  obtain⟨x,hx,_⟩:=hc
  obtain⟨act,hact,_⟩:=Option.bind_eq_some_iff.1 hx
  obtain⟨op,ho,rfl⟩:=Option.map_eq_some_iff.1 hact
  refine⟨op,ho,?_⟩
  rcases getElem?_append_cases ho with⟨q,_⟩|⟨_,q⟩
  ·exact absurd q hm
  ·exact hg op q
 refine⟨hd,fun k=>?_,h.nrel.app hn,hlow,fun p hp k hk hk2 hs=>?_,fun j hc=>?_,fun c hc hp ht j hj=>?_,fun c hc hp ht=>?_⟩
 ·by_cases ek:k=i
  ·rw[ek];exact hdi
  ·rw[Deaf_other t (Ne.symm ek) u hg,h.deaf k,hdeaf k ek]
 ·rw[e] at hp
  by_cases ek:k=i
  ·subst ek;exact hreli p hp hk hs
  ·obtain⟨q1,q2⟩:=hrel k ek hk2 hs
   obtain⟨r,hr⟩:=h.rel p hp k hk q1 q2
   exact⟨r,hr.appOther hg (Ne.symm ek)⟩
 ·rw[elo]
  by_cases hj:j < t.size
  ·rcases h.old j ((counts_old hj).1 hc) with q|⟨lo,q1,k,q2,q3⟩
   ·exact .inl (q.app u)
   ·exact .inr ⟨lo,q1,k,q2,by rw[g?_old hj];exact q3⟩
  ·obtain⟨op,ho,hop⟩:=new hj hc
   rcases hwho with q|⟨lo,q1,q2⟩
   ·left
    have:=knows_own ho
    rw[hop,q] at this
    exact this
   ·exact .inr ⟨lo,q1,i,q2,by simp[Trace.g?,ho,hop]⟩
 ·rw[ec] at hc
  rw[e] at hp
  rw[htag c hc hp] at ht
  by_cases hlt:j < t.size
  ·exact(h.fin c hc hp ht j ((counts_old hlt).1 hj)).imp (fun q=>q.app u) fun q=>q.app u
  ·obtain⟨op,ho,hop⟩:=new hlt hj
   have:=knows_own ho
   rw[hop] at this
   rcases hwho2 c hc hp with q|⟨q,_⟩
   ·left;rwa [q] at this
   ·right;rwa [q] at this
 ·rw[ec] at hc
  rw[e] at hp
  rw[htag c hc hp] at ht
  obtain⟨q,q1,q2,q3⟩:=h.shut c hc hp ht
  have hq:q < t.size:=lt_of_act? q1
  refine⟨q,by rw[act?_old hq];exact q1,(heard_old hq).2 q2,fun j hj=>?_⟩
  by_cases hlt:j < t.size
  ·exact(q3 j ((counts_old hlt).1 hj)).imp (fun r=>r.app u) fun r=>r.app u
  ·obtain⟨op,ho,hop⟩:=new hlt hj
   have:=knows_own ho
   rw[hop] at this
   rcases hwho2 c hc hp with r|⟨r,r2⟩
   ·left;rwa [r] at this
   ·exact absurd ht (by rw[<- r];exact r2)
theorem GTr.hush (h:GTr γ t) (hu:∀op∈u,op.g=i/\op.act.touch?=none/\∀a,op.act≠.mark (.release a)) (hi:i < γ.cnt) (hdi:Deaf (t++u) i=γ'.deaf i) (e:γ'={ γ with deaf:=γ'.deaf }) (hdeaf:∀k,k≠i->γ'.deaf k=γ.deaf k):GTr γ' (t++u):=by
 have e1:γ'.ph=γ.ph:=by rw[e]
 have e1':γ'.col=γ.col:=by rw[e]
 have e2:γ'.wh=γ.wh:=by rw[e];rfl
 have e3:γ'.cnt=γ.cnt:=by rw[e]
 have e4:γ'.hs=γ.hs:=by rw[e]
 have e5:γ'.tag=γ.tag:=by rw[e]
 have elo:γ'.lo=γ.lo:=by unfold Gho.lo;rw[e1,e1']
 have hg:∀op∈u,op.g=i:=fun op hop=>(hu op hop).1
 have hs:∀op∈u,op.act.touch?=none:=fun op hop=>(hu op hop).2.1
 have old:∀ {j},(t++u).counts j->j < t.size:=fun {j} hc=>by
  obtain⟨x,hx,_⟩:=hc
  have:=touch_silent hs hx
  obtain⟨_,h1,_⟩:=touch_of this
  exact lt_size_of_getElem? h1
 refine⟨?_,fun k=>?_,h.nrel.app fun op hop=>(hu op hop).2.2,fun j a ha=>?_,fun p hp k hk hk2 hs'=>?_,fun j hc=>?_,fun c hc hp ht j hj=>?_,fun c hc hp ht=>?_⟩
 ·rw[e2,e3]
  exact h.d.silent (Nat.le_refl _) fun op hop=>⟨hs op hop,by rw[hg op hop];exact hi⟩
 ·by_cases ek:k=i
  ·rw[ek];exact hdi
  ·rw[Deaf_other t (Ne.symm ek) u hg,h.deaf k,hdeaf k ek]
 ·rw[e4];exact h.low j a (touch_silent hs ha)
 ·rw[e1] at hp
  rw[e3] at hk2
  rw[e5] at hs'
  obtain⟨r,hr⟩:=h.rel p hp k hk hk2 hs'
  refine⟨r,hr.app fun m hm hgm hc=>?_⟩
  have:=old hc
  omega
 ·rw[elo]
  have hj:=old hc
  rcases h.old j ((counts_old hj).1 hc) with q|⟨lo,q1,k,q2,q3⟩
  ·exact .inl (q.app u)
  ·exact .inr ⟨lo,q1,k,q2,by rw[g?_old hj];exact q3⟩
 ·rw[e1'] at hc
  rw[e1] at hp
  rw[e5] at ht
  exact(h.fin c hc hp ht j ((counts_old (old hj)).1 hj)).imp (fun q=>q.app u) fun q=>q.app u
 ·rw[e1'] at hc
  rw[e1] at hp
  rw[e5] at ht
  obtain⟨q,q1,q2,q3⟩:=h.shut c hc hp ht
  have hq:q < t.size:=lt_of_act? q1
  exact⟨q,by rw[act?_old hq];exact q1,(heard_old hq).2 q2,fun j hj=>(q3 j ((counts_old (old hj)).1 hj)).imp (fun r=>r.app u) fun r=>r.app u⟩
theorem ofEvents_nil (t:Trace) (i:Nat) (fn:FuncId) (pos:String):t++MemOp.ofEvents i fn pos #[]=t:=by show t++#[]=t;simp
def Gho.grown (γ:Gho) (i:Nat) (w':World):Gho:={ γ with hs:=w'.heap.size,bk:=fun b=>if γ.hs<=b then .priv i else γ.bk b }
theorem grown_bk {b:Nat} (h:b < γ.hs):(γ.grown i w').bk b=γ.bk b:=by simp[Gho.grown,Nat.not_le.2 h]
theorem grown_new {b:Nat} (h:γ.hs<=b):(γ.grown i w').bk b=.priv i:=by simp[Gho.grown,h]
theorem grow_grown (hs:γ.hs=w.heap.size) (hsz:w.heap.size<=w'.heap.size):grow (γ.S i) w w'=(γ.grown i w').S i:=by
 funext b
 apply propext
 unfold grow Gho.S
 simp only[Gho.grown]
 constructor
 ·rintro(⟨h1,h2⟩|⟨h1,h2⟩)
  ·exact⟨by omega,by rw[if_neg (by omega)];exact h2⟩
  ·exact⟨h2,by rw[if_pos (by omega)]⟩
 ·rintro⟨h1,h2⟩
  by_cases hb:γ.hs<=b
  ·exact .inr ⟨by omega,h1⟩
  ·rw[if_neg hb] at h2
   exact .inl ⟨by omega,h2⟩
theorem rel_grown (hsk:∀p,γ.ph=some p->p.kind=.seek->p.out < γ.hs/\γ.bk p.out=.lock) (hs:γ.hs=w.heap.size) (ho:Own (γ.S i) (γ.F i) w w' es) (hji:j≠i) (hn:j=0->γ.col=none->γ.ph=none->γ.tag 0=.gone):Rel j γ w (γ.grown i w') w':=by
 refine⟨rfl,rfl,⟨rfl,rfl⟩,fun hg=>⟨by show γ.hs<=w'.heap.size;rw[hs];exact ho.size,fun b hb _=>grown_bk hb,fun b hb e=>?_,fun b hb e=>?_,ho.tape,fun _ h=>h.1,fun h _=>h,rfl,fun _ _ _=>⟨rfl,Nat.le_refl _⟩,(fun e1 e2 e3=>absurd (e1 ▸ hn e1 e2 e3) hg),fun _ c _ _ _=>⟨fun b hb e=>?_,rfl⟩,fun _ _=>Nat.le_refl _,fun _ _ _=>Iff.rfl,fun _ _ h=>h,fun _=>rfl,fun p hp hk=>.of (c1:=rfl) rfl fun q=>?_⟩⟩
 ·by_cases hlt:γ.hs<=b
  ·rw[grown_new hlt] at e
   injection e with e
   exact absurd e.symm hji
  ·rw[grown_bk (by omega)] at e
   exact⟨by omega,e⟩
 ·refine ho.old b (by omega) fun q=>?_
  have:=q.2
  rcases e with e|⟨m,_,e⟩
  ·rw[e] at this;injection this with this;exact hji this
  ·rw[e] at this;cases this
 ·refine ho.old b (by omega) fun q=>?_
  have:=q.2
  rw[e] at this;cases this
 ·obtain⟨q1,q2⟩:=hsk p hp.1 hk
  have:=ho.old p.out (by omega) fun r=>by have:=r.2;rw[q2] at this;cases this
  simp only[World.cell?,this]
theorem ok_event {fn:FuncId} {pos:String} {e:Event} (hs:γ.hs=w.heap.size) (hi:i < γ.cnt) (hg:γ.tag i≠.gone) (h:EvS (grow (γ.S i) w w') (γ.F i) e) (hsz:w.heap.size<=w'.heap.size):OkT (γ.grown i w').wh i { g:=i,fn,pos,act:=.ofEvent e }/\∀x,(MemAct.ofEvent e).touch?=some x->blk x.loc < w'.heap.size:=by
 have key:∀l,(grow (γ.S i) w w' (blk l)\/γ.F i (blk l))->blk l < w'.heap.size/\¬(γ.grown i w').wh.sh l/\((grow (γ.S i) w w' (blk l)->¬(γ.grown i w').wh.ro l/\(γ.grown i w').wh.own l=some i)/\(γ.F i (blk l)->(γ.grown i w').wh.ro l/\(γ.grown i w').wh.live i l)):=by
  intro l hl
  have hF:γ.F i (blk l)->∃m,m<=i/\(γ.grown i w').bk (blk l)=.fix m:=fun⟨q1,m,q2,q3⟩=>⟨m,q2,(grown_bk q1).trans q3⟩
  have hS:grow (γ.S i) w w' (blk l)->(γ.grown i w').bk (blk l)=.priv i:=fun q=>by rw[grow_grown hs hsz] at q;exact q.2
  refine⟨?_,?_,fun q=>⟨?_,?_⟩,fun q=>?_⟩
  ·rcases hl with q|q
   ·rw[grow_grown hs hsz] at q;exact q.1
   ·have:=q.1;omega
  ·rintro(⟨s,e⟩|⟨e,_⟩|⟨e,_⟩)<;>(rcases hl with q|q<;>first | (rw[hS q] at e;cases e) | (obtain⟨m,_,q2⟩:=hF q;rw[q2] at e;cases e))
  ·rintro⟨m,e⟩
   rw[hS q] at e;cases e
  ·simp only[Gho.wh,hS q]
  ·obtain⟨m,q1,q2⟩:=hF q
   exact⟨⟨m,q2⟩,hi,hg,fun m' q3=>by rw[q2] at q3;injection q3 with q3;omega⟩
 obtain⟨loc,wr,sync⟩:=e
 rcases h with⟨ad,h1,h2,h3⟩|⟨m,h1,h2⟩|⟨r,h1,h2,h3,h4⟩
 ·dsimp only at h1 h2 h3
  subst h1 h2
  have e1:MemAct.ofEvent ⟨.cell ad,wr,false⟩=.access ⟨.cell ad,wr,false⟩:=rfl
  rw[e1]
  obtain⟨k1,k2,k3,k4⟩:=key (.cell ad) (h3.imp id fun q=>q.1)
  refine⟨⟨rfl,fun x hx=>?_⟩,fun x hx=>?_⟩
  ·simp only[MemAct.touch?,Option.some.injEq] at hx
   subst hx
   refine .inr ⟨k2,by simp,rfl,?_⟩
   rcases h3 with q|⟨q,q2⟩
   ·exact .inl (k3 q)
   ·exact .inr ⟨(k4 q).1,(k4 q).2,q2⟩
  ·simp only[MemAct.touch?,Option.some.injEq] at hx
   subst hx
   exact k1
 ·dsimp only at h1
  subst h1
  have e1:MemAct.ofEvent ⟨.mark m,wr,sync⟩=.mark m:=by cases wr<;>cases sync<;>rfl
  have e2:(MemAct.mark m).touch?=none:=by cases m<;>first|rfl | (simp[Mark.mute'] at h2)
  rw[e1]
  exact⟨⟨rfl,fun x hx=>by simp only[e2] at hx;cases hx⟩,fun x hx=>by rw[e2] at hx;cases hx⟩
 ·dsimp only at h1 h2 h3 h4
  subst h1 h3 h4
  have e1:MemAct.ofEvent ⟨.obj r,false,false⟩=.access ⟨.obj r,false,false⟩:=rfl
  rw[e1]
  obtain⟨k1,k2,k3,k4⟩:=key (.obj r) h2
  refine⟨⟨rfl,fun x hx=>?_⟩,fun x hx=>?_⟩
  ·simp only[MemAct.touch?,Option.some.injEq] at hx
   subst hx
   refine .inr ⟨k2,by simp,rfl,?_⟩
   rcases h2 with q|q
   ·exact .inl (k3 q)
   ·exact .inr ⟨(k4 q).1,(k4 q).2,rfl⟩
  ·simp only[MemAct.touch?,Option.some.injEq] at hx
   subst hx
   exact k1
end
end Go.Proofs.YtbicafgmfgdckaaDoor
namespace Go.Proofs.YtbicafgmfgdckaaDoor
open Go Go.Conc
open Go.ConcR (KK wgBlock WgAt stA smA)
open Go.ConcN (sumTo upd upd_same upd_ne RelBy PermW WgLive)

section
variable {ty:TypeId} {top:Nat} {γ γ':Gho} {p:Ph} {w w':World} {i j k n:Nat} {t u:Trace} {P:Program} {Post:Value->World->Prop} {es:Array Event}
theorem mem_ofEv {g:Nat} {fn:FuncId} {pos:String} {op:MemOp} (h:op∈MemOp.ofEvents g fn pos es):∃e,e∈es/\op={ g,fn,pos,act:=.ofEvent e }:=by
 rw[ofEvents_eq] at h
 obtain⟨e,he,rfl⟩:=Array.mem_map.1 h
 exact⟨e,he,rfl⟩
theorem ofEvent_release {e:Event} {a:Addr} (h:MemAct.ofEvent e=.mark (.release a)):e.loc=.mark (.release a):=Go.ConcR.loc_of_ofEvent h
theorem deafBehind_still (d:Nat) (h:∀e∈es,e.loc≠.mark .disable/\e.loc≠.mark .enable):deafBehind d es=d:=by
 have key:∀(l:List Event),(∀e∈l,e.loc≠.mark .disable/\e.loc≠.mark .enable)->l.foldl (fun d e=>match e.loc with | .mark .disable=>d+1 | .mark .enable=>d - 1|_=>d) d=d:=by
  intro l
  induction l with
  | nil=>intro _;rfl
  | cons e l ih =>
   intro hl
   rw[List.foldl_cons]
   have he:=hl e (by simp)
   have:(match e.loc with | .mark .disable=>d+1 | .mark .enable=>d - 1|_=>d)=d:=by
    split
    ·rename_i q;exact absurd q he.1
    ·rename_i q;exact absurd q he.2
    ·rfl
   rw[this]
   exact ih fun x hx=>hl x (by simp[hx])
 unfold deafBehind
 rw[<- Array.foldl_toList]
 exact key es.toList fun e he=>h e (by simpa using he)
theorem evS_still {S F:Nat->Prop} {e:Event} (h:EvS S F e):(e.loc≠.mark .disable/\e.loc≠.mark .enable)/\∀a,e.loc≠.mark (.release a):=by
 rcases h with⟨ad,h1,_⟩|⟨m,h1,h2⟩|⟨r,h1,_⟩
 ·rw[h1];simp
 ·rw[h1];cases m<;>simp[Mark.mute'] at h2 ⊢
 ·rw[h1];simp
theorem wait_keep' (h:GWait ty j γ w) (e0:γ'.ph=γ.ph) (e1:γ'.tag j=γ.tag j) (es:∀m,γ.sk.ml m j=.que->γ'.sk.ml m j=.que/\((γ.sk.mw m).q=0->(γ'.sk.mw m).q=0)) (hh:∀p,γ.ph=some p->w'.heap[p.wg]?=w.heap[p.wg]?):GWait ty j γ' w':=by
 cases h with
 | wg p st h1 h2 h3 h4=>exact .wg p st (e0.trans h1) h2 (e1.trans h3) (h4.of_block (hh p h1))
 | que p m h1 h2 h3 h4 h5 =>
  obtain⟨q1,q2⟩:=es m h4
  exact .que p m (e0.trans h1) h2 h3 q1 (q2 h5)
theorem wait_keep (h:GWait ty j γ w) (e0:γ'.ph=γ.ph) (e1:γ'.tag j=γ.tag j) (hh:∀p,γ.ph=some p->w'.heap[p.wg]?=w.heap[p.wg]?) (es:γ'.sk=γ.sk:=by rfl):GWait ty j γ' w' :=
 wait_keep' h e0 e1 (fun m q=>by rw[es];exact⟨q,id⟩) hh
theorem rc_chan {q r:Nat} {z:Value} (h:(rcase q z).chan=.chan (some r)):r=q:=by simpa [rcase,eq_comm] using h
theorem sc_chan {q r:Nat} {v z:Value} (h:(scase q v z).chan=.chan (some r)):r=q:=by simpa [scase,eq_comm] using h
theorem offer_shd {cases:Array CommCase} {b:Bool} {c:CommCase} {r:Nat} (hI:GInv ty top γ w) (h:GOffer j γ cases b) (hc:c∈cases) (hr:c.chan=.chan (some r)):r < γ.hs/\(∃s,γ.bk r=.shd s)/\∀p,γ.ph=some p->r≠p.wg:=by
 have ne:∀ {c:Col} {p:Ph},γ.col=some c->γ.ph=some p->c.dn≠p.wg:=fun {c p} h1 h2 e=>by
  obtain⟨s,q⟩:=(hI.coll c h1).dn
  obtain⟨st,sm,q2,_⟩:=(hI.core p h2).wgm
  rw[e] at q
  rw[show w.heap[p.wg]?=_ from q2] at q
  cases q
 have same:∀ {p p':Ph},γ.ph=some p->γ.ph=some p'->p=p':=fun h1 h2=>Option.some.inj (h1.symm.trans h2)
 cases h with
 | idle p z h1 h2 h3 h4 h5 =>
  subst h5
  simp only[List.mem_toArray,List.mem_singleton] at hc
  subst hc
  obtain rfl:=rc_chan hr
  have h:=hI.core p h1
  exact⟨(h.lts hI.hs).2.1,⟨_,h.bjobs⟩,fun p' hp'=>by rw[<- same h1 hp'];exact h.ne.1⟩
 | peek p z h1 h2 h3 h4 h5 =>
  subst h5
  simp only[List.mem_toArray,List.mem_singleton] at hc
  subst hc
  obtain rfl:=rc_chan hr
  have h:=hI.core p h1
  exact⟨(h.lts hI.hs).2.2,⟨_,h.bstop⟩,fun p' hp'=>by rw[<- same h1 hp'];exact h.ne.2.1⟩
 | feed p z z' h1 h2 h3 h4 h5 h6 =>
  subst h6
  have h:=hI.core p h1
  simp only[List.mem_toArray,List.mem_cons,List.not_mem_nil,or_false] at hc
  rcases hc with rfl|rfl
  ·obtain rfl:=sc_chan hr
   exact⟨(h.lts hI.hs).2.1,⟨_,h.bjobs⟩,fun p' hp'=>by rw[<- same h1 hp'];exact h.ne.1⟩
  ·obtain rfl:=rc_chan hr
   exact⟨(h.lts hI.hs).2.2,⟨_,h.bstop⟩,fun p' hp'=>by rw[<- same h1 hp'];exact h.ne.2.1⟩
 | coll c z h1 h2 h3 h4 =>
  subst h4
  simp only[List.mem_toArray,List.mem_singleton] at hc
  subst hc
  obtain rfl:=rc_chan hr
  exact⟨(hI.coll c h1).lt hI.hs,⟨_,(hI.coll c h1).bdn⟩,fun p' hp'=>ne h1 hp'⟩
 | give c x z h1 h2 h3 h4 h5 =>
  subst h5
  simp only[List.mem_toArray,List.mem_singleton] at hc
  subst hc
  obtain rfl:=sc_chan hr
  exact⟨(hI.coll c h1).lt hI.hs,⟨_,(hI.coll c h1).bdn⟩,fun p' hp'=>ne h1 hp'⟩
theorem nt_gone {x:Tag} (h:¬x.tied):x≠.gone:=fun e=>h (by rw[e];trivial)
theorem do_own (hI:GInv ty top γ w) (hi:i < γ.cnt) (hns:¬(γ.tag i).tied) (ho:Own (γ.S i) (γ.F i) w w' es) (wk:Prop):(crewPact P ty top Post).Do i γ w (γ.grown i w') w' wk es:=by
 have ht:γ.tag i≠.gone:=nt_gone hns
 have hnsd:¬(γ.tag i).said:=fun h=>hns (Tag.tied_of_said h)
 have hheap:∀b,b < γ.hs->γ.bk b≠.priv i->w'.heap[b]?=w.heap[b]?:=fun b hb hj=>ho.old b (by rw[<- hI.hs];exact hb) fun q=>hj q.2
 have hfree:γ.col=none->γ.ph=none->i=0:=fun hc hp=>Classical.byContradiction fun hn=>ht ((hI.free hp hc).2.1 i hn)
 refine⟨?_,fun j hj=>rel_grown (fun p hp hk=>have hS:=(hI.core p hp).seek hk;⟨(hS.lt hI.hs).1,hS.bout⟩) hI.hs ho hj (fun e1 e2 e3=>absurd ((hfree e2 e3).trans e1.symm).symm hj),fun t fn pos hT=>?_,fun j cases c r hj hof hc hr=>.inl ?_,.inr fun j hj hw=>?_,rfl,.of ho.os ho.output⟩
 ·refine hI.frame rfl ⟨rfl,rfl,rfl,rfl,rfl,rfl,rfl,rfl,rfl,rfl,rfl,fun b hb=>grown_bk hb,fun b h1 _=>by rw[grown_new h1];exact⟨fun m=>by simp,by simp⟩,?_,fun _ _=>rfl,fun b hb hj=>hheap b hb (hj i),fun b j x hb e1 e2=>hheap b hb fun q=>?_⟩ (fun hp hc b h1 _=>.inr (.inl (by rw[grown_new h1,hfree hc hp])))
  ·show γ.hs<=w'.heap.size
   rw[hI.hs];exact ho.size
  ·rw[e1] at q;injection q with q;subst q;exact hns (by rw[e2];trivial)
 ·have hev:∀e∈es,EvS (grow (γ.S i) w w') (γ.F i) e:=ho.ev
  refine GTr.own hT rfl rfl (fun op hop=>by obtain⟨e,_,rfl⟩:=mem_ofEv hop;rfl) (hI.who ht) (hI.who2 ht) ((hT.d.low hT.low (fun b hb=>grown_bk hb) rfl rfl fun k l hl hk=>⟨hk.1,hk.2.1,fun m q=>hk.2.2 m ((grown_bk hl).trans q)⟩).app hi fun op hop=>?_) (fun _ _=>rfl) ?_ (fun op hop a e=>?_) (fun m a ha=>?_) (fun k _ h1 h2=>⟨h1,h2⟩) (fun p _ _ h=>absurd h hnsd) (fun _ _ _=>rfl)
  ·obtain⟨e,he,rfl⟩:=mem_ofEv hop
   exact(ok_event hI.hs hi ht (hev e he) ho.size).1
  ·rw[Deaf_own,deafBehind_still _ fun e he=>(evS_still (hev e he)).1]
   exact hT.deaf i
  ·obtain⟨e',he,rfl⟩:=mem_ofEv hop
   exact(evS_still (hev e' he)).2 a (ofEvent_release e)
  ·obtain⟨x,hx,hxa⟩:=touch_of ha
   rcases getElem?_append_cases hx with⟨_,hx'⟩|⟨_,hop⟩
   ·have:=hT.low m a (by rw[touchAt_of hx'];exact hxa)
    have h2:=ho.size
    have h3:=hI.hs
    show blk a.loc < w'.heap.size
    omega
   ·obtain⟨e,he,rfl⟩:=mem_ofEv hop
    exact(ok_event (fn:=fn) (pos:=pos) hI.hs hi ht (hev e he) ho.size).2 a hxa
 ·obtain⟨r1,⟨s,r2⟩,_⟩:=offer_shd hI hof hc hr
  exact hheap _ r1 (by rw[r2];simp)
 ·exact wait_keep hw rfl rfl fun p hp=>by
   have hC:=hI.core p hp
   exact hheap _ (hC.lts hI.hs).1 (by rw[hC.bwg];simp)
theorem do_mute (hI:GInv ty top γ w) (hi:i < γ.cnt) (hm:∀e∈es,Event.mute e=true) (hq:es=#[]\/(γ.tag i≠.idle/\γ.tag i≠.feed/\γ.tag i≠.coll/\∀x,γ.tag i≠.give x)) (wk:Prop):(crewPact P ty top Post).Do i γ w (γ.setDeaf i (deafBehind (γ.deaf i) es)) w wk es:=by
 have mute:∀e∈es,e.loc=.mark .disable\/e.loc=.mark .enable:=fun e he=>by
  have:=hm e he
  obtain⟨l,wr,sy⟩:=e
  cases l with
  | mark m=>cases m<;>first|exact .inl rfl|exact .inr rfl | (simp[Event.mute] at this)
  | _=>simp[Event.mute] at this
 have hdf:∀k,(γ.tag k=.idle\/γ.tag k=.feed\/γ.tag k=.coll\/∃x,γ.tag k=.give x)->(γ.setDeaf i (deafBehind (γ.deaf i) es)).deaf k=γ.deaf k:=fun k hk=>by
  show upd γ.deaf i _ k=_
  by_cases e:k=i
  ·subst e
   rw[upd_same]
   rcases hq with q|⟨q1,q2,q3,q4⟩
   ·subst q;rfl
   ·rcases hk with q|q|q|⟨x,q⟩
    ·exact absurd q q1
    ·exact absurd q q2
    ·exact absurd q q3
    ·exact absurd q (q4 x)
  ·exact upd_ne _ _ e
 refine⟨hI.deaf hdf,fun j hj=>⟨rfl,upd_ne _ _ hj,⟨rfl,rfl⟩,fun _=>⟨Nat.le_refl _,fun _ _ _=>rfl,fun _ h1 h2=>⟨h1,h2⟩,fun _ _ _=>rfl,rfl,fun _ h=>h.1,fun h _=>h,rfl,fun _ _ _=>⟨rfl,Nat.le_refl _⟩,fun _ _ _=>⟨rfl,rfl,rfl⟩,fun _ _ _ _ _=>⟨fun _ _ _=>rfl,rfl⟩,fun _ _=>Nat.le_refl _,fun _ _ _=>Iff.rfl,fun _ _ h=>h,fun _=>rfl,fun _ _ _=>.of (c1:=rfl) rfl fun _=>rfl⟩⟩,fun t fn pos hT=>?_,fun _ _ _ _ _ _ _ _=>.inl rfl,.inr fun j hj hw=>wait_keep hw rfl rfl fun _ _=>rfl,rfl,.refl _⟩
 refine hT.hush (i:=i) (fun op hop=>?_) hi ?_ rfl fun k hk=>upd_ne _ _ hk
 ·obtain⟨e,he,rfl⟩:=mem_ofEv hop
  rcases mute e he with h|h<;>(rw[Go.ConcR.ofEvent_loc_mark h];exact⟨rfl,rfl,by simp⟩)
 ·rw[Deaf_own,hT.deaf i]
  exact(upd_same _ _ _).symm
theorem setDeaf_self (γ:Gho) (i:Nat):γ.setDeaf i (γ.deaf i)=γ:=by
 have:upd γ.deaf i (γ.deaf i)=γ.deaf:=by funext k;by_cases e:k=i<;>simp[upd,e]
 unfold Gho.setDeaf
 rw[this]
theorem do_idle (hI:GInv ty top γ w) (hi:i < γ.cnt) (wk:Prop):(crewPact P ty top Post).Do i γ w γ w wk #[]:=by
 have:=do_mute (P:=P) (Post:=Post) (es:=#[]) hI hi (by simp) (.inl rfl) wk
 rw[show deafBehind (γ.deaf i) #[]=γ.deaf i from rfl,setDeaf_self] at this
 exact this
theorem leave_law:∀i γ w es,GInv ty top γ w->(i≠0/\γ.tag i=.gone)->i < γ.cnt->(∀e∈es,Event.mute e=true)->∃γ',(crewPact P ty top Post).Do i γ w γ' w False es/\(i≠0/\γ'.tag i=.gone)/\γ'.deaf i=deafBehind (γ.deaf i) es :=
 fun i γ _ _ hI hg hi hm=>⟨_,do_mute hI hi hm (.inr (by rw[hg.2];simp)) False,hg,upd_same _ _ _⟩
end
end Go.Proofs.YtbicafgmfgdckaaDoor
namespace Go.Proofs.YtbicafgmfgdckaaDoor
open Go Go.Conc
open Go.ConcR (KK wgBlock WgAt stA smA)
open Go.ConcN (sumTo upd upd_same upd_ne sumTo_upd sumTo_congr sumTo_upd_out le_sumTo RelBy PermW WgLive)

section
variable {ty:TypeId} {top:Nat} {γ γ':Gho} {p:Ph} {c:Col} {w w':World} {i j k n:Nat} {t u:Trace} {P:Program} {Post:Value->World->Prop} {es:Array Event} {tag:Nat->Tag}
theorem vc_set (x:Tag) (h1:p.b<=i) (h2:i < p.b+p.W):vcT (upd tag i x) p+(tag i).cw=vcT tag p+x.cw:=by
 have:=sumTo_upd (fun j=>tag (p.b+j)) x Tag.cw (i:=i - p.b) (j:=p.W) (by omega)
 rw[show p.b+(i - p.b)=i by omega] at this
 unfold vcT
 rw[<- this]
 congr 1
 refine sumTo_congr fun a _=>?_
 congr 1
 by_cases e:p.b+a=i
 ·have:a=i - p.b:=by omega
  subst this
  rw[e,upd_same,upd_same]
 ·rw[upd_ne _ _ e,upd_ne _ _ (by omega)]
theorem vc_out (x:Tag) (h1:i < p.b):vcT (upd tag i x) p=vcT tag p:=by
 unfold vcT
 exact sumTo_congr fun a _=>by rw[upd_ne _ _ (by omega)]
theorem vc_pos (h1:1<=vcT tag p):∃i,p.b<=i/\i < p.b+p.W/\(tag i).cw=1:=by
 have key:∀n,1<=sumTo n (fun j=>(tag (p.b+j)).cw)->∃i,p.b<=i/\i < p.b+n/\(tag i).cw=1:=by
  intro n
  induction n with
  | zero=>intro h;simp[sumTo] at h
  | succ n ih =>
   intro h
   simp only[sumTo] at h
   by_cases e:(tag (p.b+n)).cw=1
   ·exact⟨p.b+n,by omega,by omega,e⟩
   ·have:(tag (p.b+n)).cw=0:=by cases q:tag (p.b+n)<;>rw[q] at e<;>simp[Tag.cw] at e ⊢
    obtain⟨i,q1,q2,q3⟩:=ih (by omega)
    exact⟨i,q1,by omega,q3⟩
 exact key p.W h1
theorem Core.cntW (h:Core ty γ p w):γ.cnt<=p.b+p.W:=by
 rw[h.cnt]
 unfold Gho.started
 split
 ·rename_i j q e
  have:=(h.add j q e).1
  omega
 ·omega
theorem heap_setChan (w:World) (c cap:Nat) (buf:Array Value) (cl:Bool) (s r:Nat) (tm:Bool) {b:Nat} (h:b≠c):(w.setChan c cap buf cl s r tm).heap[b]?=w.heap[b]?:=Array.getElem?_setIfInBounds_ne (Ne.symm h)
theorem heap_setChan_same (w:World) (c cap:Nat) (buf:Array Value) (cl:Bool) (s r:Nat) (tm:Bool) (h:c < w.heap.size):(w.setChan c cap buf cl s r tm).heap[c]?=some (.chan cap buf cl s r tm):=Array.getElem?_setIfInBounds_self_of_lt h
theorem same_ph {p p':Ph} (h:γ.ph=some p) (h':γ.ph=some p'):p=p':=Option.some.inj (h.symm.trans h')
theorem same_col {c c':Col} (h:γ.col=some c) (h':γ.col=some c'):c=c':=Option.some.inj (h.symm.trans h')
theorem GInv.dn_ne (hI:GInv ty top γ w) {c:Col} (hc:γ.col=some c) (hp:γ.ph=some p):c.dn≠p.wg/\c.dn≠p.jobs/\c.dn≠p.stop:=by
 have h:=hI.core p hp
 have hC:=hI.coll c hc
 have hm:=hI.mate p c hp hc
 have hf:=hC.f.1
 have e:=hC.bdn
 refine⟨fun q=>?_,fun q=>?_,fun q=>?_⟩
 ·rw[q,h.bwg] at e;injection e with e;omega
 ·rw[q,h.bjobs] at e;injection e with e;omega
 ·rw[q,h.bstop] at e;injection e with e;omega
theorem Coll.retag (h:Coll γ w c) (hs:γ.hs=w.heap.size) (e0:γ'.tag 0=.coll) (e1:(γ'.tag c.f).ended=(γ.tag c.f).ended) (e2:γ'.cnt=γ.cnt) (e3:γ'.hs=γ.hs) (e4:γ'.bk c.dn=.shd 0) (e5:∀b,b < γ.hs->γ'.bk b=.fix 0->γ.bk b=.fix 0) (e6:γ'.deaf 0=γ.deaf 0)
  (e7:∀i x,γ'.tag i=.give x->γ.tag i=.give x/\γ'.deaf i=γ.deaf i/\γ'.gv i=γ.gv i/\γ'.gb i=γ.gb i/\∀B,γ.gb i=some B->B < γ.hs->γ.bk B=.priv i->γ'.bk B=.priv i/\w'.heap[B]?=w.heap[B]?) (hd:w'.heap[c.dn]?=w.heap[c.dn]?) (hf:∀b,b < γ.hs->γ.bk b=.fix 0->w'.heap[b]?=w.heap[b]?):Coll γ' w' c:=by
 refine⟨e0,by rw[e2];exact h.f,e4,?_,fun b hb q=>?_,e6.trans h.deaf,fun i x hx=>?_⟩
 ·obtain⟨s,q⟩:=h.dn
  exact⟨s,by rw[e1,hd];exact q⟩
 ·rw[e3] at hb
  have q':=e5 b hb q
  exact(hf b hb q').trans (h.fix b hb q')
 ·obtain⟨r1,r2,r3,r4,r5⟩:=e7 i x hx
  obtain⟨q1,ob,q2,q3⟩:=h.give i x r1
  refine⟨r2.trans q1,ob,by rw[r3];exact q2,?_⟩
  rw[r4]
  cases hb:γ.gb i with
  | none=>rw[hb] at q3;exact q3
  | some B =>
   rw[hb] at q3
   obtain⟨s1,s2,o,s3,s4⟩:=q3
   obtain⟨u1,u2⟩:=r5 B hb s1 s2
   exact⟨by rw[e3];exact s1,u1,o,u2.trans s3,s4⟩
theorem seek_off (h:SeekI γ p w) (ht:∀x,γ.tag i≠.busy x) {m:Nat} (hm:m < 2):γ.sk.ml m i=.off:=Classical.byContradiction fun q=>let ⟨x,r⟩:=h.busy m i hm q;ht x r
theorem pass_seek (hI:GInv ty top γ w) (hp:γ.ph=some p) (hk:p.kind=.seek) (hn:γ.next < p.n) (hb:p.b<=i) (hi:i < γ.cnt) (ht:γ.tag i=.idle) (s:Nat):SeekI (γ.pass p i) p (w.setChan p.jobs 0 #[] false s s false):=by
 have h:=hI.core p hp
 have hS:=h.seek hk
 have hiW:i < p.b+p.W:=by have:=h.cntW;omega
 have off:∀m,m < 2->γ.sk.ml m i=.off:=fun m hm=>seek_off hS (fun x=>by rw[ht];simp) hm
 have mi:∀m,(γ.pass p i).sk.ml m i=.fresh:=fun m=>if_pos rfl
 have mk:∀m k,k≠i->(γ.pass p i).sk.ml m k=γ.sk.ml m k:=fun m k hk=>if_neg hk
 have hl:=hS.left
 refine⟨hS.bout,hS.bonce,hS.ne,hS.W,?_,?_,fun m hm=>(MuI.give (hS.mi m hm) hb hiW (off m hm)).1,fun m k hm q=>?_,?_,fun k q=>?_,fun q=>hS.lo0 fun k r=>q k ?_,fun k=>?_,fun x q=>⟨(hS.took x q).1,Nat.lt_succ_of_lt (hS.took x q).2⟩,hS.done,hS.stp,fun q1 q2=>?_,hS.od1,fun k x e=>hS.nogive k x ?_⟩
 ·obtain⟨v,q,q2⟩:=hS.best
  exact⟨v,(heap_setChan _ _ _ _ _ _ _ _ fun e=>by have:=hS.bout;rw[e,h.bjobs] at this;cases this).trans q,q2⟩
 ·exact(heap_setChan _ _ _ _ _ _ _ _ hS.ne.2.1).trans hS.once
 ·by_cases e:k=i
  ·exact⟨γ.next,by rw[e];exact upd_same _ _ _⟩
  ·rw[mk m k e] at q
   obtain⟨x,r⟩:=hS.busy m k hm q
   exact⟨x,(upd_ne _ _ e).trans r⟩
 ·show γ.sk.left - 1+(γ.next+1)=p.n;omega
 ·by_cases e:k=i
  ·rw[e,mi] at q;cases q
  ·rw[mk 0 k e] at q;exact hS.lo1 k q
 ·rw[mk 0 k fun e=>by rw[e,off 0 (by omega)] at r;cases r];exact r
 ·by_cases e:k=i
  ·right;left;rw[e,mi]
  ·rw[mk 0 k e,mk 1 k e];exact hS.two k
 ·obtain⟨k,r⟩:=hS.od0 q1 q2
  exact⟨k,by rw[mk 1 k fun e=>by rw[e,off 1 (by omega)] at r;cases r];exact r⟩
 ·have e':upd γ.tag i (.busy γ.next) k=.give x:=e
  by_cases q:k=i
  ·subst q;rw[upd_same] at e';cases e'
  ·rwa [upd_ne _ _ q] at e'
theorem pass_skrel (hI:GInv ty top γ w) (hp:γ.ph=some p) (hn:γ.next < p.n) (hb:p.b<=i) (hi:i < γ.cnt) (ht:γ.tag i=.idle) (hji:j≠i) (hk:p.kind=.seek) (s:Nat):SkRel j p γ w (γ.pass p i) (w.setChan p.jobs 0 #[] false s s false):=by
 have h:=hI.core p hp
 have hS:=h.seek hk
 have hiW:i < p.b+p.W:=by have:=h.cntW;omega
 have hl:=hS.left
 refine⟨fun m hm=>⟨?_,.inl rfl⟩,fun _ _ _=>Nat.le_refl _,fun _=>⟨?_,fun _=>Iff.rfl⟩,fun _ _=>⟨rfl,rfl⟩,fun _ q=>q⟩
 ·have e:mN ML.wt p.b p.W ((γ.pass p i).sk.ml m)=mN ML.wt p.b p.W (γ.sk.ml m)+6:=(MuI.give (hS.mi m hm) hb hiW (seek_off hS (fun x=>by rw[ht];simp) hm)).2
  show 6 * (γ.sk.left - 1)+mN ML.wt p.b p.W ((γ.pass p i).sk.ml m)+(γ.sk.mw m).q<=6 * γ.sk.left+mN ML.wt p.b p.W (γ.sk.ml m)+(γ.sk.mw m).q
  omega
 ·have:(w.setChan p.jobs 0 #[] false s s false).heap[p.out]?=w.heap[p.out]?:=heap_setChan _ _ _ _ _ _ _ _ fun e=>by have:=hS.bout;rw[e,h.bjobs] at this;cases this
  simp only[World.cell?,this]
theorem pass_core (hI:GInv ty top γ w) (hp:γ.ph=some p) (hf:γ.tag p.f=.feed) (hn:γ.next < p.n) (hb:p.b<=i) (hi:i < γ.cnt) (ht:γ.tag i=.idle) (s:Nat):GInv ty top (γ.pass p i) (w.setChan p.jobs 0 #[] false s s false):=by
 have h:=hI.core p hp
 obtain⟨l1,l2,l3⟩:=h.lts hI.hs
 have hsz:(w.setChan p.jobs 0 #[] false s s false).heap.size=w.heap.size:=by simp[World.setChan]
 have hfi:p.f≠i:=by have:=h.fd;omega
 have hi0:i≠0:=by have:=h.fd;omega
 have hcl:(γ.tag p.f).closed=false:=by rw[hf];rfl
 have hother:∀ {k:Nat} {x:Tag},upd γ.tag i (.busy γ.next) k=x->x≠.busy γ.next->γ.tag k=x:=fun {k x} e hx=>by
  by_cases q:k=i
  ·subst q;rw[upd_same] at e;exact absurd e.symm hx
  ·rwa [upd_ne _ _ q] at e
 have tf:(γ.pass p i).tag p.f=.feed:=(upd_ne _ _ hfi).trans hf
 refine⟨by rw[hsz];exact hI.hs,hI.cnt,?_,fun k hk=>?_,fun q=>?_,fun p' hp'=>?_,fun c hc=>?_,fun c _ q=>?_,hI.mate,hI.alone,hI.top⟩
 ·show upd γ.tag i _ 0≠_;rw[upd_ne _ _ (Ne.symm hi0)];exact hI.main
 ·show upd γ.tag i _ k=_;rw[upd_ne _ _ (by have:γ.cnt<=k:=hk;omega)];exact hI.un k hk
 ·have q':γ.ph=none:=q
  rw[hp] at q';cases q'
 ·obtain rfl:=same_ph hp hp'
  refine⟨h.bwg,h.bjobs,h.bstop,h.ne,fun b m hb e=>?_,h.fixm,h.fd,by rw[tf];trivial,?_,(fun j q e=>by rw[tf] at e;cases e),fun k h1 h2 h3=>?_,fun k hk=>?_,fun _ k h1 h2=>?_,?_,⟨s,?_⟩,?_,h.stpk,fun x hx=>?_,?_,(fun e=>by rw[tf] at e;cases e),⟨fun k x e=>?_,fun x hx=>Nat.lt_succ_of_lt (h.busy.2 x hx)⟩,fun k hk=>?_,h.small,h.pos,fun q=>?_,fun q=>pass_seek hI hp q hn hb hi ht s,h.nomix⟩
  ·rw[heap_setChan _ _ _ _ _ _ _ _ (fun q=>by subst q;have e':γ.bk p.jobs=.fix m:=e;rw[h.bjobs] at e';cases e')];exact h.fix b m hb e
  ·show γ.cnt=p.b+(γ.pass p i).started p
   have:=h.cnt
   unfold Gho.started at this ⊢
   rw[tf]
   rw[hf] at this
   exact this
  ·show upd γ.tag i _ k=_;rw[upd_ne _ _ (by omega)];exact h.rest k h1 h2 h3
  ·show (upd γ.tag i _ k).works
   by_cases q:k=i
   ·subst q;rw[upd_same];trivial
   ·rw[upd_ne _ _ q];exact h.wtag k hk
  ·show (upd γ.tag i _ k).early
   by_cases q:k=i
   ·subst q;rw[upd_same];trivial
   ·rw[upd_ne _ _ q];exact h.early hcl k h1 h2
  ·obtain⟨st,sm,q1,q2⟩:=h.wgm
   refine⟨st,sm,q1.of_block (heap_setChan _ _ _ _ _ _ _ _ (Ne.symm h.ne.1)),?_⟩
   cases q2 with
   | opn q3 q4 =>
    have hv:vcT (upd γ.tag i (.busy γ.next)) p=vcT γ.tag p:=by
     have:=vc_set (tag:=γ.tag) (.busy γ.next) hb (by have:=h.cntW;omega)
     rw[ht] at this
     simp only[Tag.cw] at this
     omega
    rw[<- hv,show (γ.tag p.f).pend=((γ.pass p i).tag p.f).pend by rw[tf,hf]]
    refine .opn (by rw[tf];trivial) fun k hk=>?_
    show ¬(upd γ.tag i _ k).lasts
    by_cases q:k=i
    ·subst q;rw[upd_same];exact id
    ·rw[upd_ne _ _ q];exact q4 k hk
   | reg q3=>rw[hf] at q3;cases q3
   | last _ _ q3=>rw[hf] at q3;cases q3
   | sema q3=>rw[hf] at q3;cases q3
   | fin q3=>rw[hf] at q3;cases q3
  ·rw[heap_setChan_same _ _ _ _ _ _ _ _ (by rw[<- hI.hs];exact l2),tf];rfl
  ·rw[heap_setChan _ _ _ _ _ _ _ _ (Ne.symm h.ne.2.2)];exact h.stop
  ·have hx':x < γ.next+1:=hx
   by_cases e:x=γ.next
   ·exact .inr ⟨i,hb,.inl (by show upd γ.tag i _ i=_;rw[upd_same,e])⟩
   ·rcases h.job x (by omega) with q|⟨m,q1,q2⟩
    ·exact .inl q
    ·refine .inr ⟨m,q1,?_⟩
     show (upd γ.tag i _ m).at_ x
     rw[upd_ne _ _ (fun q=>by subst q;rw[ht] at q2;rcases q2 with q2|q2<;>cases q2)];exact q2
  ·show γ.next+1<=p.n;omega
  ·have e':(upd γ.tag i (.busy γ.next) k).at_ x:=e
   by_cases q:k=i
   ·subst q
    rw[upd_same] at e'
    rcases e' with e' | e'
    ·injection e' with e'
     subst e'
     refine⟨Nat.lt_succ_self _,fun r=>Nat.lt_irrefl _ (h.busy.2 _ r),fun j e2=>?_⟩
     by_cases q2:j=k
     ·exact q2
     ·have e3:(upd γ.tag k (.busy γ.next) j).at_ γ.next:=e2
      rw[upd_ne _ _ q2] at e3
      exact absurd (h.busy.1 j _ e3).1 (Nat.lt_irrefl _)
    ·cases e'
   ·rw[upd_ne _ _ q] at e'
    obtain⟨b1,b2,b3⟩:=h.busy.1 k x e'
    refine⟨Nat.lt_succ_of_lt b1,b2,fun j e2=>?_⟩
    have e3:(upd γ.tag i (.busy γ.next) j).at_ x:=e2
    by_cases q2:j=i
    ·subst q2
     rw[upd_same] at e3
     rcases e3 with e3|e3
     ·injection e3 with e3;omega
     ·cases e3
    ·rw[upd_ne _ _ q2] at e3
     exact b3 j e3
  ·exact h.hear k (hk.imp (fun e=>hother e (by simp)) (fun e=>hother e (by simp)))
  ·have hF:=h.fill q
   refine⟨hF.bout,?_,fun k x e o ho=>?_,fun x hx o ho=>?_,fun o=>?_,hF.mixo,fun k x e=>hF.nog k x (hother e (by simp))⟩
   ·obtain⟨cs,q1,q2⟩:=hF.out
    exact⟨cs,by rw[heap_setChan _ _ _ _ _ _ _ _ (fun q=>by have:=hF.bout;rw[q,h.bjobs] at this;cases this)];exact q1,q2⟩
   ·have e':upd γ.tag i (.busy γ.next) k=.busy x:=e
    by_cases q:k=i
    ·subst q
     rw[upd_same] at e'
     injection e' with e'
     show (if p.kind=.fill/\p.out=p.out/\(32 * x+o) / 32=γ.next then some k else _)=_
     rw[if_pos ⟨by assumption,rfl,by omega⟩]
    ·rw[upd_ne _ _ q] at e'
     have hx:=(h.busy.1 k x (.inl e')).1
     show (if p.kind=.fill/\p.out=p.out/\(32 * x+o) / 32=γ.next then some i else _)=_
     rw[if_neg (fun q=>by have:=q.2.2;omega)]
     exact hF.busy k x e' o ho
   ·have hx':γ.next+1<=x:=hx
    show (if p.kind=.fill/\p.out=p.out/\(32 * x+o) / 32=γ.next then some i else _)=_
    rw[if_neg (fun q=>by have:=q.2.2;omega)]
    exact hF.mine x (by omega) o ho
   ·show (if p.kind=.fill/\p.out=p.out/\o / 32=γ.next then some i else _)≠_
    split
    ·simp
    ·exact hF.owm o
 ·have hC:=hI.coll c hc
  have hm:=hI.mate p c hp hc
  obtain⟨n1,n2,n3⟩:=hI.dn_ne hc hp
  refine hC.retag hI.hs ((upd_ne _ _ (Ne.symm hi0)).trans hC.tag0) (by rw[<- hm.1,tf,hf]) rfl rfl hC.bdn (fun _ _ q=>q) rfl (fun k x e=>⟨hother e (by simp),rfl,rfl,rfl,fun B _ _ q=>⟨q,heap_setChan _ _ _ _ _ _ _ _ fun r=>?_⟩⟩) (heap_setChan _ _ _ _ _ _ _ _ n2) fun b _ q=>heap_setChan _ _ _ _ _ _ _ _ fun r=>?_
  ·subst r;rw[h.bjobs] at q;cases q
  ·subst r;rw[h.bjobs] at q;cases q
 ·have q':γ.ph=none:=q
  rw[hp] at q';cases q'
theorem pass_rel (hI:GInv ty top γ w) (hp:γ.ph=some p) (hn:γ.next < p.n) (hb:p.b<=i) (hi:i < γ.cnt) (ht:γ.tag i=.idle) (hj:j≠p.f) (hji:j≠i) (s:Nat):Rel j γ w (γ.pass p i) (w.setChan p.jobs 0 #[] false s s false):=by
 have h:=hI.core p hp
 refine⟨upd_ne _ _ hji,rfl,⟨rfl,rfl⟩,fun _=>⟨Nat.le_refl _,fun _ _ _=>rfl,fun _ h1 h2=>⟨h1,h2⟩,fun b hb e=>heap_setChan _ _ _ _ _ _ _ _ fun q=>?_,rfl,fun _ h=>h.1,fun h _=>h,rfl,fun p' hp' e=>?_,fun _ _ e=>?_,fun _ _ _ _ e=>?_,fun _ _=>Nat.le_succ _,fun _ _ _=>Iff.rfl,fun _ _ h=>h,fun _=>if_neg hji,fun p' hp' hk=>by obtain rfl:=same_ph hp hp'.1;exact pass_skrel hI hp hn hb hi ht hji hk s⟩⟩
 ·subst q;rw[h.bjobs] at e;rcases e with e|⟨m,_,e⟩<;>cases e
 ·obtain rfl:=same_ph hp hp'.1
  exact absurd e.symm hj
 ·rw[hp] at e;cases e
 ·rw[hp] at e;cases e
theorem pass_tr (hI:GInv ty top γ w) (hp:γ.ph=some p) (hf:γ.tag p.f=.feed) (hb:p.b<=i) (hi:i < γ.cnt) (ht:γ.tag i=.idle) {r s:Nat} {x1 x2 x3 x4:MemOp} (h1:x1.g=p.f/\x1.act=.send r s) (h2:x2.g=i/\x2.act=.recv r s 0) (h3:x3.g=p.f/\x3.act=.sendDone r s) (h4:x4.g=i/\x4.act=.recvDone r s) (hT:GTr γ t) :
  GTr (γ.pass p i) (t++#[x1,x2,x3,x4]):=by
 have h:=hI.core p hp
 have hfc:p.f < γ.cnt:=by have:=h.fd;omega
 have hmem:∀op∈#[x1,x2,x3,x4],op.act.touch?=none/\op.g < γ.cnt/\(∀m,op.act≠.mark m):=by
  intro op hop
  simp only[List.mem_toArray,List.mem_cons,List.not_mem_nil,or_false] at hop
  rcases hop with rfl|rfl|rfl|rfl
  ·exact⟨by rw[h1.2];rfl,by rw[h1.1];exact hfc,fun m=>by rw[h1.2];simp⟩
  ·exact⟨by rw[h2.2];rfl,by rw[h2.1];exact hi,fun m=>by rw[h2.2];simp⟩
  ·exact⟨by rw[h3.2];rfl,by rw[h3.1];exact hfc,fun m=>by rw[h3.2];simp⟩
  ·exact⟨by rw[h4.2];rfl,by rw[h4.1];exact hi,fun m=>by rw[h4.2];simp⟩
 have hs:∀op∈#[x1,x2,x3,x4],op.act.touch?=none:=fun op hop=>(hmem op hop).1
 have hkn:=(passed_knows h1 h2 h3 h4 (by rw[hT.deaf];exact h.hear _ (.inr hf)) (by rw[hT.deaf];exact h.hear _ (.inl ht))).1
 have hD:DTr γ.wh (t++#[x1,x2,x3,x4]) γ.cnt:=hT.d.silent (Nat.le_refl _) fun op hop=>⟨(hmem op hop).1,(hmem op hop).2.1⟩
 have hm:∀l,(γ.pass p i).mixAt l=γ.mixAt l\/(p.kind=.fill/\(γ.pass p i).mixAt l=some i/\∃a:Addr,l=.cell a/\a.block=p.out/\a.off / 32=γ.next):=fun l=>by
  cases l with
  | cell a =>
   simp only[Gho.mixAt,Gho.pass]
   by_cases q:p.kind=.fill/\a.block=p.out/\a.off / 32=γ.next
   ·rw[if_pos q];exact .inr ⟨q.1,rfl,a,rfl,q.2.1,q.2.2⟩
   ·rw[if_neg q];exact .inl rfl
  | _=>exact .inl rfl
 have hlive:∀k l,(γ.pass p i).live k l->γ.live k l:=fun k l hk=>⟨hk.1,fun e=>hk.2.1 (by
  show upd γ.tag i _ k=_
  rw[upd_ne _ _ (fun q=>by subst q;rw[ht] at e;cases e)];exact e),hk.2.2⟩
 have hshsame:∀l,(γ.pass p i).wh.sh l->γ.wh.sh l:=fun l hl=>by
  rcases hl with q|⟨q1,q2⟩|q
  ·exact .inl q
  ·rcases hm l with e|⟨_,e,_⟩
   ·exact .inr (.inl ⟨q1,e ▸ q2⟩)
   ·rw[e] at q2;cases q2
  ·exact .inr (.inr q)
 have hshsame2:∀l,γ.wh.sh l->(γ.pass p i).wh.sh l:=fun l hl=>by
  rcases hl with q|⟨q1,q2⟩|q
  ·exact .inl q
  ·rcases hm l with e|⟨hk,_,a,rfl,e1,e2⟩
   ·exact .inr (.inl ⟨q1,e.trans q2⟩)
   ·simp only[Gho.mixAt,e1] at q2;exact absurd q2 ((h.fill hk).owm _)
  ·exact .inr (.inr q)
 have old:∀ {m},(t++#[x1,x2,x3,x4]).counts m->m < t.size:=fun {m} hc=>by
  obtain⟨x,hx,_⟩:=hc
  obtain⟨_,q,_⟩:=touch_of (touch_silent hs hx)
  exact lt_size_of_getElem? q
 refine⟨hD.anew (fun m op x hm hx hs=>.inl ⟨hshsame _ hs,rfl⟩) (fun l hs' hr=>?_) (fun l hs' hr k hk=>hD.ro l (fun q=>hs' (hshsame2 l q)) hr k (hlive k l hk)) fun m a ha hsl=>hshsame2 _ hsl,fun k=>?_,hT.nrel.app fun op hop a=>(hmem op hop).2.2 _,fun m a ha=>hT.low m a (touch_silent hs ha),fun p' hp' k hk hk2 hsd=>?_,fun m hc=>?_,fun c _ q=>?_,fun c _ q=>?_⟩
 ·by_cases hmix:γ.bk (blk l)=.mix
  ·rcases hm l with e|⟨hk,e,a,rfl,e1,e2⟩
   ·have:(γ.pass p i).wh.own l=γ.wh.own l:=by simp only[Gho.wh];rw[show (γ.pass p i).bk=γ.bk from rfl,hmix,e]
    rw[this]
    exact(hD.own l (fun q=>hs' (hshsame2 l q)) hr).mono fun k hk=>hlive k l hk
   ·have e3:(γ.pass p i).wh.own (.cell a)=some i:=by simp only[Gho.wh];rw[show (γ.pass p i).bk=γ.bk from rfl,hmix,e];rfl
    have e4:γ.wh.own (.cell a)=some p.f:=by
     simp only[Gho.wh]
     rw[hmix]
     have:=(h.fill hk).mine γ.next (Nat.le_refl _) (a.off % 32) (Nat.mod_lt _ (by omega))
     rw[show 32 * γ.next+a.off % 32=a.off by omega] at this
     simp only[Gho.mixAt,e1,this];rfl
    have:=hT.d.own (.cell a) (fun q=>hs' (hshsame2 _ q)) hr
    rw[e4] at this
    rw[e3]
    exact Perm.pass (show Perm t p.f _ from this) hs hkn
  ·have:(γ.pass p i).wh.own l=γ.wh.own l:=by
    simp only[Gho.wh];rw[show (γ.pass p i).bk=γ.bk from rfl]
    split
    ·rfl
    ·rename_i q;exact absurd q hmix
    ·rfl
    ·rfl
   rw[this]
   exact(hD.own l (fun q=>hs' (hshsame2 l q)) hr).mono fun k hk=>hlive k l hk
 ·rw[Go.ConcN.Deaf_still t k _ fun op hop=>⟨(hmem op hop).2.2 _,(hmem op hop).2.2 _⟩];exact hT.deaf k
 ·obtain rfl:=same_ph hp hp'
  have hsd':(upd γ.tag i (.busy γ.next) k).said:=hsd
  exfalso
  by_cases q:k=i
  ·subst q;rw[upd_same] at hsd';exact hsd'
  ·rw[upd_ne _ _ q] at hsd'
   have:=h.early (by rw[hf];rfl) k hk hk2
   cases e:γ.tag k<;>rw[e] at this hsd'<;>first|exact this|exact hsd'
 ·have hlt:=old hc
  rcases hT.old m ((counts_old hlt).1 hc) with q|⟨lo,q1,k,q2,q3⟩
  ·exact .inl (q.app _)
  ·exact .inr ⟨lo,q1,k,q2,by rw[g?_old hlt];exact q3⟩
 ·have q':γ.ph=none:=q
  rw[hp] at q';cases q'
 ·have q':γ.ph=none:=q
  rw[hp] at q';cases q'
end
end Go.Proofs.YtbicafgmfgdckaaDoor
namespace Go.Proofs.YtbicafgmfgdckaaDoor
open Go Go.Conc
open Go.ConcR (KK wgBlock WgAt stA smA)
open Go.ConcN (sumTo upd upd_same upd_ne sumTo_upd sumTo_congr sumTo_upd_out le_sumTo RelBy PermW WgLive)

section
variable {ty:TypeId} {top:Nat} {γ γ':Gho} {p:Ph} {c:Col} {w w':World} {i j k n x:Nat} {t u:Trace} {P:Program} {Post:Value->World->Prop} {es:Array Event} {tag:Nat->Tag}
theorem taken_bk {b:Nat} (h:γ.bk b≠.priv i) (hg:∀B,γ.gb i=some B->γ.bk B=.priv i):(γ.taken i x).bk b=γ.bk b:=by
 show (if γ.gb i=some b then _ else _)=_
 rw[if_neg fun q=>h (hg b q)]
theorem taken_bk2 {b:Nat} {y:BK} (h:(γ.taken i x).bk b=y) (hy:y≠.priv 0):γ.bk b=y:=by
 have h':(if γ.gb i=some b then BK.priv 0 else γ.bk b)=y:=h
 split at h'
 ·exact absurd h'.symm hy
 ·exact h'
theorem HandOk.own (h:HandOk γ w c i x):∀B,γ.gb i=some B->B < γ.hs/\γ.bk B=.priv i:=fun B hB=>by
 obtain⟨_,ob,_,h2⟩:=h
 rw[hB] at h2
 exact⟨h2.1,h2.2.1⟩
theorem give_at (hI:GInv ty top γ w) (hc:γ.col=some c) (ht:γ.tag i=.give x):∃p,γ.ph=some p/\p.b<=i/\i < γ.cnt/\i≠0/\x < c.n:=by
 have h0:i≠0:=fun e=>by subst e;rw[(hI.coll c hc).tag0] at ht;cases ht
 cases hp:γ.ph with
 | none =>
  exfalso
  have hL:=hI.lull c hc hp
  by_cases e:i=c.f
  ·subst e
   rcases hL.at_ with⟨q,_⟩|⟨q|q,_⟩<;>(rw[ht] at q;cases q)
  ·have:=hL.rest i h0 e
   rw[ht] at this;cases this
 | some p =>
  have h:=hI.core p hp
  have hm:=hI.mate p c hp hc
  refine⟨p,rfl,Nat.le_of_not_lt fun hlt=>?_,Nat.lt_of_not_le fun q=>?_,h0,?_⟩
  ·by_cases e:i=p.f
   ·have:=h.ftag;rw[<- e,ht] at this;exact this
   ·have:=h.rest i e hlt h0
    rw[ht] at this;cases this
  ·have:=hI.un i q
   rw[ht] at this;cases this
  ·have:=(h.busy.1 i x (.inr ht)).1
   have:=h.nle
   have:=hm.2.2.1
   omega
theorem taken_core (hI:GInv ty top γ w) (hc:γ.col=some c) (ht:γ.tag i=.give x) (s:Nat):GInv ty top (γ.taken i x) (w.setChan c.dn 0 #[] false s s false):=by
 obtain⟨p,hp,hb,hi,hi0,hxn⟩:=give_at hI hc ht
 have h:=hI.core p hp
 have hC:=hI.coll c hc
 have hm:=hI.mate p c hp hc
 have hG:=hC.give i x ht
 have hown:=fun B hB=>(hG.own B hB).2
 obtain⟨l1,l2,l3⟩:=h.lts hI.hs
 obtain⟨n1,n2,n3⟩:=hI.dn_ne hc hp
 have hsz:(w.setChan c.dn 0 #[] false s s false).heap.size=w.heap.size:=by simp[World.setChan]
 have hfi:p.f≠i:=by have:=h.fd;omega
 have hother:∀ {k:Nat} {y:Tag},upd γ.tag i .idle k=y->y≠.idle->γ.tag k=y/\k≠i:=fun {k y} e hx=>by
  by_cases q:k=i
  ·subst q;rw[upd_same] at e;exact absurd e.symm hx
  ·exact⟨by rwa [upd_ne _ _ q] at e,q⟩
 have hat:∀ {k z:Nat},(upd γ.tag i .idle k).at_ z->(γ.tag k).at_ z/\k≠i:=fun {k z} e=>by
  rcases e with e|e
  ·exact⟨.inl (hother e (by simp)).1,(hother e (by simp)).2⟩
  ·exact⟨.inr (hother e (by simp)).1,(hother e (by simp)).2⟩
 have tf:(γ.taken i x).tag p.f=γ.tag p.f:=upd_ne _ _ hfi
 have hv:vcT (upd γ.tag i .idle) p=vcT γ.tag p:=by
  have:=vc_set (tag:=γ.tag) .idle hb (by have:=h.cntW;omega)
  rw[ht] at this
  simp only[Tag.cw] at this
  omega
 have hnf:∀ {b m},γ.bk b=.fix m->b≠c.dn:=fun {b m} e q=>by rw[q,hC.bdn] at e;cases e
 refine⟨by rw[hsz];exact hI.hs,hI.cnt,?_,fun k hk=>?_,fun q=>?_,fun p' hp'=>?_,fun c' hc'=>?_,fun c _ q=>?_,hI.mate,hI.alone,hI.top⟩
 ·show upd γ.tag i _ 0≠_;rw[upd_ne _ _ (Ne.symm hi0)];exact hI.main
 ·show upd γ.tag i _ k=_;rw[upd_ne _ _ (by have:γ.cnt<=k:=hk;omega)];exact hI.un k hk
 ·have q':γ.ph=none:=q
  rw[hp] at q';cases q'
 ·obtain rfl:=same_ph hp hp'
  refine⟨(taken_bk (by rw[h.bwg];simp) hown).trans h.bwg,(taken_bk (by rw[h.bjobs];simp) hown).trans h.bjobs,(taken_bk (by rw[h.bstop];simp) hown).trans h.bstop,h.ne,fun b m hb e=>?_,fun b m hb e=>h.fixm b m hb (taken_bk2 e (by simp)),h.fd,by rw[tf];exact h.ftag,?_,(fun j q e=>by rw[tf] at e;exact h.add j q e),fun k h1 h2 h3=>?_,fun k hk=>?_,fun hcl k h1 h2=>?_,?_,?_,?_,h.stpk,fun z hz=>?_,h.nle,by rw[tf];exact h.full,⟨fun k z e=>⟨(h.busy.1 k z (hat e).1).1,fun r=>r.elim (h.busy.1 k z (hat e).1).2.1 fun r=>(hat e).2 (by subst r;exact(h.busy.1 i z (.inr ht)).2.2 k (hat e).1),fun j e2=>(h.busy.1 k z (hat e).1).2.2 j (hat e2).1⟩,fun z hz=>hz.elim (h.busy.2 z) fun q=>by rw[q];exact(h.busy.1 i x (.inr ht)).1⟩,fun k hk=>?_,h.small,h.pos,fun q=>?_,(fun q=>by rw[hm.2.1] at q;cases q),fun q b hb e=>h.nomix q b hb (taken_bk2 e (by simp))⟩
  ·have e':=taken_bk2 e (by simp)
   rw[heap_setChan _ _ _ _ _ _ _ _ (hnf e')];exact h.fix b m hb e'
  ·show γ.cnt=p.b+(γ.taken i x).started p
   have:=h.cnt
   unfold Gho.started at this ⊢
   rw[tf];exact this
  ·show upd γ.tag i _ k=_;rw[upd_ne _ _ (by omega)];exact h.rest k h1 h2 h3
  ·show (upd γ.tag i _ k).works
   by_cases q:k=i
   ·subst q;rw[upd_same];trivial
   ·rw[upd_ne _ _ q];exact h.wtag k hk
  ·rw[tf] at hcl
   show (upd γ.tag i _ k).early
   by_cases q:k=i
   ·subst q;rw[upd_same];trivial
   ·rw[upd_ne _ _ q];exact h.early hcl k h1 h2
  ·obtain⟨st,sm,q1,q2⟩:=h.wgm
   refine⟨st,sm,q1.of_block (heap_setChan _ _ _ _ _ _ _ _ (Ne.symm n1)),?_⟩
   have hlast:(∀k,p.b<=k->¬(γ.tag k).lasts)->∀k,p.b<=k->¬(upd γ.tag i .idle k).lasts:=fun hnl k hk=>by
    by_cases q:k=i
    ·subst q;rw[upd_same];exact id
    ·rw[upd_ne _ _ q];exact hnl k hk
   cases q2 with
   | opn q3 q4 =>
    have hm:=WMode.opn (tag:=upd γ.tag i .idle) (p:=p) (by rw[upd_ne _ _ hfi];exact q3) (hlast q4)
    rw[upd_ne _ _ hfi,hv] at hm
    exact hm
   | reg q3 q4 q5 =>
    have hm:=WMode.reg (tag:=upd γ.tag i .idle) (p:=p) (by rw[upd_ne _ _ hfi];exact q3) (hlast q4) (by rw[hv];exact q5)
    rw[hv] at hm
    exact hm
   | last L k q3 q4 q5 q6 =>
    exfalso
    by_cases e:i=L
    ·subst e;rw[ht] at q5;cases q5
    ·have:=q6 i hb e;rw[ht] at this;cases this
   | sema q3 q4=>have:=q4 i hb;rw[ht] at this;cases this
   | fin q3 q4=>have:=q4 i hb;rw[ht] at this;cases this
  ·obtain⟨s',q⟩:=h.jobs
   exact⟨s',by rw[tf,heap_setChan _ _ _ _ _ _ _ _ (Ne.symm n2)];exact q⟩
  ·rw[heap_setChan _ _ _ _ _ _ _ _ (Ne.symm n3)];exact h.stop
  ·by_cases e:z=x
   ·exact .inl (.inr e)
   ·rcases h.job z hz with q|⟨m,q1,q2⟩
    ·exact .inl (.inl q)
    ·refine .inr ⟨m,q1,?_⟩
     show (upd γ.tag i _ m).at_ z
     rw[upd_ne _ _ (fun q=>by
      subst q;rw[ht] at q2
      rcases q2 with q2|q2
      ·cases q2
      ·injection q2 with q2;exact e q2.symm)]
     exact q2
  ·by_cases q:k=i
   ·subst q;exact hG.deaf
   ·refine h.hear k (hk.imp (fun e=>?_) fun e=>?_)<;>(have e':upd γ.tag i .idle k=_:=e;rwa [upd_ne _ _ q] at e')
  ·rw[hm.2.1] at q;cases q
 ·obtain rfl:=same_col hc hc'
  have hfe:(γ.tag c.f).ended=false:=by
   have:=h.ftag
   rw[hm.1] at this
   cases e:γ.tag c.f<;>rw[e] at this<;>first|rfl|exact this.elim
  refine⟨(upd_ne _ _ (Ne.symm hi0)).trans hC.tag0,hC.f,(taken_bk (by rw[hC.bdn];simp) hown).trans hC.bdn,⟨s,?_⟩,fun b hb e=>?_,hC.deaf,fun k z e=>?_⟩
  ·rw[heap_setChan_same _ _ _ _ _ _ _ _ (by rw[<- hI.hs];exact hC.lt hI.hs),<- hm.1,tf,hm.1,hfe]
  ·have e':=taken_bk2 e (by simp)
   rw[heap_setChan _ _ _ _ _ _ _ _ (hnf e')];exact hC.fix b hb e'
  ·obtain⟨e',hki⟩:=hother e (by simp)
   obtain⟨q1,ob,q2,q3⟩:=hC.give k z e'
   refine⟨q1,ob,q2,?_⟩
   show match γ.gb k with|none=>_|some B=>_
   cases hB:γ.gb k with
   | none=>rw[hB] at q3;exact q3
   | some B =>
    rw[hB] at q3
    obtain⟨r1,r2,o,r3,r4⟩:=q3
    refine⟨r1,(taken_bk (by rw[r2];intro q;injection q with q;exact hki q) hown).trans r2,o,?_,r4⟩
    rw[heap_setChan _ _ _ _ _ _ _ _ (fun q=>by rw[q,hC.bdn] at r2;cases r2)];exact r3
 ·have q':γ.ph=none:=q
  rw[hp] at q';cases q'
theorem taken_rel (hI:GInv ty top γ w) (hc:γ.col=some c) (ht:γ.tag i=.give x) (hj:j≠0) (hji:j≠i) (s:Nat):Rel j γ w (γ.taken i x) (w.setChan c.dn 0 #[] false s s false):=by
 obtain⟨p,hp,hb,hi,hi0,hxn⟩:=give_at hI hc ht
 have h:=hI.core p hp
 have hC:=hI.coll c hc
 have hown:=fun B hB=>((hC.give i x ht).own B hB).2
 refine⟨upd_ne _ _ hji,rfl,⟨rfl,rfl⟩,fun _=>⟨Nat.le_refl _,fun b hb hk=>taken_bk (hk i (Ne.symm hji)) hown,fun b h1 h2=>⟨h1,taken_bk2 h2 (by intro q;injection q with q;exact hj q)⟩,fun b hb e=>heap_setChan _ _ _ _ _ _ _ _ fun q=>?_,rfl,fun _ h=>h.1,fun h _=>h,rfl,fun p' hp' e=>⟨rfl,?_⟩,fun e=>absurd e hj,fun _ _ _ _ e=>?_,fun _ _=>Nat.le_refl _,fun e=>absurd e hj,fun _ _ h=>h,fun _=>rfl,fun p' hp' hk=>by obtain rfl:=same_ph hp hp'.1;rw[(hI.mate p c hp hc).2.1] at hk;cases hk⟩⟩
 ·subst q;rw[hC.bdn] at e;rcases e with e|⟨m,_,e⟩<;>cases e
 ·obtain rfl:=same_ph hp hp'.1
  have:=vc_set (tag:=γ.tag) .idle hb (by have:=h.cntW;omega)
  rw[ht] at this
  simp only[Tag.cw] at this
  show vcT (upd γ.tag i .idle) p<=vcT γ.tag p
  omega
 ·rw[hp] at e;cases e
theorem taken_tr (hI:GInv ty top γ w) (hc:γ.col=some c) (ht:γ.tag i=.give x) {r s:Nat} {x1 x2 x3 x4:MemOp} (h1:x1.g=i/\x1.act=.send r s) (h2:x2.g=0/\x2.act=.recv r s 0) (h3:x3.g=i/\x3.act=.sendDone r s) (h4:x4.g=0/\x4.act=.recvDone r s) (hT:GTr γ t) :
  GTr (γ.taken i x) (t++#[x1,x2,x3,x4]):=by
 obtain⟨p,hp,hb,hi,hi0,hxn⟩:=give_at hI hc ht
 have h:=hI.core p hp
 have hC:=hI.coll c hc
 have hG:=hC.give i x ht
 have hown:=fun B hB=>(hG.own B hB).2
 have hmem:∀op∈#[x1,x2,x3,x4],op.act.touch?=none/\op.g < γ.cnt/\(∀m,op.act≠.mark m):=by
  intro op hop
  simp only[List.mem_toArray,List.mem_cons,List.not_mem_nil,or_false] at hop
  rcases hop with rfl|rfl|rfl|rfl
  ·exact⟨by rw[h1.2];rfl,by rw[h1.1];exact hi,fun m=>by rw[h1.2];simp⟩
  ·exact⟨by rw[h2.2];rfl,by rw[h2.1];exact hI.cnt,fun m=>by rw[h2.2];simp⟩
  ·exact⟨by rw[h3.2];rfl,by rw[h3.1];exact hi,fun m=>by rw[h3.2];simp⟩
  ·exact⟨by rw[h4.2];rfl,by rw[h4.1];exact hI.cnt,fun m=>by rw[h4.2];simp⟩
 have hs:∀op∈#[x1,x2,x3,x4],op.act.touch?=none:=fun op hop=>(hmem op hop).1
 have hkn:=(passed_knows h1 h2 h3 h4 (by rw[hT.deaf];exact hG.deaf) (by rw[hT.deaf];exact hC.deaf)).1
 have hD:DTr γ.wh (t++#[x1,x2,x3,x4]) γ.cnt:=hT.d.silent (Nat.le_refl _) fun op hop=>⟨(hmem op hop).1,(hmem op hop).2.1⟩
 have hshd:∀ {b s},(γ.taken i x).bk b=.shd s↔γ.bk b=.shd s:=fun {b s}=>⟨fun e=>taken_bk2 e (by simp),fun e=>(taken_bk (by rw[e];simp) hown).trans e⟩
 have hmx:∀ {b},(γ.taken i x).bk b=.mix↔γ.bk b=.mix:=fun {b}=>⟨fun e=>taken_bk2 e (by simp),fun e=>(taken_bk (by rw[e];simp) hown).trans e⟩
 have hlo:∀ {b},(γ.taken i x).bk b=.lock↔γ.bk b=.lock:=fun {b}=>⟨fun e=>taken_bk2 e (by simp),fun e=>(taken_bk (by rw[e];simp) hown).trans e⟩
 have hfx:∀ {b m},(γ.taken i x).bk b=.fix m↔γ.bk b=.fix m:=fun {b m}=>⟨fun e=>taken_bk2 e (by simp),fun e=>(taken_bk (by rw[e];simp) hown).trans e⟩
 have hma:∀l,(γ.taken i x).mixAt l=γ.mixAt l:=fun l=>mix_same (γ':=γ.taken i x) rfl l
 have hsh:∀l,(γ.taken i x).wh.sh l↔γ.wh.sh l:=fun l=>by simp only[Gho.wh,hshd,hmx,hma,hlo]
 have hro:∀l,(γ.taken i x).wh.ro l↔γ.wh.ro l:=fun l=>by simp only[Gho.wh,hfx]
 have hlive:∀k l,(γ.taken i x).live k l->γ.live k l:=fun k l hk=>⟨hk.1,fun e=>hk.2.1 (by
  show upd γ.tag i _ k=_
  rw[upd_ne _ _ (fun q=>by subst q;rw[ht] at e;cases e)];exact e),fun m e=>hk.2.2 m (hfx.2 e)⟩
 have old:∀ {m},(t++#[x1,x2,x3,x4]).counts m->m < t.size:=fun {m} hc=>by
  obtain⟨x,hx,_⟩:=hc
  obtain⟨_,q,_⟩:=touch_of (touch_silent hs hx)
  exact lt_size_of_getElem? q
 refine⟨hD.anew (fun m op z hm hz hs=>.inl ⟨(hsh _).1 hs,?_⟩) (fun l hs' hr=>?_) (fun l hs' hr k hk=>hD.ro l (fun q=>hs' ((hsh l).2 q)) ((hro l).1 hr) k (hlive k l hk)) fun m a ha hsl=>(hsh _).2 hsl,fun k=>?_,hT.nrel.app fun op hop a=>(hmem op hop).2.2 _,fun m a ha=>hT.low m a (touch_silent hs ha),fun p' hp' k hk hk2 hsd=>?_,fun m hc=>?_,fun c _ q=>?_,fun c _ q=>?_⟩
 ·simp only[Gho.wh]
  rcases hs with⟨s,e⟩|⟨e,_⟩|⟨e,_⟩
  ·rw[e,hshd.1 e]
  ·rw[e,hmx.1 e]
  ·rw[e,hlo.1 e]
 ·by_cases hB:γ.gb i=some (blk l)
  ·have e1:(γ.taken i x).wh.own l=some 0:=by
    have:(γ.taken i x).bk (blk l)=.priv 0:=by show (if γ.gb i=some (blk l) then _ else _)=_;rw[if_pos hB]
    simp only[Gho.wh,this]
   have e2:γ.wh.own l=some i:=by simp only[Gho.wh,hown _ hB]
   have:=hT.d.own l (fun q=>hs' ((hsh l).2 q)) fun q=>hr ((hro l).2 q)
   rw[e2] at this
   rw[e1]
   exact Perm.pass (show Perm t i l from this) hs hkn
  ·have e1:(γ.taken i x).bk (blk l)=γ.bk (blk l):=by show (if γ.gb i=some (blk l) then _ else _)=_;rw[if_neg hB]
   have:(γ.taken i x).wh.own l=γ.wh.own l:=by
    simp only[Gho.wh,e1,hma]
    rfl
   rw[this]
   exact(hD.own l (fun q=>hs' ((hsh l).2 q)) fun q=>hr ((hro l).2 q)).mono fun k hk=>hlive k l hk
 ·rw[Go.ConcN.Deaf_still t k _ fun op hop=>⟨(hmem op hop).2.2 _,(hmem op hop).2.2 _⟩];exact hT.deaf k
 ·obtain rfl:=same_ph hp hp'
  have hsd':(upd γ.tag i .idle k).said:=hsd
  by_cases q:k=i
  ·subst q;rw[upd_same] at hsd';exact hsd'.elim
  ·rw[upd_ne _ _ q] at hsd'
   obtain⟨rr,hr⟩:=hT.rel p hp k hk hk2 hsd'
   refine⟨rr,hr.app fun m hm hgm hc=>?_⟩
   have:=old hc
   omega
 ·have hlt:=old hc
  rcases hT.old m ((counts_old hlt).1 hc) with q|⟨lo,q1,k,q2,q3⟩
  ·exact .inl (q.app _)
  ·exact .inr ⟨lo,q1,k,q2,by rw[g?_old hlt];exact q3⟩
 ·have q':γ.ph=none:=q
  rw[hp] at q';cases q'
 ·have q':γ.ph=none:=q
  rw[hp] at q';cases q'
theorem home_shd {b s:Nat}:γ.home.bk b=.shd s↔γ.bk b=.shd s:=by
 simp only[Gho.home]
 cases q:γ.bk b<;>simp
theorem home_lock {b:Nat}:γ.home.bk b=.lock↔γ.bk b=.lock:=by
 simp only[Gho.home]
 cases q:γ.bk b<;>simp
theorem home_not {b:Nat} (h:∀s,γ.bk b≠.shd s) (h2:γ.bk b≠.lock):γ.home.bk b=.priv 0:=by
 simp only[Gho.home]
theorem home_core (hI:GInv ty top γ w) (hc:γ.col=some c) (hf:γ.tag c.f=.gone):GInv ty top γ.home w/\(∀x,x < c.n->γ.done x)/\γ.ph=none:=by
 have hC:=hI.coll c hc
 have hp:γ.ph=none:=by
  cases hp:γ.ph with
  | none=>rfl
  | some p =>
   have h1:=(hI.core p hp).ftag
   rw[(hI.mate p c hp hc).1,hf] at h1
   exact h1.elim
 have hL:=hI.lull c hc hp
 have tz:γ.home.tag 0=.solo:=by show upd γ.tag 0 Tag.solo 0=_;exact upd_same _ _ _
 have tn0:∀k,k≠0->γ.tag k=.gone:=fun k hk=>by
  by_cases e:k=c.f
  ·rw[e];exact hf
  ·exact hL.rest k hk e
 have tn:∀k,k≠0->γ.home.tag k=.gone:=fun k hk=>by show upd γ.tag 0 Tag.solo k=_;rw[upd_ne _ _ hk];exact tn0 k hk
 refine⟨⟨hI.hs,hI.cnt,by rw[tz];simp,fun k hk=>tn k (by have:=hI.cnt;have hk':γ.cnt<=k:=hk;omega),fun _ _=>⟨tz,tn,fun b hb=>?_,fun _=>rfl⟩,fun p' hp'=>?_,(fun c' hc'=>by cases hc'),(fun c' hc'=>by cases hc'),(fun p' c' _ hc'=>by cases hc'),fun p' hp'=>?_,⟨hI.top.1,fun c' hc'=>by cases hc'⟩⟩,?_,hp⟩
 ·cases q:γ.bk b with
  | shd s=>exact .inl ⟨s,home_shd.2 q⟩
  | lock=>exact .inr (.inr (home_lock.2 q))
  | _=>exact .inr (.inl (home_not (by rw[q];simp) (by rw[q];simp)))
 ·have hp'':γ.ph=some p':=hp'
  rw[hp] at hp'';cases hp''
 ·have hp'':γ.ph=some p':=hp'
  rw[hp] at hp'';cases hp''
 ·rcases hL.at_ with⟨q,_⟩|⟨_,q⟩
  ·rw[hf] at q;cases q
  ·exact q
theorem home_tr (hI:GInv ty top γ w) (hc:γ.col=some c) (hf:γ.tag c.f=.gone) {y:MemOp} (hy:y.g=0/\y.act=.recvClosed c.dn) (hT:GTr γ t):GTr γ.home (t++#[y]):=by
 obtain⟨hI',_,hp⟩:=home_core hI hc hf
 have hC:=hI.coll c hc
 have hL:=hI.lull c hc hp
 obtain⟨q,q1,q2,q3⟩:=hT.shut c hc hp hf
 have hmem:∀op∈#[y],op.act.touch?=none/\op.g < γ.cnt/\(∀m,op.act≠.mark m):=fun op hop=>by
  rw[show op=y by simpa using hop,hy.2]
  exact⟨rfl,by rw[hy.1];exact hI.cnt,fun m=>by simp⟩
 have hs:∀op∈#[y],op.act.touch?=none:=fun op hop=>(hmem op hop).1
 have hD:DTr γ.wh (t++#[y]) γ.cnt:=hT.d.silent (Nat.le_refl _) fun op hop=>⟨(hmem op hop).1,(hmem op hop).2.1⟩
 have hq:q < t.size:=lt_of_act? q1
 have py:(t++#[y])[t.size]?=some y:=by rw[Array.getElem?_append_right (Nat.le_refl _)];simp
 have heary:(t++#[y]).heard t.size:=⟨0,by simp[Trace.g?,hy.1],by rw[deaf_old (Nat.le_refl _)];exact(hT.deaf 0).trans hC.deaf⟩
 have all:∀m,t.counts m->Knows (t++#[y]) 0 m:=fun m hm=>by
  rcases q3 m hm with r|r
  ·exact r.app _
  ·refine⟨t.size,y,py,hy.1,.inr ((r.app _).hb (.single (.inr ⟨.closed (c:=c.dn) (by rw[act?_old hq];exact q1) (by rw[act?_of py,hy.2]),(heard_old hq).2 q2,heary⟩)))⟩
 have hsh:∀l,γ.home.wh.sh l->γ.wh.sh l:=fun l h=>by
  rcases h with⟨s,e⟩|⟨e,_⟩|⟨e,e2⟩
  ·exact .inl ⟨s,home_shd.1 e⟩
  ·exfalso
   have e':(match γ.bk (blk l) with | .shd s=>BK.shd s | .lock=>.lock|_=>.priv 0)=.mix:=e
   cases q:γ.bk (blk l)<;>rw[q] at e'<;>cases e'
  ·exact .inr (.inr ⟨home_lock.1 e,e2⟩)
 have hsh2:∀m a,touchAt t m=some a->γ.wh.sh a.loc->γ.home.wh.sh a.loc:=fun m a ha h'=>by
  rcases h' with⟨s,e⟩|⟨e,e2⟩|⟨e,e2⟩
  ·exact .inl ⟨s,home_shd.2 e⟩
  ·exact absurd e (hL.nomix _ (hT.low m a ha))
  ·exact .inr (.inr ⟨home_lock.2 e,e2⟩)
 have hperm:∀l,¬γ.home.wh.sh l->Perm (t++#[y]) 0 l:=fun l hns m a ha e=>by
  have ha':=touch_silent hs ha
  subst e
  exact all m (hT.d.counts ha' fun q=>hns (hsh2 m a ha' q))
 refine⟨hD.anew (fun m op z hm hz hs'=>.inl ⟨hsh _ hs',?_⟩) (fun l hs' hr=>?_) (fun l hs' hr=>?_) fun m a ha hs'=>hsh2 m a (touch_silent hs ha) hs',fun k=>?_,hT.nrel.app fun op hop a=>(hmem op hop).2.2 _,fun m a ha=>hT.low m a (touch_silent hs ha),(fun p' hp'=>by have hp'':γ.ph=some p':=hp';rw[hp] at hp'';cases hp''),fun m hc=>?_,(fun c' hc'=>by cases hc'),fun c' hc'=>by cases hc'⟩
 ·rcases hs' with⟨s,e⟩|⟨e,_⟩|⟨e,_⟩
  ·simp only[Gho.wh];rw[e,home_shd.1 e]
  ·exfalso
   have e':(match γ.bk (blk z.loc) with | .shd s=>BK.shd s | .lock=>.lock|_=>.priv 0)=.mix:=e
   cases q:γ.bk (blk z.loc)<;>rw[q] at e'<;>cases e'
  ·simp only[Gho.wh];rw[e,home_lock.1 e]
 ·have:γ.home.wh.own l=some 0:=by
   by_cases hlk:γ.bk (blk l)=.lock
   ·simp only[Gho.wh,home_lock.2 hlk];rfl
   ·have hb:=home_not (γ:=γ) (b:=blk l) (fun s e=>hs' (.inl ⟨s,home_shd.2 e⟩)) hlk
    simp only[Gho.wh,hb]
  rw[this]
  exact hperm l hs'
 ·exfalso
  obtain⟨m,e⟩:=hr
  have e':(match γ.bk (blk l) with | .shd s=>BK.shd s | .lock=>.lock|_=>.priv 0)=.fix m:=e
  cases q:γ.bk (blk l)<;>rw[q] at e'<;>cases e'
 ·rw[Go.ConcN.Deaf_still t k _ fun op hop=>⟨(hmem op hop).2.2 _,(hmem op hop).2.2 _⟩];exact hT.deaf k
 ·have hlt:m < t.size:=by
   obtain⟨z,hz,_⟩:=hc
   obtain⟨_,q,_⟩:=touch_of (touch_silent hs hz)
   exact lt_size_of_getElem? q
  exact .inl (all m ((counts_old hlt).1 hc))
end
end Go.Proofs.YtbicafgmfgdckaaDoor
namespace Go.Proofs.YtbicafgmfgdckaaDoor
open Go Go.Conc
open Go.ConcR (KK wgBlock WgAt stA smA)
open Go.ConcN (sumTo upd upd_same upd_ne RelBy PermW WgLive)

section
variable {ty:TypeId} {top:Nat} {γ γ':Gho} {p:Ph} {c:Col} {w w':World} {i j k n:Nat} {t u:Trace} {P:Program} {Post:Value->World->Prop} {es:Array Event} {tag:Nat->Tag}
theorem SeekI.retag {x:Tag} (h:SeekI γ p w) (hx:∀y,x≠.give y) (hi:∀y,γ.tag i≠.busy y) (h1:w'.heap[p.out]?=w.heap[p.out]?) (h2:w'.heap[p.once]?=w.heap[p.once]?):SeekI (γ.setTag i x) p w' :=
 h.keep rfl rfl rfl rfl rfl rfl (fun k y e=>(upd_ne _ _ fun r=>by subst r;exact hi y e).trans e) (fun k y e=>by
  have e':upd γ.tag i x k=.give y:=e
  by_cases q:k=i
  ·rw[q,upd_same] at e';exact absurd e' (hx y)
  ·rwa [upd_ne _ _ q] at e') h1 h2
theorem GWait.phase (h:GWait ty i γ w):∃p,γ.ph=some p:=by
 cases h with
 | wg p _ q=>exact⟨p,q⟩
 | que p _ q=>exact⟨p,q⟩
theorem retag_core (hI:GInv ty top γ w) (hp:γ.ph=some p) (hb:p.b<=i) (hi:i < γ.cnt) {x:Tag} (hx:x.works) (hl:¬x.lasts) (hcw:(γ.tag i).cw=1/\x.cw=1) (hcl:(γ.tag p.f).closed=true\/x.early) (hid:x≠.idle/\x≠.feed) (hbz:∀n,¬x.at_ n) (hbz2:∀n,¬(γ.tag i).at_ n) (hgone:γ.tag i≠.gone):GInv ty top (γ.setTag i x) w:=by
 have h:=hI.core p hp
 have hfi:p.f≠i:=by have:=h.fd;omega
 have hi0:i≠0:=by have:=h.fd;omega
 have hnl:¬(γ.tag i).lasts:=fun q=>by cases e:γ.tag i<;>rw[e] at q hcw<;>first|exact q | (have:=hcw.1;simp[Tag.cw] at this)
 have tf:(γ.setTag i x).tag p.f=γ.tag p.f:=upd_ne _ _ hfi
 refine⟨hI.hs,hI.cnt,?_,fun k hk=>?_,fun q=>?_,fun p' hp'=>?_,fun c hc=>?_,fun c _ q=>?_,hI.mate,hI.alone,hI.top⟩
 ·show upd γ.tag i _ 0≠_;rw[upd_ne _ _ (Ne.symm hi0)];exact hI.main
 ·show upd γ.tag i _ k=_;rw[upd_ne _ _ (by have:γ.cnt<=k:=hk;omega)];exact hI.un k hk
 ·have q':γ.ph=none:=q
  rw[hp] at q';cases q'
 ·obtain rfl:=same_ph hp hp'
  have hv:vcT (upd γ.tag i x) p=vcT γ.tag p:=by
   have:=vc_set (tag:=γ.tag) x hb (by have:=h.cntW;omega)
   omega
  refine⟨h.bwg,h.bjobs,h.bstop,h.ne,h.fix,h.fixm,h.fd,by rw[tf];exact h.ftag,?_,fun j q e=>by rw[tf] at e;exact h.add j q e,fun k h1 h2 h3=>?_,fun k hk=>?_,fun hc k h1 h2=>?_,?_,by rw[tf];exact h.jobs,h.stop,h.stpk,fun y hy=>?_,h.nle,by rw[tf];exact h.full,h.busy.of (fun k y e=>?_) rfl fun _=>Iff.rfl,fun k hk=>?_,h.small,h.pos,fun q=>?_,fun q=>(h.seek q).retag (fun y e=>hbz y (.inr e)) (fun y e=>hbz2 y (.inl e)) rfl rfl,h.nomix⟩
  ·show γ.cnt=p.b+(γ.setTag i x).started p
   have:=h.cnt
   unfold Gho.started at this ⊢
   rw[tf]
   exact this
  ·show upd γ.tag i _ k=_;rw[upd_ne _ _ (by omega)];exact h.rest k h1 h2 h3
  ·show (upd γ.tag i _ k).works
   by_cases q:k=i
   ·subst q;rw[upd_same];exact hx
   ·rw[upd_ne _ _ q];exact h.wtag k hk
  ·rw[tf] at hc
   show (upd γ.tag i _ k).early
   by_cases q:k=i
   ·subst q;rw[upd_same];exact hcl.resolve_left (by rw[hc];simp)
   ·rw[upd_ne _ _ q];exact h.early hc k h1 h2
  ·obtain⟨st,sm,q1,q2⟩:=h.wgm
   refine⟨st,sm,q1,?_⟩
   have hlast:∀k,p.b<=k->¬(γ.tag k).lasts->¬(upd γ.tag i x k).lasts:=fun k _ hk=>by
    by_cases q:k=i
    ·subst q;rw[upd_same];exact hl
    ·rw[upd_ne _ _ q];exact hk
   cases q2 with
   | opn q3 q4 =>
    rw[<- hv,show (γ.tag p.f).pend=((γ.setTag i x).tag p.f).pend by rw[tf]]
    exact .opn (by rw[tf];exact q3) fun k hk=>hlast k hk (q4 k hk)
   | reg q3 q4 q5 =>
    rw[<- hv]
    exact .reg (by rw[tf];exact q3) (fun k hk=>hlast k hk (q4 k hk)) (by show 1<=vcT (upd γ.tag i x) p;rw[hv];exact q5)
   | last L k q3 q4 q5 q6 =>
    exfalso
    by_cases e:i=L
    ·subst e;rw[q5] at hnl;exact hnl trivial
    ·exact hgone (q6 i hb e)
   | sema q3 q4=>exact absurd (q4 i hb) hgone
   | fin q3 q4=>exact absurd (q4 i hb) hgone
  ·rcases h.job y hy with q|⟨m,q1,q2⟩
   ·exact .inl q
   ·refine .inr ⟨m,q1,?_⟩
    show (upd γ.tag i _ m).at_ y
    rw[upd_ne _ _ (fun q=>by subst q;exact hbz2 y q2)];exact q2
  ·have e':(upd γ.tag i x k).at_ y:=e
   by_cases q:k=i
   ·subst q;rw[upd_same] at e';exact absurd e' (hbz y)
   ·rw[upd_ne _ _ q] at e';exact e'
  ·refine h.hear k (hk.imp (fun e=>?_) fun e=>?_) <;>
    (have e':upd γ.tag i x k=_:=e
     by_cases q:k=i
     ·subst q;rw[upd_same] at e';first|exact absurd e' hid.1|exact absurd e' hid.2
     ·rwa [upd_ne _ _ q] at e')
  ·have hF:=h.fill q
   refine⟨hF.bout,hF.out,fun k y e=>?_,hF.mine,hF.owm,hF.mixo,fun k y e=>?_⟩
   ·have e':upd γ.tag i x k=.busy y:=e
    by_cases q:k=i
    ·subst q;rw[upd_same] at e';exact absurd (.inl e') (hbz y)
    ·rw[upd_ne _ _ q] at e';exact hF.busy k y e'
   ·have e':upd γ.tag i x k=.give y:=e
    by_cases q:k=i
    ·subst q;rw[upd_same] at e';exact absurd (.inr e') (hbz y)
    ·rw[upd_ne _ _ q] at e';exact hF.nog k y e'
 ·have hm:=hI.mate p c hp hc
  refine(hI.coll c hc).retag hI.hs ((upd_ne _ _ (Ne.symm hi0)).trans (hI.coll c hc).tag0) (by rw[<- hm.1,tf]) rfl rfl (hI.coll c hc).bdn (fun _ _ q=>q) rfl (fun k y e=>?_) rfl fun _ _ _=>rfl
  have e':upd γ.tag i x k=.give y:=e
  by_cases q:k=i
  ·subst q;rw[upd_same] at e';exact absurd (.inr e') (hbz y)
  ·rw[upd_ne _ _ q] at e';exact⟨e',rfl,rfl,rfl,fun _ _ _ q=>⟨q,rfl⟩⟩
 ·have q':γ.ph=none:=q
  rw[hp] at q';cases q'
theorem retag_rel {x:Tag} (hji:j≠i) (hp:γ.ph≠none) (hv:∀p,γ.ph=some p->vcT (upd γ.tag i x) p<=vcT γ.tag p):Rel j γ w (γ.setTag i x) w :=
 ⟨upd_ne _ _ hji,rfl,⟨rfl,rfl⟩,fun _=>⟨Nat.le_refl _,fun _ _ _=>rfl,fun _ h1 h2=>⟨h1,h2⟩,fun _ _ _=>rfl,rfl,fun _ h=>h.1,fun h _=>h,rfl,fun p hp _=>⟨rfl,hv p hp.1⟩,fun _ _ e=>absurd e hp,fun _ _ _ _ e=>absurd e hp,fun _ _=>Nat.le_refl _,fun _ _ _=>Iff.rfl,fun _ _ h=>h,fun _=>rfl,fun _ _ _=>.of (c1:=rfl) rfl fun _=>rfl⟩⟩
theorem GTr.retag {x:Tag} (h:GTr γ t) (hp:γ.ph≠none) (hl:∀k l,(γ.setTag i x).live k l->γ.live k l) (hr:∀p,γ.ph=some p->p.b<=i->i < γ.cnt->x.said->∃r,RelBy (stA p.wg) t i r):GTr (γ.setTag i x) t:=by
 refine⟨h.d.low h.low (fun _ _=>rfl) rfl rfl fun k l _=>hl k l,h.deaf,h.nrel,h.low,fun p hp k hk hk2 hs=>?_,h.old,fun _ _ q=>absurd q hp,fun _ _ q=>absurd q hp⟩
 have hs':(upd γ.tag i x k).said:=hs
 by_cases q:k=i
 ·subst q;rw[upd_same] at hs';exact hr p hp hk hk2 hs'
 ·rw[upd_ne _ _ q] at hs';exact h.rel p hp k hk hk2 hs'
theorem one_op {y:MemOp} {op:MemOp} (h:op∈#[y]):op=y:=by simpa using h
theorem one_case {k:Nat} {x y:CommCase} (h:(#[x]:Array CommCase)[k]?=some y):k=0/\y=x:=by
 cases k with
 | zero=>exact⟨rfl,by simpa using h.symm⟩
 | succ k=>simp at h
theorem two_case {k:Nat} {x x' y:CommCase} (h:(#[x,x']:Array CommCase)[k]?=some y):(k=0/\y=x)\/(k=1/\y=x'):=by
 match k,h with
 | 0,h=>exact .inl ⟨rfl,by simpa using h.symm⟩
 | 1,h=>exact .inr ⟨rfl,by simpa using h.symm⟩
 | k+2,h=>simp at h
theorem hush_at (hI:GInv ty top γ w) (hi:i < γ.cnt) {x:MemOp} {r:Nat} (hx:x.g=i/\x.act=.recvClosed r) (hT:GTr γ t):GTr γ (t++#[x]) :=
 hT.hush (i:=i) (fun op hop=>by rw[one_op hop];exact⟨hx.1,by rw[hx.2];rfl,by rw[hx.2];simp⟩) hi (by
  rw[Go.ConcN.Deaf_still t i _ fun op hop=>by rw[one_op hop,hx.2];simp];exact hT.deaf i) rfl fun _ _=>rfl
theorem crew_shut:∀i γ w cs b (k:Nat) c r s rc,GInv ty top γ w->i < γ.cnt->GOffer i γ cs b->cs[k]?=some c->c.send=none->c.chan=.chan (some r)->w.heap[r]?=some (Obj.chan 0 #[] true s rc false) ->
  ∃γ',GInv ty top γ' w/\GResult i γ w b k c.zero false γ' w/\(∀j,j≠i->Rel j γ w γ' w/\(GWait ty j γ w->GWait ty j γ' w))/\γ'.cnt=γ.cnt/\∀t x,x.g=i/\x.act=.recvClosed r->GTr γ t->GTr γ' (t++#[x]):=by
 intro i γ w cs b k c r s rc hI hi hof hk hs hr hc
 have stopped:∀ {p:Ph},γ.ph=some p->r=p.stop->γ.stp=true:=fun {p} hp e=>by
  have:=(hI.core p hp).stop
  rw[<- e,hc] at this
  injection this with this
  injection this with _ _ q
  exact q.symm
 cases hof with
 | idle p z hp hb ht h4 h5 =>
  subst h5
  obtain⟨rfl,rfl⟩:=one_case hk
  obtain rfl:=rc_chan hr
  have h:=hI.core p hp
  have hcl:(γ.tag p.f).closed=true:=by
   obtain⟨s',q⟩:=h.jobs
   rw[q] at hc
   injection hc with hc
   injection hc
  refine⟨γ.setTag i .out,retag_core hI hp hb hi trivial id (by rw[ht];exact⟨rfl,rfl⟩) (.inl hcl) (by simp) (by simp[Tag.at_]) (by rw[ht];simp[Tag.at_]) (by rw[ht];simp),.out p hp hb ht rfl rfl rfl,fun j hj=>⟨retag_rel hj (by rw[hp];simp) fun p' hp'=>?_,fun hw=>wait_keep hw rfl (upd_ne _ _ hj) fun _ _=>rfl⟩,rfl,fun t x hx hT=>?_⟩
  ·obtain rfl:=same_ph hp hp'
   have:=vc_set (tag:=γ.tag) .out hb (by have:=h.cntW;omega)
   rw[ht] at this
   simp only[Tag.cw] at this
   omega
  ·exact(hush_at hI hi hx hT).retag (by rw[hp];simp) (fun k l hk=>⟨hk.1,fun e=>hk.2.1 (by
    show upd γ.tag i _ k=_
    rw[upd_ne _ _ (fun q=>by subst q;rw[ht] at e;cases e)];exact e),hk.2.2⟩) fun _ _ _ _ q=>q.elim
 | peek p z hp h2 h3 h4 h5 =>
  subst h5
  obtain⟨rfl,rfl⟩:=one_case hk
  have e:=rc_chan hr
  exact⟨γ,hI,.stop p hp h2 h3 (by rw[h4];rfl) rfl (stopped hp e) rfl rfl,fun j _=>⟨.refl _ _ _,id⟩,rfl,fun t x hx hT=>hush_at hI hi hx hT⟩
 | feed p z z' hp h2 h3 h4 h5 h6 =>
  subst h6
  rcases two_case hk with⟨rfl,rfl⟩|⟨rfl,rfl⟩
  ·simp[scase] at hs
  ·have e:=rc_chan hr
   exact⟨γ,hI,.stop p hp h2 h3 (by rw[h4];rfl) rfl (stopped hp e) rfl rfl,fun j _=>⟨.refl _ _ _,id⟩,rfl,fun t x hx hT=>hush_at hI hi hx hT⟩
 | coll c z h1 h2 h3 h4 =>
  subst h4
  obtain⟨rfl,rfl⟩:=one_case hk
  obtain rfl:=rc_chan hr
  have hcl:γ.tag c.f=.gone:=by
   obtain⟨s',q⟩:=(hI.coll c h1).dn
   rw[q] at hc
   injection hc with hc
   injection hc with _ _ e
   cases q:γ.tag c.f<;>rw[q] at e<;>first|rfl|cases e
  obtain⟨q1,q2,q3⟩:=home_core hI h1 hcl
  have hL:=hI.lull c h1 q3
  refine⟨γ.home,q1,.home c h1 h2 rfl q2 rfl rfl,fun j hj=>⟨⟨upd_ne _ _ (by omega),rfl,⟨rfl,rfl⟩,fun e=>?_⟩,fun hw=>?_⟩,rfl,fun t x hx hT=>home_tr hI h1 hcl (by rw[<- h2];exact hx) hT⟩
  ·exfalso
   by_cases q:j=c.f
   ·rw[q] at e;exact e hcl
   ·exact e (hL.rest j (by omega) q)
  ·obtain⟨p,q⟩:=hw.phase
   rw[q3] at q;cases q
 | give c x z h1 h2 h3 h4 h5 =>
  subst h5
  obtain⟨rfl,rfl⟩:=one_case hk
  simp[scase] at hs
theorem crew_none:∀i γ w cs,GInv ty top γ w->i < γ.cnt->GOffer i γ cs false->∃γ',GInv ty top γ' w/\GResult i γ w false (-1) undef false γ' w/\(∀j,j≠i->Rel j γ w γ' w/\(GWait ty j γ w->GWait ty j γ' w))/\γ'.cnt=γ.cnt/\∀t,GTr γ t->GTr γ' t:=by
 intro i γ w cs hI hi h
 cases h with
 | peek p z h1 h2 h3 h4 h5=>exact⟨γ,hI,.peek p h1 h2 h3 rfl rfl rfl rfl rfl rfl,fun j _=>⟨.refl _ _ _,id⟩,rfl,fun t h=>h⟩
 | idle _ _ _ _ _ h=>cases h
 | feed _ _ _ _ _ _ h=>cases h
 | coll _ _ _ _ h=>cases h
 | give _ _ _ _ _ _ h=>cases h
theorem feeds_open (hI:GInv ty top γ w) {c:Col} (hc:γ.col=some c) (hp:γ.ph=some p):(γ.tag c.f).ended=false:=by
 have:=(hI.core p hp).ftag
 rw[(hI.mate p c hp hc).1] at this
 cases e:γ.tag c.f<;>rw[e] at this<;>first|rfl|exact this.elim
theorem crew_made:∀i γ w cases b,GInv ty top γ w->GOffer i γ cases b->Open w cases:=by
 intro i γ w cases b hI hof c hc
 cases hof with
 | idle p z hp hb ht h4 h5 =>
  obtain⟨s,hj⟩:=(hI.core p hp).jobs
  obtain rfl:c=rcase p.jobs z:=by rw[h5] at hc;simpa using hc
  exact⟨p.jobs,s,s,_,rfl,hj,by simp[rcase]⟩
 | peek p z hp h2 h3 h4 h5 =>
  obtain rfl:c=rcase p.stop z:=by rw[h5] at hc;simpa using hc
  exact⟨p.stop,0,0,_,rfl,(hI.core p hp).stop,by simp[rcase]⟩
 | feed p z z' hp h2 h3 h4 h5 h6 =>
  obtain⟨s,hj⟩:=(hI.core p hp).jobs
  rw[h6] at hc
  simp only[List.mem_toArray,List.mem_cons,List.not_mem_nil,or_false] at hc
  rcases hc with rfl|rfl
  ·exact⟨p.jobs,s,s,_,rfl,hj,fun _=>by rw[<- h2,h3];rfl⟩
  ·exact⟨p.stop,0,0,_,rfl,(hI.core p hp).stop,by simp[rcase]⟩
 | coll c' z h1 h2 h3 h4 =>
  obtain⟨s,hj⟩:=(hI.coll c' h1).dn
  obtain rfl:c=rcase c'.dn z:=by rw[h4] at hc;simpa using hc
  exact⟨c'.dn,s,s,_,rfl,hj,by simp[rcase]⟩
 | give c' x z h1 h2 h3 h4 h5 =>
  obtain⟨s,hj⟩:=(hI.coll c' h1).dn
  obtain⟨p,hp,_⟩:=give_at hI h1 h3
  obtain rfl:c=scase c'.dn (γ.gv i) z:=by rw[h5] at hc;simpa using hc
  exact⟨c'.dn,s,s,_,rfl,hj,fun _=>feeds_open hI h1 hp⟩
theorem crew_meet:∀i h γ w cs cs' b b' (k k':Nat) c c' v r s rc,GInv ty top γ w->i≠h->i < γ.cnt->h < γ.cnt->GOffer i γ cs b->GOffer h γ cs' b'->cs[k]?=some c->cs'[k']?=some c'->c.send=some v->c'.send=none->c.chan=.chan (some r)->c'.chan=.chan (some r)->w.heap[r]?=some (Obj.chan 0 #[] false s rc false) ->
  ∃γ',GInv ty top γ' (w.setChan r 0 #[] false (s+1) (rc+1) false)/\GResult i γ w b k undef false γ' (w.setChan r 0 #[] false (s+1) (rc+1) false)/\GResult h γ w b' k' v true γ' (w.setChan r 0 #[] false (s+1) (rc+1) false) /\
   (∀j,j≠i->j≠h->Rel j γ w γ' (w.setChan r 0 #[] false (s+1) (rc+1) false)/\(GWait ty j γ w->GWait ty j γ' (w.setChan r 0 #[] false (s+1) (rc+1) false)))/\γ'.cnt=γ.cnt /\
   ∀t x1 x2 x3 x4,x1.g=i/\x1.act=.send r s->x2.g=h/\x2.act=.recv r rc 0->x3.g=i/\x3.act=.sendDone r s->x4.g=h/\x4.act=.recvDone r rc->GTr γ t->GTr γ' (t++#[x1,x2,x3,x4]):=by
 intro i h γ w cs cs' b b' k k' c c' v r s rc hI hih hi hh ho1 ho2 hk hk' hs hs' hr hr' hc
 cases ho1 with
 | idle p z _ _ _ _ h5=>subst h5;obtain⟨_,rfl⟩:=one_case hk;simp[rcase] at hs
 | peek p z _ _ _ _ h5=>subst h5;obtain⟨_,rfl⟩:=one_case hk;simp[rcase] at hs
 | coll c z _ _ _ h5=>subst h5;obtain⟨_,rfl⟩:=one_case hk;simp[rcase] at hs
 | feed p z z' hp hf ht hbt hn h6 =>
  subst h6
  obtain⟨rfl,rfl⟩:k=0/\c=scase p.jobs (.int .i64 γ.next) z:=by
   rcases two_case hk with q|⟨_,rfl⟩
   ·exact q
   ·simp[rcase] at hs
  obtain rfl:v=.int .i64 γ.next:=by simpa [scase,eq_comm] using hs
  obtain rfl:=sc_chan hr
  have hC:=hI.core p hp
  have hrecv:p.b<=h/\γ.tag h=.idle:=by
   cases ho2 with
   | idle p' z2 hp' q2 q3 _ _=>obtain rfl:=same_ph hp hp';exact⟨q2,q3⟩
   | peek p' z2 hp' q2 _ _ _=>obtain rfl:=same_ph hp hp';exact absurd (hf.trans q2.symm) hih
   | feed p' z2 z3 hp' q2 _ _ _ _=>obtain rfl:=same_ph hp hp';exact absurd (hf.trans q2.symm) hih
   | coll c2 z2 q1 _ _ q4 =>
    subst q4
    obtain⟨_,rfl⟩:=one_case hk'
    exact absurd (rc_chan hr').symm (hI.dn_ne q1 hp).2.1
   | give c2 x z2 _ _ _ _ q5=>subst q5;obtain⟨_,rfl⟩:=one_case hk';simp[scase] at hs'
  obtain⟨hb,hth⟩:=hrecv
  obtain⟨s0,hj⟩:=hC.jobs
  rw[hj] at hc
  injection hc with hc
  injection hc with _ _ _ e1 e2
  subst e1 e2
  subst hf
  refine⟨γ.pass p h,pass_core hI hp ht hn hb hh hth _,.fed p h _ hp rfl ht hbt rfl rfl rfl hb hth rfl rfl,.job p _ hp hb hth rfl rfl rfl hn rfl,fun j hj1 hj2=>⟨pass_rel hI hp hn hb hh hth hj1 hj2 _,fun hw=>wait_keep' hw rfl (upd_ne _ _ hj2) (fun m q=>⟨(if_neg hj2).trans q,id⟩) fun p' hp'=>?_⟩,rfl,fun t x1 x2 x3 x4 h1 h2 h3 h4 hT=>pass_tr hI hp ht hb hh hth h1 h2 h3 h4 hT⟩
  obtain rfl:=same_ph hp hp'
  exact heap_setChan _ _ _ _ _ _ _ _ (Ne.symm hC.ne.1)
 | give c x z h1 h2 h3 h4 h5 =>
  subst h5
  obtain⟨rfl,rfl⟩:=one_case hk
  obtain rfl:v=γ.gv i:=by simpa [scase,eq_comm] using hs
  obtain rfl:=sc_chan hr
  obtain⟨p,hp,hb,hi',hi0,hxn⟩:=give_at hI h1 h3
  have hC:=hI.coll c h1
  obtain⟨n1,n2,n3⟩:=hI.dn_ne h1 hp
  have hrecv:h=0/\k'=0:=by
   cases ho2 with
   | idle p' z2 hp' q2 q3 _ q5 =>
    obtain rfl:=same_ph hp hp'
    subst q5
    obtain⟨_,rfl⟩:=one_case hk'
    exact absurd (rc_chan hr') n2
   | peek p' z2 hp' q2 _ _ q5 =>
    obtain rfl:=same_ph hp hp'
    subst q5
    obtain⟨_,rfl⟩:=one_case hk'
    exact absurd (rc_chan hr') n3
   | feed p' z2 z3 hp' q2 _ _ _ q5 =>
    obtain rfl:=same_ph hp hp'
    subst q5
    rcases two_case hk' with⟨_,rfl⟩|⟨_,rfl⟩
    ·simp[scase] at hs'
    ·exact absurd (rc_chan hr') n3
   | coll c2 z2 q1 q2 _ q4 =>
    subst q4
    exact⟨q2,(one_case hk').1⟩
   | give c2 x z2 _ _ _ _ q5=>subst q5;obtain⟨_,rfl⟩:=one_case hk';simp[scase] at hs'
  obtain⟨rfl,rfl⟩:=hrecv
  obtain⟨s0,hj⟩:=hC.dn
  rw[hj] at hc
  injection hc with hc
  injection hc with _ _ _ e1 e2
  subst e1 e2
  refine⟨γ.taken i x,taken_core hI h1 h3 _,.gave c x _ h1 h2 h3 rfl rfl rfl rfl rfl,.took c i x _ h1 rfl rfl rfl h3 rfl hxn (((hI.core _ hp).busy.1 i x (.inr h3)).2.1) (hC.give i x h3) rfl rfl,fun j hj1 hj2=>⟨taken_rel hI h1 h3 hj2 hj1 _,fun hw=>wait_keep hw rfl (upd_ne _ _ hj1) fun p' hp'=>?_⟩,rfl,fun t x1 x2 x3 x4 h1' h2' h3' h4' hT=>taken_tr hI h1 h3 h1' h2' h3' h4' hT⟩
  obtain rfl:=same_ph hp hp'
  exact heap_setChan _ _ _ _ _ _ _ _ (Ne.symm n1)
theorem crew_live:∀γ w (S:Nat->Option (Array CommCase)),GInv ty top γ w->(∀i,i < γ.cnt->match S i with
   | .none=>(i≠0/\γ.tag i=.gone)\/GWait ty i γ w
   | .some cs=>GOffer i γ cs true/\∀c∈cs,∀r,c.chan=.chan (some r)->(∀cap buf s rc tm,w.heap[r]?≠some (Obj.chan cap buf true s rc tm))/\∀j cs',j≠i->j < γ.cnt->S j=some cs'->∀c'∈cs',c'.chan=.chan (some r)->c'.send.isSome=c.send.isSome)->False:=by
 intro γ w S hI hS'
 have hS:=hS'
 have main0:γ.ph=none->∃c z,γ.col=some c/\S 0=some #[rcase c.dn z]:=fun hp=>by
  have h0:=hS 0 hI.cnt
  cases e:S 0 with
  | none =>
   rw[e] at h0
   rcases h0 with⟨h0,_⟩|hw
   ·exact absurd rfl h0
   ·obtain⟨p,h0⟩:=hw.phase;rw[hp] at h0;cases h0
  | some cs =>
   rw[e] at h0
   cases h0.1 with
   | idle p _ q=>rw[hp] at q;cases q
   | peek p _ q=>rw[hp] at q;cases q
   | feed p _ _ q=>rw[hp] at q;cases q
   | coll c z q1 _ _ q4=>exact⟨c,z,q1,by rw[q4]⟩
   | give c x z _ q=>exact absurd rfl q
 cases hp:γ.ph with
 | none =>
  obtain⟨c,z,hc,e⟩:=main0 hp
  have h0:=hS 0 hI.cnt
  rw[e] at h0
  have hC:=hI.coll c hc
  have hL:=hI.lull c hc hp
  have hf:=hS c.f hC.f.2.1
  cases ef:S c.f with
  | none =>
   rw[ef] at hf
   rcases hf with⟨_,q⟩|hw
   ·obtain⟨s,hd⟩:=hC.dn
    rw[q] at hd
    exact(h0.2 (rcase c.dn z) (by simp) c.dn rfl).1 _ _ _ _ _ hd
   ·obtain⟨p,q⟩:=hw.phase;rw[hp] at q;cases q
  | some cs =>
   rw[ef] at hf
   have hf0:=hC.f.1
   cases hf.1 with
   | idle p _ q=>rw[hp] at q;cases q
   | peek p _ q=>rw[hp] at q;cases q
   | feed p _ _ q=>rw[hp] at q;cases q
   | coll c' _ _ q=>omega
   | give c' x _ _ _ q =>
    rcases hL.at_ with⟨r,_⟩|⟨r|r,_⟩<;>(rw[q] at r;cases r)
 | some p =>
  have h:=hI.core p hp
  have hfc:p.f < γ.cnt:=by have:=h.fd;have:=h.cnt;omega
  have noq:∀ {p':Ph} {i m:Nat},γ.ph=some p'->p'.kind=.seek->m < 2->γ.sk.ml m i=.que->(γ.sk.mw m).q=0->False:=fun {p' i m} hp' hk hm hq h0=>by
   obtain rfl:=same_ph hp hp'
   have hS:=h.seek hk
   obtain⟨j,j1,j2,a1,a2,a3⟩:=(hS.mi m hm).live hq h0
   obtain⟨x,hx⟩:=hS.busy m j hm a1
   have hjc:j < γ.cnt:=Nat.lt_of_not_le fun q=>by rw[hI.un j q] at hx;cases hx
   have hj:=hS.two j
   have hSj:=hS' j hjc
   cases e:S j with
   | none =>
    rw[e] at hSj
    rcases hSj with⟨_,q⟩|hw
    ·rw[hx] at q;cases q
    ·cases hw with
     | wg p'' st _ _ q=>rw[hx] at q;cases q
     | que p'' m' _ _ hm' q _ =>
      have q':γ.sk.ml m' j≠.off/\γ.sk.ml m' j≠.fresh:=by rw[q];simp
      by_cases em:m'=m
      ·subst em;exact a3 q
      ·rcases (show (m=0/\m'=1)\/(m=1/\m'=0) by omega) with⟨rfl,rfl⟩|⟨rfl,rfl⟩
       ·rcases hj with r|r|r|r
        ·exact a1 r
        ·exact a2 r
        ·exact q'.1 r
        ·exact q'.2 r
       ·rcases hj with r|r|r|r
        ·exact q'.1 r
        ·exact q'.2 r
        ·exact a1 r
        ·exact a2 r
   | some cs =>
    rw[e] at hSj
    cases hSj.1 with
    | idle _ _ _ _ q=>rw[hx] at q;cases q
    | peek _ _ _ _ q=>rw[hx] at q;cases q
    | feed _ _ _ _ _ q=>rw[hx] at q;cases q
    | coll c z q1 q2=>rw[q2,(hI.coll c q1).tag0] at hx;cases hx
    | give _ _ _ _ _ q=>rw[hx] at q;cases q
  have hnog:∀i c x z,i < γ.cnt->i≠0->γ.col=some c->S i=some #[scase c.dn (γ.gv i) z]->γ.tag i=.give x->False:=fun i c x z hi hi0 hc e ht=>by
   have h0:=hS 0 hI.cnt
   have hC:=hI.coll c hc
   cases e0:S 0 with
   | none =>
    rw[e0] at h0
    rcases h0 with⟨q,_⟩|hw
    ·exact q rfl
    ·cases hw with
     | wg p' st q1 q2 =>
      obtain rfl:=same_ph hp q1
      have:=(hI.mate p c hp hc).1
      have:=hC.f.1
      omega
     | que p' m q1 q2 q3 q4 q5=>exact noq q1 q2 q3 q4 q5
   | some cs =>
    rw[e0] at h0
    cases h0.1 with
    | idle p' _ q1 _ q2=>rw[hC.tag0] at q2;cases q2
    | peek p' _ q1 _ q2=>rw[hC.tag0] at q2;cases q2
    | feed p' _ _ q1 _ q2=>rw[hC.tag0] at q2;cases q2
    | give c' x _ _ q=>exact q rfl
    | coll c' z' q1 _ _ q4 =>
     obtain rfl:=same_col hc q1
     subst q4
     have:=(h0.2 (rcase c.dn z') (by simp) c.dn rfl).2 i _ hi0 hi e (scase c.dn (γ.gv i) z) (by simp) rfl
     simp[rcase,scase] at this
  have hwk:∀i,p.b<=i->i < γ.cnt->γ.tag i≠.gone->∃cs z,S i=some cs/\γ.tag i=.idle/\cs=#[rcase p.jobs z]:=by
   intro i hb hi hg
   have hi':=hS i hi
   have hfd:=h.fd
   cases e:S i with
   | none =>
    rw[e] at hi'
    rcases hi' with⟨_,q⟩|hw
    ·exact absurd q hg
    ·cases hw with
     | wg p' st q1 q2=>obtain rfl:=same_ph hp q1;omega
     | que p' m q1 q2 q3 q4 q5=>exact(noq q1 q2 q3 q4 q5).elim
   | some cs =>
    rw[e] at hi'
    cases hi'.1 with
    | idle p' z q1 _ q2 _ q3=>obtain rfl:=same_ph hp q1;exact⟨cs,z,rfl,q2,q3⟩
    | peek p' _ q1 q2=>obtain rfl:=same_ph hp q1;omega
    | feed p' _ _ q1 q2=>obtain rfl:=same_ph hp q1;omega
    | coll c _ _ q=>omega
    | give c x z q1 q2 q3 _ q5=>exact(hnog i c x z hi q2 q1 (by rw[e,q5]) q3).elim
  have hclosed:(γ.tag p.f).closed=true->∀i,p.b<=i->i < γ.cnt->γ.tag i=.gone:=by
   intro hcl i hb hi
   refine Classical.byContradiction fun hg=>?_
   obtain⟨cs,z,e,_,rfl⟩:=hwk i hb hi hg
   have hi':=hS i hi
   rw[e] at hi'
   obtain⟨s,hj⟩:=h.jobs
   rw[hcl] at hj
   exact(hi'.2 (rcase p.jobs z) (by simp) p.jobs rfl).1 _ _ _ _ _ hj
  have hf:=hS p.f hfc
  cases e:S p.f with
  | none =>
   rw[e] at hf
   rcases hf with⟨_,q⟩|hw
   ·have:=h.ftag;rw[q] at this;exact this
   ·obtain⟨st,q3,q4⟩:∃st,γ.tag p.f=.reg/\WgAt ty p.wg w st 0:=by
     cases hw with
     | wg p' st q1 _ q3 q4=>obtain rfl:=same_ph hp q1;exact⟨st,q3,q4⟩
     | que p' m q1 q2 q3 q4 q5=>exact(noq q1 q2 q3 q4 q5).elim
    have hall:=hclosed (by rw[q3];rfl)
    have hall':∀i,p.b<=i->γ.tag i=.gone:=fun i hb=>by
     by_cases hi:i < γ.cnt
     ·exact hall i hb hi
     ·exact hI.un i (by omega)
    obtain⟨st',sm,m1,m2⟩:=h.wgm
    obtain⟨e1,e2⟩:=Go.ConcR.WgAt.unique q4 m1
    cases m2 with
    | opn q=>rw[q3] at q;exact q
    | reg _ _ q =>
     obtain⟨i,hb,_,q⟩:=vc_pos q
     rw[hall' i hb] at q
     simp[Tag.cw] at q
    | last L k _ q5 q6 _=>rw[hall' L q5] at q6;cases q6
    | sema=>cases e2
    | fin q=>rw[q3] at q;cases q
  | some cs =>
   rw[e] at hf
   have hft:=h.ftag
   have hfd:=h.fd
   cases hf.1 with
   | idle p' _ q1 q2=>obtain rfl:=same_ph hp q1;omega
   | peek p' _ _ _ _ q=>cases q
   | coll c z q1 q2 _ q4 =>
    have:=(hI.mate p c hp q1).1
    have:=(hI.coll c q1).f.1
    omega
   | give c x z q1 q2 q3=>rw[q3] at hft;exact hft
   | feed p' z z' q1 _ q2 _ q4 q5 =>
    obtain rfl:=same_ph hp q1
    subst q5
    have hst:γ.cnt=p.b+p.W:=by have:=h.cnt;unfold Gho.started at this;rw[q2] at this;exact this
    have hbc:p.b < γ.cnt:=by have:=h.pos;omega
    have he:=h.early (by rw[q2];rfl) p.b (Nat.le_refl _) hbc
    obtain⟨cs',z2,e2,_,rfl⟩:=hwk p.b (Nat.le_refl _) hbc (fun q=>by rw[q] at he;exact he)
    have:=(hf.2 (scase p.jobs (.int .i64 γ.next) z) (by simp) p.jobs rfl).2 p.b _ (by have:=h.fd;omega) hbc e2 (rcase p.jobs z2) (by simp) rfl
    simp[rcase,scase] at this
theorem crew_ok (P:Program) (ty:TypeId) (top:Nat) (Post:Value->World->Prop):(crewPact P ty top Post).Ok where
 refl:=Rel.refl
 trans:=fun _ _ _ _ _ _ _ h h'=>h.trans h'
 draw:=Rel.at
 draw_inv:=fun _ _ d h=>h.at d
 draw_wait:=fun _ _ _ _ h=>wait_keep h rfl rfl fun _ _=>rfl
 gone_keep:=fun _ _ _ _ _ h g=>⟨g.1,h.tag.trans g.2⟩
 gone_main:=fun _ g=>g.1 rfl
 deaf_keep:=fun _ _ _ _ _ h=>h.deaf
 tr_deaf:=fun _ _ i h _=>h.deaf i
 leave:=leave_law
 made:=crew_made
 meet:=crew_meet
 shut:=crew_shut
 none:=crew_none
 live:=crew_live
end
end Go.Proofs.YtbicafgmfgdckaaDoor
