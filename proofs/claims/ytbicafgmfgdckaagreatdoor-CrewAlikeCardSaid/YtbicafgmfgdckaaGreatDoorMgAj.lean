/- A piece. -/
import Derived.Test.YtbicafgmfgdckaaGreatDoorMgAe
import Derived.Test.YtbicafgmfgdckaaGreatDoorMgAf
import Derived.Test.YtbicafgmfgdckaaGreatDoorMgAi
set_option maxRecDepth 100000
set_option maxHeartbeats 16000000
set_option linter.all false
namespace Go.Proofs.YtbicafgmfgdckaaGreatDoor
open Go Go.Conc
open Go.ConcR (KK wgBlock WgAt stA smA)
open Go.ConcN (sumTo upd RelBy PermW WgLive)
inductive B6 where
 | solo|gone|coll|pre|fin|add (j p:Nat) | feed|shut|reg|thru
 | idle|busy (x:Nat) | give (x:Nat) | out|rel|last (k:Nat)
 deriving DecidableEq
inductive BK where
 | priv (i:Nat) | shd (say:Nat) | fix (m:Nat) | mix|lock
 deriving DecidableEq
inductive Ap0 where
 | fill|seek|hand
 deriving DecidableEq
structure Ph where
 f:Nat
 b:Nat
 W:Nat
 n:Nat
 wg:Nat
 jobs:Nat
 stop:Nat
 out:Nat
 oty:TypeId
 H:Nat->Option Obj
 val:Nat->Nat->Value
 kind:Ap0
 once:Nat
 onty:TypeId
 hit:Nat->Prop
structure Sk where
 ml:Nat->Nat->ML
 mw:Nat->MW
 left:Nat
 took:Nat->Prop
 od:Bool
 lo:Nat->Option Nat
def Sk.V (s:Sk) (p:Ph) (m:Nat):Nat:=6 * s.left+mN ML.wt p.b p.W (s.ml m)+(s.mw m).q
structure Ir where
 f:Nat
 W:Nat
 dn:Nat
 n:Nat
 H:Nat->Option Obj
 good:Nat->Value->Option (Nat × Obj)->Prop
structure Ab where
 cnt:Nat
 hs:Nat
 tag:Nat->B6
 deaf:Nat->Nat
 bk:Nat->BK
 ow:Nat->Nat->Option Nat
 next:Nat
 done:Nat->Prop
 ph:Option Ph
 col:Option Ir
 gv:Nat->Value
 gb:Nat->Option Nat
 stp:Bool
 sk:Sk
def blk:Loc->Nat
 | .cell a=>a.block
 | .obj r=>r
 | _=>0
def Ab.lo (I:Ab):Option Nat:=match I.col with
 | some c=>some c.f
 | none=>I.ph.map (·.b)
def Ab.S (I:Ab) (i:Nat) (b:Nat):Prop:=b < I.hs/\I.bk b=.priv i
def Ab.F (I:Ab) (i:Nat) (b:Nat):Prop:=b < I.hs/\∃m,m<=i/\I.bk b=.fix m
def Ab.mixAt (I:Ab):Loc->Option Nat
 | .cell a=>I.ow a.block a.off
 | _=>some 0
def Ab.live (I:Ab) (k:Nat) (l:Loc):Prop:=k < I.cnt/\I.tag k≠.gone/\∀m,I.bk (blk l)=.fix m->m<=k
def Afz:Loc->Prop
 | .cell a=>a.off < 2
 | _=>False
def Ab.wh (I:Ab):Wh where
 sh:=fun l=>(∃s,I.bk (blk l)=.shd s)\/(I.bk (blk l)=.mix/\I.mixAt l=none)\/(I.bk (blk l)=.lock/\Afz l)
 say:=fun l=>match I.bk (blk l) with
  | .shd s=>s
  | _=>0
 ro:=fun l=>∃m,I.bk (blk l)=.fix m
 own:=fun l=>match I.bk (blk l) with
  | .priv i=>some i
  | .mix=>some ((I.mixAt l).getD 0)
  | .lock=>I.sk.lo (blk l)
  | _=>some 0
 lk:=fun l=>⟨blk l,0,none⟩
 live:=I.live
def B6.closed:B6->Bool
 | .shut | .reg | .thru=>true
 | _=>false
def B6.ended:B6->Bool
 | .gone=>true
 | _=>false
def B6.feeds:B6->Prop
 | .add _ _ | .feed | .shut | .reg | .thru=>True
 | _=>False
def B6.works:B6->Prop
 | .gone | .idle | .busy _ | .give _ | .out | .rel | .last _=>True
 | _=>False
def B6.early:B6->Prop
 | .idle | .busy _ | .give _=>True
 | _=>False
def B6.said:B6->Prop
 | .rel | .last _ | .gone=>True
 | _=>False
def B6.tied:B6->Prop
 | .rel | .last _ | .gone | .give _=>True
 | _=>False
theorem B6.tied_of_said {x:B6} (h:x.said):x.tied:=by cases x<;>first|exact h|exact h.elim
def B6.cw:B6->Nat
 | .idle | .busy _ | .give _ | .out | .rel=>1
 | _=>0
def B6.pend:B6->Nat
 | .add _ p=>p
 | _=>0
def B6.open_:B6->Prop
 | .add _ _ | .feed | .shut=>True
 | _=>False
def B6.lasts:B6->Prop
 | .last _=>True
 | _=>False
def B6.at_ (t:B6) (x:Nat):Prop:=t=.busy x\/t=.give x
def Ab.started (I:Ab) (p:Ph):Nat:=match I.tag p.f with
 | .add j _=>j
 | _=>p.W
def Et (tag:Nat->B6) (p:Ph):Nat:=sumTo p.W fun j=>(tag (p.b+j)).cw
def Ab.vc (I:Ab) (p:Ph):Nat:=Et I.tag p
inductive Dl (tag:Nat->B6) (p:Ph):Int->Int->Prop
 | opn:(tag p.f).open_->(∀i,p.b<=i->¬(tag i).lasts)->Dl tag p (((Et tag p+(tag p.f).pend:Nat):Int) * KK) 0
 | reg:tag p.f=.reg->(∀i,p.b<=i->¬(tag i).lasts)->1<=Et tag p->Dl tag p (((Et tag p:Nat):Int) * KK+1) 0
 | last (L k:Nat):tag p.f=.reg->p.b<=L->tag L=.last k->(∀i,p.b<=i->i≠L->tag i=.gone)->Dl tag p (if k=1 then 0 else 1) 0
 | sema:tag p.f=.reg->(∀i,p.b<=i->tag i=.gone)->Dl tag p 0 1
 | fin:tag p.f=.thru->(∀i,p.b<=i->tag i=.gone)->Dl tag p 0 0
structure Ap3 (I:Ab) (p:Ph) (w:World):Prop where
 bout:I.bk p.out=.mix
 out:∃cs,w.heap[p.out]?=some (.cells cs p.oty (0,0))/\cs.size=32 * p.n/\∀x,x < p.n->I.done x->∀o,o < 32->cs[32 * x+o]?=some (p.val x o)
 busy:∀i x,I.tag i=.busy x->∀o,o < 32->I.ow p.out (32 * x+o)=some i
 mine:∀x,I.next<=x->∀o,o < 32->I.ow p.out (32 * x+o)=some p.f
 owm:∀o,I.ow p.out o≠none
 mixo:∀b,b < I.hs->I.bk b=.mix->b=p.out
 nog:∀i x,I.tag i≠.give x
def Ld (took:Nat->Prop) (v:Int):Prop:=(v=-1/\∀x,¬took x)\/∃y:Nat,v=y/\took y/\∀x,took x->y<=x
structure Co (I:Ab) (p:Ph) (w:World):Prop where
 bout:I.bk p.out=.lock
 bonce:I.bk p.once=.shd p.f
 ne:p.once≠p.wg/\p.once≠p.jobs/\p.once≠p.stop
 W:p.W<=16
 best:∃v:Int,w.heap[p.out]?=some (.cells #[.int .i32 ((I.sk.mw 0).code:Nat),.int .u32 ((I.sk.mw 0).q:Nat),.int .i64 v] p.oty (0,0))/\Ld I.sk.took v
 once:w.heap[p.once]?=some (.cells #[.int .u32 (if I.sk.od then 1 else 0),.int .i32 ((I.sk.mw 1).code:Nat),.int .u32 ((I.sk.mw 1).q:Nat)] p.onty (0,0))
 mi:∀m,m < 2->Fe p.b p.W (I.sk.ml m) (I.sk.mw m)
 busy:∀m i,m < 2->I.sk.ml m i≠.off->∃x,I.tag i=.busy x
 left:I.sk.left+I.next=p.n
 lo1:∀i,I.sk.ml 0 i=.own 1->I.sk.lo p.out=some i
 lo0:(∀i,I.sk.ml 0 i≠.own 1)->I.sk.lo p.out=none
 two:∀i,I.sk.ml 0 i=.off\/I.sk.ml 0 i=.fresh\/I.sk.ml 1 i=.off\/I.sk.ml 1 i=.fresh
 took:∀x,I.sk.took x->p.hit x/\x < I.next
 done:∀x,I.done x->p.hit x->I.sk.took x
 stp:I.stp=true->∃x,I.sk.took x
 od0:I.sk.od=false->I.stp=true->∃i,I.sk.ml 1 i=.own 2
 od1:I.sk.od=true->I.stp=true
 nogive:∀i x,I.tag i≠.give x
def Avl (I:Ab) (i x:Nat):Prop:=x < I.next/\¬I.done x/\∀j,(I.tag j).at_ x->j=i
def Aib (I:Ab):Prop:=(∀i x,(I.tag i).at_ x->Avl I i x)/\∀x,I.done x->x < I.next
theorem Aib.of {I I':Ab} (h:Aib I) (ht:∀k z,(I'.tag k).at_ z->(I.tag k).at_ z) (hn:I'.next=I.next) (hd:∀z,I'.done z↔I.done z):Aib I' :=
 ⟨fun i x e=>by
  obtain⟨h1,h2,h3⟩:=h.1 i x (ht i x e);exact⟨by rw[hn];exact h1,fun q=>h2 ((hd x).1 q),fun j q=>h3 j (ht j x q)⟩,fun x q=>by rw[hn];exact h.2 x ((hd x).1 q)⟩
structure Core (ty:TypeId) (I:Ab) (p:Ph) (w:World):Prop where
 bwg:I.bk p.wg=.shd p.f
 bjobs:I.bk p.jobs=.shd p.f
 bstop:I.bk p.stop=.shd p.f
 ne:p.jobs≠p.wg/\p.stop≠p.wg/\p.jobs≠p.stop
 fix:∀b m,b < I.hs->I.bk b=.fix m->w.heap[b]?=p.H b
 fixm:∀b m,b < I.hs->I.bk b=.fix m->m<=p.f
 fd:p.f < p.b
 ftag:(I.tag p.f).feeds
 cnt:I.cnt=p.b+I.started p
 add:∀j q,I.tag p.f=.add j q->j<=p.W/\(q=0\/(q=1/\j < p.W))/\I.next=0
 rest:∀i,i≠p.f->i < p.b->i≠0->I.tag i=.gone
 wtag:∀i,p.b<=i->(I.tag i).works
 early:(I.tag p.f).closed=false->∀i,p.b<=i->i < I.cnt->(I.tag i).early
 wgm:∃st sm,WgAt ty p.wg w st sm/\Dl I.tag p st sm
 jobs:∃s,w.heap[p.jobs]?=some (.chan 0 #[] (I.tag p.f).closed s s false)
 stop:w.heap[p.stop]?=some (.chan 0 #[] I.stp 0 0 false)
 stpk:p.kind≠.seek->I.stp=false
 job:∀x,x < I.next->I.done x\/∃i,p.b<=i/\(I.tag i).at_ x
 nle:I.next<=p.n
 full:(I.tag p.f).closed=true->I.next=p.n\/I.stp=true
 busy:Aib I
 hear:∀i,I.tag i=.idle\/I.tag i=.feed->I.deaf i=0
 small:p.W < 2147483647
 pos:1<=p.W
 fill:p.kind=.fill->Ap3 I p w
 seek:p.kind=.seek->Co I p w
 nomix:p.kind≠.fill->∀b,b < I.hs->I.bk b≠.mix
structure Yl (I:Ab) (w:World) (c:Ir) (i x:Nat):Prop where
 deaf:I.deaf i=0
 good:∃ob,c.good x (I.gv i) ob/\match I.gb i with
  | none=>ob=none
  | some B=>B < I.hs/\I.bk B=.priv i/\∃o,w.heap[B]?=some o/\ob=some (B,o)
structure Y3 (I:Ab) (w:World) (c:Ir):Prop where
 tag0:I.tag 0=.coll
 f:0 < c.f/\c.f < I.cnt/\I.cnt<=c.f+1+c.W
 bdn:I.bk c.dn=.shd 0
 dn:∃s,w.heap[c.dn]?=some (.chan 0 #[] (I.tag c.f).ended s s false)
 fix:∀b,b < I.hs->I.bk b=.fix 0->w.heap[b]?=c.H b
 deaf:I.deaf 0=0
 give:∀i x,I.tag i=.give x->Yl I w c i x
structure Apz (I:Ab) (c:Ir):Prop where
 rest:∀i,i≠0->i≠c.f->I.tag i=.gone
 at_:(I.tag c.f=.pre/\∀x,¬I.done x)\/((I.tag c.f=.fin\/I.tag c.f=.gone)/\∀x,x < c.n->I.done x)
 nomix:∀b,b < I.hs->I.bk b≠.mix
 top:I.tag c.f=.pre->I.cnt=c.f+1/\∀b m,b < I.hs->I.bk b=.fix m->m=0
structure Ae (ty:TypeId) (top:Nat) (I:Ab) (w:World):Prop where
 hs:I.hs=w.heap.size
 cnt:1<=I.cnt
 main:I.tag 0≠.gone
 un:∀i,I.cnt<=i->I.tag i=.gone
 free:I.ph=none->I.col=none->I.tag 0=.solo/\(∀i,i≠0->I.tag i=.gone)/\(∀b,b < I.hs->(∃s,I.bk b=.shd s)\/I.bk b=.priv 0\/I.bk b=.lock)/\∀b,I.sk.lo b=some 0
 core:∀p,I.ph=some p->Core ty I p w
 coll:∀c,I.col=some c->Y3 I w c
 lull:∀c,I.col=some c->I.ph=none->Apz I c
 mate:∀p c,I.ph=some p->I.col=some c->p.f=c.f/\p.kind=.hand/\p.n=c.n/\p.b=c.f+1/\p.W<=c.W
 alone:∀p,I.ph=some p->I.col=none->p.f=0/\p.kind≠.hand
 top:(∀p,I.ph=some p->p.b+p.W<=top)/\∀c,I.col=some c->c.f+1+c.W<=top
structure Iq (I:Ab) (t:Trace):Prop where
 d:Vh I.wh t I.cnt
 deaf:∀i,Deaf t i=I.deaf i
 nrel:Nc t
 low:∀i a,touchAt t i=some a->blk a.loc < I.hs
 rel:∀p,I.ph=some p->∀k,p.b<=k->k < I.cnt->(I.tag k).said->∃r,RelBy (stA p.wg) t k r
 old:∀i,t.counts i->Knows t 0 i\/∃lo,I.lo=some lo/\∃k,lo<=k/\t.g? i=some k
 fin:∀c,I.col=some c->I.ph=none->I.tag c.f=.fin->∀i,t.counts i->Knows t 0 i\/Knows t c.f i
 shut:∀c,I.col=some c->I.ph=none->I.tag c.f=.gone->∃q,t.act? q=some (.close c.dn)/\t.heard q/\∀i,t.counts i->Knows t 0 i\/Before t i q
def Ab.nc (I:Ab) (i:Nat):Prop:=i≠0\/I.col=none
def Ab.on (I:Ab) (i:Nat) (p:Ph):Prop:=I.ph=some p/\(i≠0\/p.f=0)
structure Ec (i:Nat) (p:Ph) (I:Ab) (w:World) (I2:Ab) (w2:World):Prop where
 v:∀m,m < 2->I2.sk.V p m<=I.sk.V p m/\((I2.sk.mw m).code=(I.sk.mw m).code\/I2.sk.V p m < I.sk.V p m)
 hand:∀m,m < 2->I.sk.ml m i=.hand->(I.sk.mw m).w<=(I2.sk.mw m).w
 at_:I.sk.ml 0 i=.own 1->w2.cell? ⟨p.out,2,none⟩=w.cell? ⟨p.out,2,none⟩/\∀x,I2.sk.took x↔I.sk.took x
 od:∀k,I.sk.ml 1 i=.own k->I2.sk.od=I.sk.od/\I2.stp=I.stp
 took:∀x,I.sk.took x->I2.sk.took x
structure Gj (i:Nat) (I:Ab) (w:World) (I2:Ab) (w2:World):Prop where
 hs:I.hs<=I2.hs
 bk:∀b,b < I.hs->(∀j,j≠i->I.bk b≠.priv j)->I2.bk b=I.bk b
 bk2:∀b,b < I2.hs->I2.bk b=.priv i->b < I.hs/\I.bk b=.priv i
 keep:∀b,b < I.hs->(I.bk b=.priv i\/∃m,m<=i/\I.bk b=.fix m)->w2.heap[b]?=w.heap[b]?
 tape:w2.tape=w.tape
 ph:∀p,I.on i p->I2.ph=some p
 pn:I.ph=none->I.nc i->I2.ph=none
 col:I2.col=I.col
 feed:∀p,I.on i p->p.f=i->I2.next=I.next/\I2.vc p<=I.vc p
 still:i=0->I.col=none->I.ph=none->w2.heap=w.heap/\I2.hs=I.hs/\I2.cnt=I.cnt
 pre:i≠0->∀c,I.col=some c->c.f=i->I.ph=none->(∀b,b < I.hs->I.bk b=.shd i->w2.heap[b]?=w.heap[b]?)/\I2.cnt=I.cnt
 next:∀p,I.on i p->I.next<=I2.next
 done:i=0->I.col≠none->∀x,I2.done x↔I.done x
 stp:∀p,I.on i p->I.stp=true->I2.stp=true
 ml:∀m,I2.sk.ml m i=I.sk.ml m i
 sk:∀p,I.on i p->p.kind=.seek->Ec i p I w I2 w2
structure G5 (i:Nat) (I:Ab) (w:World) (I2:Ab) (w2:World):Prop where
 tag:I2.tag i=I.tag i
 deaf:I2.deaf i=I.deaf i
 gv:I2.gv i=I.gv i/\I2.gb i=I.gb i
 live:I.tag i≠.gone->Gj i I w I2 w2
def Ab.setTag (I:Ab) (i:Nat) (t:B6):Ab:={ I with tag:=upd I.tag i t }
def Ab.setDeaf (I:Ab) (i:Nat) (d:Nat):Ab:={ I with deaf:=upd I.deaf i d }
def Ab.pass (I:Ab) (p:Ph) (i:Nat):Ab:={ I with tag:=upd I.tag i (.busy I.next),next:=I.next+1,ow:=fun b o=>if p.kind=.fill/\b=p.out/\o / 32=I.next then some i else I.ow b o,sk:={ I.sk with ml:=fun m k=>if k=i then .fresh else I.sk.ml m k,left:=I.sk.left - 1 } }
def Ab.taken (I:Ab) (i x:Nat):Ab:={ I with tag:=upd I.tag i .idle,done:=fun z=>I.done z\/z=x,bk:=fun b=>if I.gb i=some b then .priv 0 else I.bk b }
def Ab.home (I:Ab):Ab:={ I with tag:=upd I.tag 0 .solo,col:=none,sk:={ I.sk with lo:=fun _=>some 0 },bk:=fun b=>match I.bk b with
  | .shd s=>.shd s
  | .lock=>.lock
  | _=>.priv 0 }
inductive E5 (ty:TypeId) (i:Nat) (I:Ab) (w:World):Prop
 | wg (p:Ph) (st:Int):I.ph=some p->i=p.f->I.tag i=.reg->WgAt ty p.wg w st 0->E5 ty i I w
 | que (p:Ph) (m:Nat):I.ph=some p->p.kind=.seek->m < 2->I.sk.ml m i=.que->(I.sk.mw m).q=0->E5 ty i I w
inductive Ft (i:Nat) (I:Ab) (cases:Array CommCase) (b:Bool):Prop
 | idle (p:Ph) (z:Value):I.ph=some p->p.b<=i->I.tag i=.idle->b=true->cases=#[rcase p.jobs z]->Ft i I cases b
 | peek (p:Ph) (z:Value):I.ph=some p->i=p.f->I.tag i=.feed->b=false->cases=#[rcase p.stop z]->Ft i I cases b
 | feed (p:Ph) (z z':Value):I.ph=some p->i=p.f->I.tag i=.feed->b=true->I.next < p.n->cases=#[scase p.jobs (.int .i64 I.next) z,rcase p.stop z']->Ft i I cases b
 | coll (c:Ir) (z:Value):I.col=some c->i=0->b=true->cases=#[rcase c.dn z]->Ft i I cases b
 | give (c:Ir) (x:Nat) (z:Value):I.col=some c->i≠0->I.tag i=.give x->b=true->cases=#[scase c.dn (I.gv i) z]->Ft i I cases b
inductive C3 (i:Nat) (I:Ab) (w:World) (b:Bool) (k:Int) (v:Value) (ok:Bool) (I':Ab) (w':World):Prop
 | job (p:Ph) (s:Nat):I.ph=some p->p.b<=i->I.tag i=.idle->ok=true->v=.int .i64 I.next->I'=I.pass p i->I.next < p.n->w'=w.setChan p.jobs 0 #[] false s s false->C3 i I w b k v ok I' w'
 | out (p:Ph):I.ph=some p->p.b<=i->I.tag i=.idle->ok=false->I'=I.setTag i .out->w'=w->C3 i I w b k v ok I' w'
 | peek (p:Ph):I.ph=some p->i=p.f->I.tag i=.feed->b=false->k=-1->v=undef->ok=false->I'=I->w'=w->C3 i I w b k v ok I' w'
 | stop (p:Ph):I.ph=some p->i=p.f->I.tag i=.feed->k=(if b then 1 else 0)->ok=false->I.stp=true->I'=I->w'=w->C3 i I w b k v ok I' w'
 | fed (p:Ph) (h s:Nat):I.ph=some p->i=p.f->I.tag i=.feed->b=true->k=0->v=undef->ok=false->p.b<=h->I.tag h=.idle->I'=I.pass p h->w'=w.setChan p.jobs 0 #[] false s s false->C3 i I w b k v ok I' w'
 | took (c:Ir) (h x s:Nat):I.col=some c->i=0->k=0->ok=true->I.tag h=.give x->v=I.gv h->x < c.n->¬I.done x->Yl I w c h x->I'=I.taken h x->w'=w.setChan c.dn 0 #[] false s s false->C3 i I w b k v ok I' w'
 | home (c:Ir):I.col=some c->i=0->ok=false->(∀x,x < c.n->I.done x)->I'=I.home->w'=w->C3 i I w b k v ok I' w'
 | gave (c:Ir) (x s:Nat):I.col=some c->i≠0->I.tag i=.give x->k=0->v=undef->ok=false->I'=I.taken i x->w'=w.setChan c.dn 0 #[] false s s false->C3 i I w b k v ok I' w'
def Al (P:Program) (ty:TypeId) (top:Nat) (Post:Value->World->Prop):By P where
 Gh:=Ab
 Inv:=Ae ty top
 Tr:=Iq
 R:=G5
 Wait:=E5 ty
 Offer:=Ft
 Result:=C3
 Gone:=fun i I=>i≠0/\I.tag i=.gone
 deaf:=Ab.deaf
 cnt:=Ab.cnt
 top:=top
 Post:=Post
open Go.ConcN (upd_same upd_ne sumTo_upd sumTo_congr sumTo_upd_out le_sumTo)
section
variable {ty:TypeId} {top:Nat} {I I' I1 I2:Ab} {p:Ph} {c:Ir} {w w' w1 w2:World} {i j k:Nat} {t u:Trace} {P:Program} {Post:Value->World->Prop}
theorem Ec.of {c1:I2.sk=I.sk} (h2:I2.stp=I.stp) (h3:I.sk.ml 0 i=.own 1->w2.cell? ⟨p.out,2,none⟩=w.cell? ⟨p.out,2,none⟩):Ec i p I w I2 w2 :=
 ⟨fun m _=>by rw[c1];exact⟨Nat.le_refl _,.inl rfl⟩,fun m _ _=>by rw[c1];exact Nat.le_refl _,fun q=>⟨h3 q,fun x=>by rw[c1]⟩,fun k _=>⟨by rw[c1],h2⟩,fun x q=>by rw[c1];exact q⟩
theorem Ec.refl (i:Nat) (p:Ph) (I:Ab) (w:World):Ec i p I w I w:=.of (c1:=rfl) rfl fun _=>rfl
theorem Ec.trans (h:Ec i p I w I1 w1) (h':Ec i p I1 w1 I2 w2) (e:∀m,m < 2->I1.sk.ml m i=I.sk.ml m i):Ec i p I w I2 w2:=by
 refine⟨fun m hm=>?_,fun m hm q=>Nat.le_trans (h.hand m hm q) (h'.hand m hm ((e m hm).trans q)),fun q=>⟨(h'.at_ ((e 0 (by omega)).trans q)).1.trans (h.at_ q).1,fun x=>((h'.at_ ((e 0 (by omega)).trans q)).2 x).trans ((h.at_ q).2 x)⟩,fun k q=>⟨(h'.od k ((e 1 (by omega)).trans q)).1.trans (h.od k q).1,(h'.od k ((e 1 (by omega)).trans q)).2.trans (h.od k q).2⟩,fun x q=>h'.took x (h.took x q)⟩;obtain⟨a1,a2⟩:=h.v m hm;obtain⟨b1,b2⟩:=h'.v m hm;refine⟨Nat.le_trans b1 a1,?_⟩;rcases a2 with a2|a2
 ·rcases b2 with b2|b2
  ·exact .inl (b2.trans a2)
  ·exact .inr (by omega)
 ·exact .inr (by omega)
theorem Gj.refl (i:Nat) (I:Ab) (w:World):Gj i I w I w:=⟨Nat.le_refl _,fun _ _ _=>rfl,fun _ h1 h2=>⟨h1,h2⟩,fun _ _ _=>rfl,rfl,fun _ h=>h.1,fun h _=>h,rfl,fun _ _ _=>⟨rfl,Nat.le_refl _⟩,fun _ _ _=>⟨rfl,rfl,rfl⟩,fun _ _ _ _ _=>⟨fun _ _ _=>rfl,rfl⟩,fun _ _=>Nat.le_refl _,fun _ _ _=>Iff.rfl,fun _ _ h=>h,fun _=>rfl,fun p _ _=>.refl i p I w⟩
theorem G5.refl (i:Nat) (I:Ab) (w:World):G5 i I w I w:=⟨rfl,rfl,⟨rfl,rfl⟩,fun _=>.refl i I w⟩
theorem Ab.nc.keep (h:I.nc i) (e:I'.col=I.col):I'.nc i:=h.imp id e.trans
theorem Gj.trans (h:Gj i I w I1 w1) (h':Gj i I1 w1 I2 w2):Gj i I w I2 w2:=by
 refine⟨Nat.le_trans h.hs h'.hs,fun b hb hj=>?_,fun b hb e=>?_,fun b hb e=>?_,h'.tape.trans h.tape,fun p q=>h'.ph p ⟨h.ph p q,q.2⟩,fun q1 q=>h'.pn (h.pn q1 q) (q.keep h.col),h'.col.trans h.col,fun p hp e=>?_,fun e1 e2 e3=>?_,fun e1 c e2 e3 e4=>?_,fun p q=>Nat.le_trans (h.next p q) (h'.next p ⟨h.ph p q,q.2⟩),fun e q x=>(h'.done e (by rw[h.col];exact q) x).trans (h.done e q x),fun p q e=>h'.stp p ⟨h.ph p q,q.2⟩ (h.stp p q e),fun m=>(h'.ml m).trans (h.ml m),fun p q e=>(h.sk p q e).trans (h'.sk p ⟨h.ph p q,q.2⟩ e) fun m _=>h.ml m⟩
 ·have e1:=h.bk b hb hj;exact(h'.bk b (Nat.lt_of_lt_of_le hb h.hs) fun j hj'=>by rw[e1];exact hj j hj').trans e1
 ·obtain⟨e1,e2⟩:=h'.bk2 b hb e;exact h.bk2 b e1 e2
 ·have e1:I1.bk b=I.bk b:=h.bk b hb fun j hj e2=>by
   rcases e with e|⟨m,_,e⟩<;>(rw[e] at e2;cases e2);exact hj rfl
  exact(h'.keep b (Nat.lt_of_lt_of_le hb h.hs) (by rw[e1];exact e)).trans (h.keep b hb e)
 ·obtain⟨q1,q2⟩:=h.feed p hp e;obtain⟨q3,q4⟩:=h'.feed p ⟨h.ph p hp,hp.2⟩ e;exact⟨q3.trans q1,Nat.le_trans q4 q2⟩
 ·obtain⟨a1,a2,a3⟩:=h.still e1 e2 e3;obtain⟨b1,b2,b3⟩:=h'.still e1 (h.col.trans e2) (h.pn e3 (.inr e2));exact⟨b1.trans a1,b2.trans a2,b3.trans a3⟩
 ·obtain⟨a1,a2⟩:=h.pre e1 c e2 e3 e4;obtain⟨b1,b2⟩:=h'.pre e1 c (h.col.trans e2) e3 (h.pn e4 (.inl e1));refine⟨fun b hb q=>(b1 b (Nat.lt_of_lt_of_le hb h.hs) ((h.bk b hb fun j _ q2=>by rw[q] at q2;cases q2).trans q)).trans (a1 b hb q),b2.trans a2⟩
theorem G5.trans (h:G5 i I w I1 w1) (h':G5 i I1 w1 I2 w2):G5 i I w I2 w2 :=
 ⟨h'.tag.trans h.tag,h'.deaf.trans h.deaf,⟨h'.gv.1.trans h.gv.1,h'.gv.2.trans h.gv.2⟩,fun e=>(h.live e).trans (h'.live (by rw[h.tag];exact e))⟩
theorem Gj.same (hh:w'.heap=w.heap) (ht:w'.tape=w.tape):Gj i I w I w':=⟨Nat.le_refl _,fun _ _ _=>rfl,fun _ h1 h2=>⟨h1,h2⟩,fun _ _ _=>by rw[hh],ht,fun _ h=>h.1,fun h _=>h,rfl,fun _ _ _=>⟨rfl,Nat.le_refl _⟩,fun _ _ _=>⟨hh,rfl,rfl⟩,fun _ _ _ _ _=>⟨fun _ _ _=>by rw[hh],rfl⟩,fun _ _=>Nat.le_refl _,fun _ _ _=>Iff.rfl,fun _ _ h=>h,fun _=>rfl,fun _ _ _=>.of (c1:=rfl) rfl fun _=>by simp only[World.cell?,hh]⟩
theorem G5.at (i:Nat) (I:Ab) (w:World) (d:Nat):G5 i I w I (w.at d):=⟨rfl,rfl,⟨rfl,rfl⟩,fun _=>.same rfl rfl⟩
theorem Core.lts (h:Core ty I p w) (hs:I.hs=w.heap.size):p.wg < I.hs/\p.jobs < I.hs/\p.stop < I.hs:=by
 obtain⟨st,sm,h1,_⟩:=h.wgm;obtain⟨s,h2⟩:=h.jobs;rw[hs];exact⟨(Array.getElem?_eq_some_iff.1 h1).1,(Array.getElem?_eq_some_iff.1 h2).1,(Array.getElem?_eq_some_iff.1 h.stop).1⟩
theorem Ap3.lt (h:Ap3 I p w) (hs:I.hs=w.heap.size):p.out < I.hs:=by
 obtain⟨cs,h3,_⟩:=h.out;rw[hs];exact(Array.getElem?_eq_some_iff.1 h3).1
theorem Y3.lt (h:Y3 I w c) (hs:I.hs=w.heap.size):c.dn < I.hs:=by
 obtain⟨s,h2⟩:=h.dn;rw[hs];exact(Array.getElem?_eq_some_iff.1 h2).1
structure Calm (I:Ab) (w:World) (I':Ab) (w':World):Prop where
 tag:I'.tag=I.tag
 cnt:I'.cnt=I.cnt
 next:I'.next=I.next
 done:I'.done=I.done
 ow:I'.ow=I.ow
 ph:I'.ph=I.ph
 col:I'.col=I.col
 gv:I'.gv=I.gv
 gb:I'.gb=I.gb
 stp:I'.stp=I.stp
 sk:I'.sk=I.sk
 bk:∀b,b < I.hs->I'.bk b=I.bk b
 new:∀b,I.hs<=b->b < I'.hs->(∀m,I'.bk b≠.fix m)/\I'.bk b≠.mix
 hs:I.hs<=I'.hs
 deaf:∀i,(I.tag i=.idle\/I.tag i=.feed\/I.tag i=.coll\/∃x,I.tag i=.give x)->I'.deaf i=I.deaf i
 heap:∀b,b < I.hs->(∀j,I.bk b≠.priv j)->w'.heap[b]?=w.heap[b]?
 heap2:∀b i x,b < I.hs->I.bk b=.priv i->I.tag i=.give x->w'.heap[b]?=w.heap[b]?
theorem Co.lt (h:Co I p w) (hs:I.hs=w.heap.size):p.out < I.hs/\p.once < I.hs:=by
 obtain⟨v,h3,_⟩:=h.best;rw[hs];exact⟨(Array.getElem?_eq_some_iff.1 h3).1,(Array.getElem?_eq_some_iff.1 h.once).1⟩
theorem Co.keep (h:Co I p w) (es:I'.sk=I.sk) (e1:I'.bk p.out=I.bk p.out) (e2:I'.bk p.once=I.bk p.once) (en:I'.next=I.next) (ed:I'.done=I.done) (et:I'.stp=I.stp) (eb:∀i x,I.tag i=.busy x->I'.tag i=.busy x) (eg:∀i x,I'.tag i=.give x->I.tag i=.give x)
  (h1:w'.heap[p.out]?=w.heap[p.out]?) (h2:w'.heap[p.once]?=w.heap[p.once]?):Co I' p w':=by
 refine⟨e1.trans h.bout,e2.trans h.bonce,h.ne,h.W,?_,?_,?_,?_,?_,?_,?_,?_,?_,?_,?_,?_,?_,fun i x q=>h.nogive i x (eg i x q)⟩<;>rw[es]
 ·obtain⟨v,q,q2⟩:=h.best;exact⟨v,h1.trans q,q2⟩
 ·exact h2.trans h.once
 ·exact h.mi
 ·exact fun m i hm q=>let ⟨x,r⟩:=h.busy m i hm q;⟨x,eb i x r⟩
 ·rw[en];exact h.left
 ·exact h.lo1
 ·exact h.lo0
 ·exact h.two
 ·rw[en];exact h.took
 ·rw[ed];exact h.done
 ·rw[et];exact h.stp
 ·rw[et];exact h.od0
 ·rw[et];exact h.od1
theorem Core.frame (h:Core ty I p w) (hs:I.hs=w.heap.size) (e:Calm I w I' w'):Core ty I' p w':=by
 obtain⟨l1,l2,l3⟩:=h.lts hs;have n1:w'.heap[p.wg]?=w.heap[p.wg]?:=e.heap _ l1 fun j=>by rw[h.bwg];simp
 have n2:w'.heap[p.jobs]?=w.heap[p.jobs]?:=e.heap _ l2 fun j=>by rw[h.bjobs];simp
 have n3:w'.heap[p.stop]?=w.heap[p.stop]?:=e.heap _ l3 fun j=>by rw[h.bstop];simp
 obtain⟨e1,e2,e3,e4,e5,_,_,e6,e7,e8,e9,eb,en,eh,ed,hh,hh2⟩:=e;obtain⟨cnt',hs',tag',deaf',bk',ow',next',done',ph',col',gv',gb',stp',sk'⟩:=I';dsimp only at *;subst e1 e2 e3 e4 e5 e6 e7 e8 e9;have fx:∀b m,b < hs'->bk' b=.fix m->b < I.hs/\I.bk b=.fix m:=fun b m hb q=>by
  by_cases hlt:b < I.hs
  ·exact⟨hlt,(eb b hlt).symm.trans q⟩
  ·exact absurd q ((en b (by omega) hb).1 m)
 have mx:∀b,b < hs'->bk' b=.mix->b < I.hs/\I.bk b=.mix:=fun b hb q=>by
  by_cases hlt:b < I.hs
  ·exact⟨hlt,(eb b hlt).symm.trans q⟩
  ·exact absurd q (en b (by omega) hb).2
 refine⟨(eb _ l1).trans h.bwg,(eb _ l2).trans h.bjobs,(eb _ l3).trans h.bstop,h.ne,fun b m hb q=>?_,fun b m hb q=>?_,h.fd,h.ftag,h.cnt,h.add,h.rest,h.wtag,h.early,?_,?_,n3.trans h.stop,h.stpk,h.job,h.nle,h.full,h.busy,fun i hi=>(ed i (hi.imp id .inl)).trans (h.hear i hi),h.small,h.pos,fun q=>?_,fun q=>?_,fun q b hb r=>?_⟩
 ·obtain⟨q1,q2⟩:=fx b m hb q;exact(hh b q1 fun j=>by rw[q2];simp).trans (h.fix b m q1 q2)
 ·obtain⟨q1,q2⟩:=fx b m hb q;exact h.fixm b m q1 q2
 ·obtain⟨st,sm,q1,q2⟩:=h.wgm;exact⟨st,sm,n1.trans q1,q2⟩
 ·obtain⟨s,q⟩:=h.jobs;exact⟨s,n2.trans q⟩
 ·have hf:=h.fill q;have l4:=hf.lt hs;refine⟨(eb _ l4).trans hf.bout,?_,hf.busy,hf.mine,hf.owm,fun b hb r=>?_,hf.nog⟩
  ·obtain⟨cs,q,q2⟩:=hf.out;exact⟨cs,(hh _ l4 fun j=>by rw[hf.bout];simp).trans q,q2⟩
  ·obtain⟨q1,q2⟩:=mx b hb r;exact hf.mixo b q1 q2
 ·have hf:=h.seek q;obtain⟨l4,l5⟩:=hf.lt hs;exact hf.keep rfl (eb _ l4) (eb _ l5) rfl rfl rfl (fun _ _ r=>r) (fun _ _ r=>r) (hh _ l4 fun j=>by rw[hf.bout];simp) (hh _ l5 fun j=>by rw[hf.bonce];simp)
 ·obtain⟨q1,q2⟩:=mx b hb r;exact h.nomix q b q1 q2
theorem Y3.frame (h:Y3 I w c) (hs:I.hs=w.heap.size) (e:Calm I w I' w'):Y3 I' w' c:=by
 have l1:=h.lt hs;refine⟨by rw[e.tag];exact h.tag0,by rw[e.cnt];exact h.f,(e.bk _ l1).trans h.bdn,?_,fun b hb q=>?_,(e.deaf 0 (.inr (.inr (.inl h.tag0)))).trans h.deaf,fun i x hx=>?_⟩
 ·obtain⟨s,q⟩:=h.dn;exact⟨s,by rw[e.tag,e.heap _ l1 fun j=>by rw[h.bdn];simp];exact q⟩
 ·by_cases hlt:b < I.hs
  ·have q':=(e.bk b hlt).symm.trans q;exact(e.heap b hlt fun j=>by rw[q'];simp).trans (h.fix b hlt q')
  ·exact absurd q ((e.new b (by omega) hb).1 0)
 ·rw[e.tag] at hx;obtain⟨q1,ob,q2,q3⟩:=h.give i x hx;refine⟨(e.deaf i (.inr (.inr (.inr ⟨x,hx⟩)))).trans q1,ob,by rw[e.gv];exact q2,?_⟩;rw[e.gb];cases hb:I.gb i with
  | none=>rw[hb] at q3;exact q3
  | some B =>
   rw[hb] at q3;obtain⟨r1,r2,o,r3,r4⟩:=q3;exact⟨Nat.lt_of_lt_of_le r1 e.hs,(e.bk B r1).trans r2,o,(e.heap2 B i x r1 r2 hx).trans r3,r4⟩
theorem Apz.frame (h:Apz I c) (e:Calm I w I' w'):Apz I' c:=by
 refine⟨by rw[e.tag];exact h.rest,by rw[e.tag,e.done];exact h.at_,fun b hb q=>?_,fun q=>?_⟩
 ·by_cases hlt:b < I.hs
  ·exact h.nomix b hlt ((e.bk b hlt).symm.trans q)
  ·exact absurd q (e.new b (by omega) hb).2
 ·rw[e.tag] at q;obtain⟨q1,q2⟩:=h.top q;refine⟨e.cnt.trans q1,fun b m hb r=>?_⟩;by_cases hlt:b < I.hs
  ·exact q2 b m hlt ((e.bk b hlt).symm.trans r)
  ·exact absurd r ((e.new b (by omega) hb).1 m)
theorem Ae.frame (h:Ae ty top I w) (hs:I'.hs=w'.heap.size) (e:Calm I w I' w') (e9:I.ph=none->I.col=none->∀b,I.hs<=b->b < I'.hs->(∃s,I'.bk b=.shd s)\/I'.bk b=.priv 0\/I'.bk b=.lock):Ae ty top I' w':=by
 refine⟨hs,by rw[e.cnt];exact h.cnt,by rw[e.tag];exact h.main,by rw[e.tag,e.cnt];exact h.un,fun q1 q2=>?_,fun p hp=>(h.core p (e.ph.symm.trans hp)).frame h.hs e,fun c hc=>(h.coll c (e.col.symm.trans hc)).frame h.hs e,fun c hc hp=>(h.lull c (e.col.symm.trans hc) (e.ph.symm.trans hp)).frame e,fun p c hp hc=>h.mate p c (e.ph.symm.trans hp) (e.col.symm.trans hc),fun p hp hc=>h.alone p (e.ph.symm.trans hp) (e.col.symm.trans hc),by rw[e.ph,e.col];exact h.top⟩;obtain⟨r1,r2,r3⟩:=h.free (e.ph.symm.trans q1) (e.col.symm.trans q2);rw[e.tag];exact⟨r1,r2,fun b hb=>(Nat.lt_or_ge b I.hs).elim (fun q=>by rw[e.bk b q];exact r3.1 b q) fun q=>e9 (e.ph.symm.trans q1) (e.col.symm.trans q2) b q hb,by rw[e.sk];exact r3.2⟩
theorem Ae.at (h:Ae ty top I w) (d:Nat):Ae ty top I (w.at d):=h.frame h.hs ⟨rfl,rfl,rfl,rfl,rfl,rfl,rfl,rfl,rfl,rfl,rfl,fun _ _=>rfl,fun _ h1 h2=>absurd h2 (Nat.not_lt.2 h1),Nat.le_refl _,fun _ _=>rfl,fun _ _ _=>rfl,fun _ _ _ _ _ _=>rfl⟩ (fun _ _ b h1 h2=>absurd h2 (Nat.not_lt.2 h1))
theorem Ae.deaf (h:Ae ty top I w) {d:Nat->Nat} (hd:∀i,(I.tag i=.idle\/I.tag i=.feed\/I.tag i=.coll\/∃x,I.tag i=.give x)->d i=I.deaf i):Ae ty top { I with deaf:=d } w :=
 h.frame h.hs ⟨rfl,rfl,rfl,rfl,rfl,rfl,rfl,rfl,rfl,rfl,rfl,fun _ _=>rfl,fun _ h1 h2=>absurd h2 (Nat.not_lt.2 h1),Nat.le_refl _,hd,fun _ _ _=>rfl,fun _ _ _ _ _ _=>rfl⟩ (fun _ _ b h1 h2=>absurd h2 (Nat.not_lt.2 h1))
theorem Ae.who (h:Ae ty top I w) (hi:I.tag i≠.gone):i=0\/∃lo,I.lo=some lo/\lo<=i:=by
 by_cases h0:i=0
 ·exact .inl h0
 right;unfold Ab.lo;cases hc:I.col with
 | none =>
  cases hp:I.ph with
  | none=>exact absurd ((h.free hp hc).2.1 i h0) hi
  | some p =>
   refine⟨p.b,rfl,Nat.le_of_not_lt fun hlt=>hi ((h.core p hp).rest i (by rw[(h.alone p hp hc).1];exact h0) hlt h0)⟩
 | some c =>
  refine⟨c.f,rfl,Nat.le_of_not_lt fun hlt=>hi ?_⟩;cases hp:I.ph with
  | none=>exact(h.lull c hc hp).rest i h0 (by omega)
  | some p =>
   have e:=(h.mate p c hp hc).1;have:=(h.core p hp).fd;exact(h.core p hp).rest i (by omega) (by omega) h0
end
section
variable {ty:TypeId} {top:Nat} {I I':Ab} {p:Ph} {w w':World} {i j k n:Nat} {t u:Trace} {P:Program} {Post:Value->World->Prop} {es:Array Event}
theorem Re (e5:I'.ow=I.ow) (l:Loc):I'.mixAt l=I.mixAt l:=by cases l<;>simp[Ab.mixAt,e5]
theorem Vh.low (h:Vh I.wh t n) (bj:∀i a,touchAt t i=some a->blk a.loc < I.hs) (e6:∀b,b < I.hs->I'.bk b=I.bk b) (e5:I'.ow=I.ow) (e7:I'.sk.lo=I.sk.lo) (hl:∀k l,blk l < I.hs->I'.live k l->I.live k l):Vh I'.wh t n:=by
 have hm:=Re e5;have hsh:∀l,blk l < I.hs->(I'.wh.sh l↔I.wh.sh l):=fun l hl=>by simp only[Ab.wh,e6 _ hl,hm]
 have hro:∀l,blk l < I.hs->(I'.wh.ro l↔I.wh.ro l):=fun l hl=>by simp only[Ab.wh,e6 _ hl]
 have hsay:∀l,blk l < I.hs->I'.wh.say l=I.wh.say l:=fun l hl=>by simp only[Ab.wh,e6 _ hl]
 have hown:∀l,blk l < I.hs->I'.wh.own l=I.wh.own l:=fun l hl=>by simp only[Ab.wh,e6 _ hl,hm,e7]
 have fresh:∀l,¬blk l < I.hs->∀i a,touchAt t i=some a->a.loc≠l:=fun l hl i a ha e=>hl (e ▸ bj i a ha);refine h.anew (fun i op x hi hx hs=>?_) (fun l hs hr=>?_) (fun l hs hr k hk=>?_) fun i a ha hs=>(hsh _ (bj i a ha)).2 hs
 ·have hlt:=bj i x (by rw[touchAt_of hi];exact hx);exact .inl ⟨(hsh _ hlt).1 hs,hsay _ hlt⟩
 ·by_cases hlt:blk l < I.hs
  ·rw[hown l hlt];exact(h.own l (fun q=>hs ((hsh l hlt).2 q)) fun q=>hr ((hro l hlt).2 q)).mono fun k hk=>hl k l hlt hk
  ·exact Hj.fresh (fresh l hlt)
 ·by_cases hlt:blk l < I.hs
  ·exact h.ro l (fun q=>hs ((hsh l hlt).2 q)) ((hro l hlt).1 hr) k (hl k l hlt hk)
  ·exact fun i a ha e=>absurd e (fresh l hlt i a ha)
theorem Ae.who2 (h:Ae ty top I w) (hi:I.tag i≠.gone):∀c,I.col=some c->I.ph=none->i=0\/(i=c.f/\I.tag i≠.gone):=fun c hc hp=>by
 by_cases h0:i=0
 ·exact .inl h0
 ·by_cases e:i=c.f
  ·exact .inr ⟨e,hi⟩
  ·exact absurd ((h.lull c hc hp).rest i h0 e) hi
theorem Iq.own (h:Iq I t) (e:I'.ph=I.ph) (ec:I'.col=I.col) (hg:∀op∈u,op.g=i) (hwho:i=0\/∃lo,I.lo=some lo/\lo<=i) (uj:∀c,I.col=some c->I.ph=none->i=0\/(i=c.f/\I.tag i≠.gone)) (hd:Vh I'.wh (t++u) I'.cnt) (p9:∀k,k≠i->I'.deaf k=I.deaf k) (hdi:Deaf (t++u) i=I'.deaf i)
  (hn:∀op∈u,∀a,op.act≠.mark (.release a)) (bj:∀i a,touchAt (t++u) i=some a->blk a.loc < I'.hs) (hrel:∀k,k≠i->k < I'.cnt->(I'.tag k).said->k < I.cnt/\(I.tag k).said)
  (ej:∀p,I.ph=some p->p.b<=i->(I'.tag i).said->∃r,RelBy (stA p.wg) (t++u) i r) (htag:∀c,I.col=some c->I.ph=none->I'.tag c.f=I.tag c.f):Iq I' (t++u):=by
 have elo:I'.lo=I.lo:=by unfold Ab.lo;rw[e,ec]
 have new:∀ {m},¬m < t.size->(t++u).counts m->∃op,(t++u)[m]?=some op/\op.g=i:=fun {m} hm hc=>by
  obtain⟨x,hx,_⟩:=hc;obtain⟨act,hact,_⟩:=Option.bind_eq_some_iff.1 hx;obtain⟨op,ho,rfl⟩:=Option.map_eq_some_iff.1 hact;refine⟨op,ho,?_⟩;rcases getElem?_append_cases ho with⟨q,_⟩|⟨_,q⟩
  ·exact absurd q hm
  ·exact hg op q
 refine⟨hd,fun k=>?_,h.nrel.app hn,bj,fun p hp k hk hk2 hs=>?_,fun j hc=>?_,fun c hc hp ht j hj=>?_,fun c hc hp ht=>?_⟩
 ·by_cases ek:k=i
  ·rw[ek];exact hdi
  ·rw[Deaf_other t (Ne.symm ek) u hg,h.deaf k,p9 k ek]
 ·rw[e] at hp;by_cases ek:k=i
  ·subst ek;exact ej p hp hk hs
  ·obtain⟨q1,q2⟩:=hrel k ek hk2 hs;obtain⟨r,hr⟩:=h.rel p hp k hk q1 q2;exact⟨r,hr.appOther hg (Ne.symm ek)⟩
 ·rw[elo];by_cases hj:j < t.size
  ·rcases h.old j ((counts_old hj).1 hc) with q|⟨lo,q1,k,q2,q3⟩
   ·exact .inl (q.app u)
   ·exact .inr ⟨lo,q1,k,q2,by rw[g?_old hj];exact q3⟩
  ·obtain⟨op,ho,hop⟩:=new hj hc;rcases hwho with q|⟨lo,q1,q2⟩
   ·left;have:=knows_own ho;rw[hop,q] at this;exact this
   ·exact .inr ⟨lo,q1,i,q2,by simp[Trace.g?,ho,hop]⟩
 ·rw[ec] at hc;rw[e] at hp;rw[htag c hc hp] at ht;by_cases hlt:j < t.size
  ·exact(h.fin c hc hp ht j ((counts_old hlt).1 hj)).imp (fun q=>q.app u) fun q=>q.app u
  ·obtain⟨op,ho,hop⟩:=new hlt hj;have:=knows_own ho;rw[hop] at this;rcases uj c hc hp with q|⟨q,_⟩
   ·left;rwa [q] at this
   ·right;rwa [q] at this
 ·rw[ec] at hc;rw[e] at hp;rw[htag c hc hp] at ht;obtain⟨q,q1,q2,q3⟩:=h.shut c hc hp ht;have hq:q < t.size:=lt_of_act? q1;refine⟨q,by rw[act?_old hq];exact q1,(heard_old hq).2 q2,fun j hj=>?_⟩;by_cases hlt:j < t.size
  ·exact(q3 j ((counts_old hlt).1 hj)).imp (fun r=>r.app u) fun r=>r.app u
  ·obtain⟨op,ho,hop⟩:=new hlt hj;have:=knows_own ho;rw[hop] at this;rcases uj c hc hp with r|⟨r,r2⟩
   ·left;rwa [r] at this
   ·exact absurd ht (by rw[<- r];exact r2)
theorem Iq.hush (h:Iq I t) (hu:∀op∈u,op.g=i/\op.act.touch?=none/\∀a,op.act≠.mark (.release a)) (hi:i < I.cnt) (hdi:Deaf (t++u) i=I'.deaf i) (e:I'={ I with deaf:=I'.deaf }) (p9:∀k,k≠i->I'.deaf k=I.deaf k):Iq I' (t++u):=by
 have e1:I'.ph=I.ph:=by rw[e]
 have e1':I'.col=I.col:=by rw[e]
 have e2:I'.wh=I.wh:=by rw[e];rfl
 have e3:I'.cnt=I.cnt:=by rw[e]
 have e4:I'.hs=I.hs:=by rw[e]
 have e5:I'.tag=I.tag:=by rw[e]
 have elo:I'.lo=I.lo:=by unfold Ab.lo;rw[e1,e1']
 have hg:∀op∈u,op.g=i:=fun op hop=>(hu op hop).1;have hs:∀op∈u,op.act.touch?=none:=fun op hop=>(hu op hop).2.1;have old:∀ {j},(t++u).counts j->j < t.size:=fun {j} hc=>by
  obtain⟨x,hx,_⟩:=hc;have:=Ah hs hx;obtain⟨_,h1,_⟩:=touch_of this;exact lt_size_of_getElem? h1
 refine⟨?_,fun k=>?_,h.nrel.app fun op hop=>(hu op hop).2.2,fun j a ha=>?_,fun p hp k hk hk2 hs'=>?_,fun j hc=>?_,fun c hc hp ht j hj=>?_,fun c hc hp ht=>?_⟩
 ·rw[e2,e3];exact h.d.silent (Nat.le_refl _) fun op hop=>⟨hs op hop,by rw[hg op hop];exact hi⟩
 ·by_cases ek:k=i
  ·rw[ek];exact hdi
  ·rw[Deaf_other t (Ne.symm ek) u hg,h.deaf k,p9 k ek]
 ·rw[e4];exact h.low j a (Ah hs ha)
 ·rw[e1] at hp;rw[e3] at hk2;rw[e5] at hs';obtain⟨r,hr⟩:=h.rel p hp k hk hk2 hs';refine⟨r,hr.app fun m hm hgm hc=>?_⟩;have:=old hc;omega
 ·rw[elo];have hj:=old hc;rcases h.old j ((counts_old hj).1 hc) with q|⟨lo,q1,k,q2,q3⟩
  ·exact .inl (q.app u)
  ·exact .inr ⟨lo,q1,k,q2,by rw[g?_old hj];exact q3⟩
 ·rw[e1'] at hc;rw[e1] at hp;rw[e5] at ht;exact(h.fin c hc hp ht j ((counts_old (old hj)).1 hj)).imp (fun q=>q.app u) fun q=>q.app u
 ·rw[e1'] at hc;rw[e1] at hp;rw[e5] at ht;obtain⟨q,q1,q2,q3⟩:=h.shut c hc hp ht;have hq:q < t.size:=lt_of_act? q1;exact⟨q,by rw[act?_old hq];exact q1,(heard_old hq).2 q2,fun j hj=>(q3 j ((counts_old (old hj)).1 hj)).imp (fun r=>r.app u) fun r=>r.app u⟩
theorem Hr (t:Trace) (i:Nat) (fn:FuncId) (pos:String):t++MemOp.ofEvents i fn pos #[]=t:=by show t++#[]=t;simp
def Ab.grown (I:Ab) (i:Nat) (w':World):Ab:={ I with hs:=w'.heap.size,bk:=fun b=>if I.hs<=b then .priv i else I.bk b }
theorem Ce {b:Nat} (h:b < I.hs):(I.grown i w').bk b=I.bk b:=by simp[Ab.grown,Nat.not_le.2 h]
theorem K4 {b:Nat} (h:I.hs<=b):(I.grown i w').bk b=.priv i:=by simp[Ab.grown,h]
theorem O0 (hs:I.hs=w.heap.size) (hsz:w.heap.size<=w'.heap.size):Fr (I.S i) w w'=(I.grown i w').S i:=by
 funext b
 apply propext;unfold Fr Ab.S;simp only[Ab.grown];constructor
 ·rintro(⟨h1,h2⟩|⟨h1,h2⟩)
  ·exact⟨by omega,by rw[if_neg (by omega)];exact h2⟩
  ·exact⟨h2,by rw[if_pos (by omega)]⟩
 ·rintro⟨h1,h2⟩;by_cases hb:I.hs<=b
  ·exact .inr ⟨by omega,h1⟩
  ·rw[if_neg hb] at h2;exact .inl ⟨by omega,h2⟩
theorem Ai9 (hsk:∀p,I.ph=some p->p.kind=.seek->p.out < I.hs/\I.bk p.out=.lock) (hs:I.hs=w.heap.size) (ho:Own (I.S i) (I.F i) w w' es) (dx:j≠i) (hn:j=0->I.col=none->I.ph=none->I.tag 0=.gone):G5 j I w (I.grown i w') w':=by
 refine⟨rfl,rfl,⟨rfl,rfl⟩,fun hg=>⟨by show I.hs<=w'.heap.size;rw[hs];exact ho.size,fun b hb _=>Ce hb,fun b hb e=>?_,fun b hb e=>?_,ho.tape,fun _ h=>h.1,fun h _=>h,rfl,fun _ _ _=>⟨rfl,Nat.le_refl _⟩,(fun e1 e2 e3=>absurd (e1 ▸ hn e1 e2 e3) hg),fun _ c _ _ _=>⟨fun b hb e=>?_,rfl⟩,fun _ _=>Nat.le_refl _,fun _ _ _=>Iff.rfl,fun _ _ h=>h,fun _=>rfl,fun p hp hk=>.of (c1:=rfl) rfl fun q=>?_⟩⟩
 ·by_cases hlt:I.hs<=b
  ·rw[K4 hlt] at e;injection e with e;exact absurd e.symm dx
  ·rw[Ce (by omega)] at e;exact⟨by omega,e⟩
 ·refine ho.old b (by omega) fun q=>?_;have:=q.2;rcases e with e|⟨m,_,e⟩
  ·rw[e] at this;injection this with this;exact dx this
  ·rw[e] at this;cases this
 ·refine ho.old b (by omega) fun q=>?_;have:=q.2;rw[e] at this;cases this
 ·obtain⟨q1,q2⟩:=hsk p hp.1 hk;have:=ho.old p.out (by omega) fun r=>by have:=r.2;rw[q2] at this;cases this
  simp only[World.cell?,this]
theorem Ade {fn:FuncId} {pos:String} {e:Event} (hs:I.hs=w.heap.size) (hi:i < I.cnt) (hg:I.tag i≠.gone) (h:EvS (Fr (I.S i) w w') (I.F i) e) (hsz:w.heap.size<=w'.heap.size):OkT (I.grown i w').wh i { g:=i,fn,pos,act:=.ofEvent e }/\∀x,(MemAct.ofEvent e).touch?=some x->blk x.loc < w'.heap.size:=by
 have key:∀l,(Fr (I.S i) w w' (blk l)\/I.F i (blk l))->blk l < w'.heap.size/\¬(I.grown i w').wh.sh l/\((Fr (I.S i) w w' (blk l)->¬(I.grown i w').wh.ro l/\(I.grown i w').wh.own l=some i)/\(I.F i (blk l)->(I.grown i w').wh.ro l/\(I.grown i w').wh.live i l)):=by
  intro l hl;have hF:I.F i (blk l)->∃m,m<=i/\(I.grown i w').bk (blk l)=.fix m:=fun⟨q1,m,q2,q3⟩=>⟨m,q2,(Ce q1).trans q3⟩;have hS:Fr (I.S i) w w' (blk l)->(I.grown i w').bk (blk l)=.priv i:=fun q=>by rw[O0 hs hsz] at q;exact q.2
  refine⟨?_,?_,fun q=>⟨?_,?_⟩,fun q=>?_⟩
  ·rcases hl with q|q
   ·rw[O0 hs hsz] at q;exact q.1
   ·have:=q.1;omega
  ·rintro(⟨s,e⟩|⟨e,_⟩|⟨e,_⟩)<;>(rcases hl with q|q<;>first | (rw[hS q] at e;cases e) | (obtain⟨m,_,q2⟩:=hF q;rw[q2] at e;cases e))
  ·rintro⟨m,e⟩;rw[hS q] at e;cases e
  ·simp only[Ab.wh,hS q]
  ·obtain⟨m,q1,q2⟩:=hF q;exact⟨⟨m,q2⟩,hi,hg,fun m' q3=>by rw[q2] at q3;injection q3 with q3;omega⟩
 obtain⟨loc,wr,sync⟩:=e;rcases h with⟨ad,h1,h2,h3⟩|⟨m,h1,h2⟩|⟨r,h1,h2,h3,h4⟩
 ·dsimp only at h1 h2 h3;subst h1 h2;have e1:MemAct.ofEvent ⟨.cell ad,wr,false⟩=.access ⟨.cell ad,wr,false⟩:=rfl;rw[e1];obtain⟨k1,k2,k3,k4⟩:=key (.cell ad) (h3.imp id fun q=>q.1);refine⟨⟨rfl,fun x hx=>?_⟩,fun x hx=>?_⟩
  ·simp only[MemAct.touch?,Option.some.injEq] at hx;subst hx;refine .inr ⟨k2,by simp,rfl,?_⟩;rcases h3 with q|⟨q,q2⟩
   ·exact .inl (k3 q)
   ·exact .inr ⟨(k4 q).1,(k4 q).2,q2⟩
  ·simp only[MemAct.touch?,Option.some.injEq] at hx;subst hx;exact k1
 ·dsimp only at h1;subst h1;have e1:MemAct.ofEvent ⟨.mark m,wr,sync⟩=.mark m:=by cases wr<;>cases sync<;>rfl
  have e2:(MemAct.mark m).touch?=none:=by cases m<;>first|rfl | (simp[Mark.mute'] at h2)
  rw[e1];exact⟨⟨rfl,fun x hx=>by simp only[e2] at hx;cases hx⟩,fun x hx=>by rw[e2] at hx;cases hx⟩
 ·dsimp only at h1 h2 h3 h4;subst h1 h3 h4;have e1:MemAct.ofEvent ⟨.obj r,false,false⟩=.access ⟨.obj r,false,false⟩:=rfl;rw[e1];obtain⟨k1,k2,k3,k4⟩:=key (.obj r) h2;refine⟨⟨rfl,fun x hx=>?_⟩,fun x hx=>?_⟩
  ·simp only[MemAct.touch?,Option.some.injEq] at hx;subst hx;refine .inr ⟨k2,by simp,rfl,?_⟩;rcases h2 with q|q
   ·exact .inl (k3 q)
   ·exact .inr ⟨(k4 q).1,(k4 q).2,rfl⟩
  ·simp only[MemAct.touch?,Option.some.injEq] at hx;subst hx;exact k1
theorem Cc {g:Nat} {fn:FuncId} {pos:String} {op:MemOp} (h:op∈MemOp.ofEvents g fn pos es):∃e,e∈es/\op={ g,fn,pos,act:=.ofEvent e }:=by
 rw[ofEvents_eq] at h;obtain⟨e,he,rfl⟩:=Array.mem_map.1 h;exact⟨e,he,rfl⟩
theorem Vb {e:Event} {a:Addr} (h:MemAct.ofEvent e=.mark (.release a)):e.loc=.mark (.release a):=Go.ConcR.loc_of_ofEvent h
theorem deafBehind_still (d:Nat) (h:∀e∈es,e.loc≠.mark .disable/\e.loc≠.mark .enable):deafBehind d es=d:=by
 have key:∀(l:List Event),(∀e∈l,e.loc≠.mark .disable/\e.loc≠.mark .enable)->l.foldl (fun d e=>match e.loc with | .mark .disable=>d+1 | .mark .enable=>d - 1|_=>d) d=d:=by
  intro l
  induction l with
  | nil=>intro _;rfl
  | cons e l ih =>
   intro hl;rw[List.foldl_cons];have he:=hl e (by simp);have:(match e.loc with | .mark .disable=>d+1 | .mark .enable=>d - 1|_=>d)=d:=by
    split
    ·rename_i q;exact absurd q he.1
    ·rename_i q;exact absurd q he.2
    ·rfl
   rw[this];exact ih fun x hx=>hl x (by simp[hx])
 unfold deafBehind;rw[<- Array.foldl_toList];exact key es.toList fun e he=>h e (by simpa using he)
theorem Z7 {S F:Nat->Prop} {e:Event} (h:EvS S F e):(e.loc≠.mark .disable/\e.loc≠.mark .enable)/\∀a,e.loc≠.mark (.release a):=by
 rcases h with⟨ad,h1,_⟩|⟨m,h1,h2⟩|⟨r,h1,_⟩
 ·rw[h1];simp
 ·rw[h1];cases m<;>simp[Mark.mute'] at h2 ⊢
 ·rw[h1];simp
theorem Og (h:E5 ty j I w) (e0:I'.ph=I.ph) (e1:I'.tag j=I.tag j) (es:∀m,I.sk.ml m j=.que->I'.sk.ml m j=.que/\((I.sk.mw m).q=0->(I'.sk.mw m).q=0)) (hh:∀p,I.ph=some p->w'.heap[p.wg]?=w.heap[p.wg]?):E5 ty j I' w':=by
 cases h with
 | wg p st h1 h2 h3 h4=>exact .wg p st (e0.trans h1) h2 (e1.trans h3) (h4.of_block (hh p h1))
 | que p m h1 h2 h3 h4 h5 =>
  obtain⟨q1,q2⟩:=es m h4;exact .que p m (e0.trans h1) h2 h3 q1 (q2 h5)
theorem Fw (h:E5 ty j I w) (e0:I'.ph=I.ph) (e1:I'.tag j=I.tag j) (hh:∀p,I.ph=some p->w'.heap[p.wg]?=w.heap[p.wg]?) (es:I'.sk=I.sk:=by rfl):E5 ty j I' w' :=
 Og h e0 e1 (fun m q=>by rw[es];exact⟨q,id⟩) hh
theorem Ed {q r:Nat} {z:Value} (h:(rcase q z).chan=.chan (some r)):r=q:=by simpa [rcase,eq_comm] using h
theorem Pw {q r:Nat} {v z:Value} (h:(scase q v z).chan=.chan (some r)):r=q:=by simpa [scase,eq_comm] using h
theorem Kx {cases:Array CommCase} {b:Bool} {c:CommCase} {r:Nat} (hI:Ae ty top I w) (h:Ft j I cases b) (hc:c∈cases) (hr:c.chan=.chan (some r)):r < I.hs/\(∃s,I.bk r=.shd s)/\∀p,I.ph=some p->r≠p.wg:=by
 have ne:∀ {c:Ir} {p:Ph},I.col=some c->I.ph=some p->c.dn≠p.wg:=fun {c p} h1 h2 e=>by
  obtain⟨s,q⟩:=(hI.coll c h1).dn;obtain⟨st,sm,q2,_⟩:=(hI.core p h2).wgm;rw[e] at q;rw[show w.heap[p.wg]?=_ from q2] at q;cases q
 have same:∀ {p p':Ph},I.ph=some p->I.ph=some p'->p=p':=fun h1 h2=>Option.some.inj (h1.symm.trans h2);cases h with
 | idle p z h1 h2 h3 h4 h5 =>
  subst h5;simp only[List.mem_toArray,List.mem_singleton] at hc;subst hc;obtain rfl:=Ed hr;have h:=hI.core p h1;exact⟨(h.lts hI.hs).2.1,⟨_,h.bjobs⟩,fun p' hp'=>by rw[<- same h1 hp'];exact h.ne.1⟩
 | peek p z h1 h2 h3 h4 h5 =>
  subst h5;simp only[List.mem_toArray,List.mem_singleton] at hc;subst hc;obtain rfl:=Ed hr;have h:=hI.core p h1;exact⟨(h.lts hI.hs).2.2,⟨_,h.bstop⟩,fun p' hp'=>by rw[<- same h1 hp'];exact h.ne.2.1⟩
 | feed p z z' h1 h2 h3 h4 h5 h6 =>
  subst h6;have h:=hI.core p h1;simp only[List.mem_toArray,List.mem_cons,List.not_mem_nil,or_false] at hc;rcases hc with rfl|rfl
  ·obtain rfl:=Pw hr;exact⟨(h.lts hI.hs).2.1,⟨_,h.bjobs⟩,fun p' hp'=>by rw[<- same h1 hp'];exact h.ne.1⟩
  ·obtain rfl:=Ed hr;exact⟨(h.lts hI.hs).2.2,⟨_,h.bstop⟩,fun p' hp'=>by rw[<- same h1 hp'];exact h.ne.2.1⟩
 | coll c z h1 h2 h3 h4 =>
  subst h4;simp only[List.mem_toArray,List.mem_singleton] at hc;subst hc;obtain rfl:=Ed hr;exact⟨(hI.coll c h1).lt hI.hs,⟨_,(hI.coll c h1).bdn⟩,fun p' hp'=>ne h1 hp'⟩
 | give c x z h1 h2 h3 h4 h5 =>
  subst h5;simp only[List.mem_toArray,List.mem_singleton] at hc;subst hc;obtain rfl:=Pw hr;exact⟨(hI.coll c h1).lt hI.hs,⟨_,(hI.coll c h1).bdn⟩,fun p' hp'=>ne h1 hp'⟩
theorem Ahm {x:B6} (h:¬x.tied):x≠.gone:=fun e=>h (by rw[e];trivial)
theorem Ya (hI:Ae ty top I w) (hi:i < I.cnt) (hns:¬(I.tag i).tied) (ho:Own (I.S i) (I.F i) w w' es) (wk:Prop):(Al P ty top Post).Do i I w (I.grown i w') w' wk es:=by
 have ht:I.tag i≠.gone:=Ahm hns;have x5:¬(I.tag i).said:=fun h=>hns (B6.tied_of_said h);have hheap:∀b,b < I.hs->I.bk b≠.priv i->w'.heap[b]?=w.heap[b]?:=fun b hb hj=>ho.old b (by rw[<- hI.hs];exact hb) fun q=>hj q.2;have hfree:I.col=none->I.ph=none->i=0:=fun hc hp=>Classical.byContradiction fun hn=>ht ((hI.free hp hc).2.1 i hn);refine⟨?_,fun j hj=>Ai9 (fun p hp hk=>have hS:=(hI.core p hp).seek hk;⟨(hS.lt hI.hs).1,hS.bout⟩) hI.hs ho hj (fun e1 e2 e3=>absurd ((hfree e2 e3).trans e1.symm).symm hj),fun t fn pos hT=>?_,fun j cases c r hj hof hc hr=>.inl ?_,.inr fun j hj hw=>?_,rfl,.of ho.os ho.output⟩
 ·refine hI.frame rfl ⟨rfl,rfl,rfl,rfl,rfl,rfl,rfl,rfl,rfl,rfl,rfl,fun b hb=>Ce hb,fun b h1 _=>by rw[K4 h1];exact⟨fun m=>by simp,by simp⟩,?_,fun _ _=>rfl,fun b hb hj=>hheap b hb (hj i),fun b j x hb e1 e2=>hheap b hb fun q=>?_⟩ (fun hp hc b h1 _=>.inr (.inl (by rw[K4 h1,hfree hc hp])))
  ·show I.hs<=w'.heap.size;rw[hI.hs];exact ho.size
  ·rw[e1] at q;injection q with q;subst q;exact hns (by rw[e2];trivial)
 ·have hev:∀e∈es,EvS (Fr (I.S i) w w') (I.F i) e:=ho.ev;refine Iq.own hT rfl rfl (fun op hop=>by obtain⟨e,_,rfl⟩:=Cc hop;rfl) (hI.who ht) (hI.who2 ht) ((hT.d.low hT.low (fun b hb=>Ce hb) rfl rfl fun k l hl hk=>⟨hk.1,hk.2.1,fun m q=>hk.2.2 m ((Ce hl).trans q)⟩).app hi fun op hop=>?_) (fun _ _=>rfl) ?_ (fun op hop a e=>?_) (fun m a ha=>?_) (fun k _ h1 h2=>⟨h1,h2⟩) (fun p _ _ h=>absurd h x5) (fun _ _ _=>rfl)
  ·obtain⟨e,he,rfl⟩:=Cc hop;exact(Ade hI.hs hi ht (hev e he) ho.size).1
  ·rw[Deaf_own,deafBehind_still _ fun e he=>(Z7 (hev e he)).1];exact hT.deaf i
  ·obtain⟨e',he,rfl⟩:=Cc hop;exact(Z7 (hev e' he)).2 a (Vb e)
  ·obtain⟨x,hx,xd⟩:=touch_of ha;rcases getElem?_append_cases hx with⟨_,hx'⟩|⟨_,hop⟩
   ·have:=hT.low m a (by rw[touchAt_of hx'];exact xd);have h2:=ho.size;have h3:=hI.hs;show blk a.loc < w'.heap.size;omega
   ·obtain⟨e,he,rfl⟩:=Cc hop;exact(Ade (fn:=fn) (pos:=pos) hI.hs hi ht (hev e he) ho.size).2 a xd
 ·obtain⟨r1,⟨s,r2⟩,_⟩:=Kx hI hof hc hr;exact hheap _ r1 (by rw[r2];simp)
 ·exact Fw hw rfl rfl fun p hp=>by
   have hC:=hI.core p hp;exact hheap _ (hC.lts hI.hs).1 (by rw[hC.bwg];simp)
theorem Kc (hI:Ae ty top I w) (hi:i < I.cnt) (hm:∀e∈es,Event.mute e=true) (hq:es=#[]\/(I.tag i≠.idle/\I.tag i≠.feed/\I.tag i≠.coll/\∀x,I.tag i≠.give x)) (wk:Prop):(Al P ty top Post).Do i I w (I.setDeaf i (deafBehind (I.deaf i) es)) w wk es:=by
 have mute:∀e∈es,e.loc=.mark .disable\/e.loc=.mark .enable:=fun e he=>by
  have:=hm e he;obtain⟨l,wr,sy⟩:=e;cases l with
  | mark m=>cases m<;>first|exact .inl rfl|exact .inr rfl | (simp[Event.mute] at this)
  | _=>simp[Event.mute] at this
 have hdf:∀k,(I.tag k=.idle\/I.tag k=.feed\/I.tag k=.coll\/∃x,I.tag k=.give x)->(I.setDeaf i (deafBehind (I.deaf i) es)).deaf k=I.deaf k:=fun k hk=>by
  show upd I.deaf i _ k=_;by_cases e:k=i
  ·subst e;rw[upd_same];rcases hq with q|⟨q1,q2,q3,q4⟩
   ·subst q;rfl
   ·rcases hk with q|q|q|⟨x,q⟩
    ·exact absurd q q1
    ·exact absurd q q2
    ·exact absurd q q3
    ·exact absurd q (q4 x)
  ·exact upd_ne _ _ e
 refine⟨hI.deaf hdf,fun j hj=>⟨rfl,upd_ne _ _ hj,⟨rfl,rfl⟩,fun _=>⟨Nat.le_refl _,fun _ _ _=>rfl,fun _ h1 h2=>⟨h1,h2⟩,fun _ _ _=>rfl,rfl,fun _ h=>h.1,fun h _=>h,rfl,fun _ _ _=>⟨rfl,Nat.le_refl _⟩,fun _ _ _=>⟨rfl,rfl,rfl⟩,fun _ _ _ _ _=>⟨fun _ _ _=>rfl,rfl⟩,fun _ _=>Nat.le_refl _,fun _ _ _=>Iff.rfl,fun _ _ h=>h,fun _=>rfl,fun _ _ _=>.of (c1:=rfl) rfl fun _=>rfl⟩⟩,fun t fn pos hT=>?_,fun _ _ _ _ _ _ _ _=>.inl rfl,.inr fun j hj hw=>Fw hw rfl rfl fun _ _=>rfl,rfl,.refl _⟩;refine hT.hush (i:=i) (fun op hop=>?_) hi ?_ rfl fun k hk=>upd_ne _ _ hk
 ·obtain⟨e,he,rfl⟩:=Cc hop;rcases mute e he with h|h<;>(rw[Go.ConcR.ofEvent_loc_mark h];exact⟨rfl,rfl,by simp⟩)
 ·rw[Deaf_own,hT.deaf i];exact(upd_same _ _ _).symm
theorem Aar (I:Ab) (i:Nat):I.setDeaf i (I.deaf i)=I:=by
 have:upd I.deaf i (I.deaf i)=I.deaf:=by funext k;by_cases e:k=i<;>simp[upd,e]
 unfold Ab.setDeaf;rw[this]
theorem Fj (hI:Ae ty top I w) (hi:i < I.cnt) (wk:Prop):(Al P ty top Post).Do i I w I w wk #[]:=by
 have:=Kc (P:=P) (Post:=Post) (es:=#[]) hI hi (by simp) (.inl rfl) wk;rw[show deafBehind (I.deaf i) #[]=I.deaf i from rfl,Aar] at this;exact this
theorem Akl:∀i I w es,Ae ty top I w->(i≠0/\I.tag i=.gone)->i < I.cnt->(∀e∈es,Event.mute e=true)->∃I',(Al P ty top Post).Do i I w I' w False es/\(i≠0/\I'.tag i=.gone)/\I'.deaf i=deafBehind (I.deaf i) es :=
 fun i I _ _ hI hg hi hm=>⟨_,Kc hI hi hm (.inr (by rw[hg.2];simp)) False,hg,upd_same _ _ _⟩
end
section
variable {ty:TypeId} {top:Nat} {I I':Ab} {p:Ph} {c:Ir} {w w':World} {i j k n:Nat} {t u:Trace} {P:Program} {Post:Value->World->Prop} {es:Array Event} {tag:Nat->B6}
theorem Gq (x:B6) (h1:p.b<=i) (h2:i < p.b+p.W):Et (upd tag i x) p+(tag i).cw=Et tag p+x.cw:=by
 have:=sumTo_upd (fun j=>tag (p.b+j)) x B6.cw (i:=i - p.b) (j:=p.W) (by omega);rw[show p.b+(i - p.b)=i by omega] at this;unfold Et;rw[<- this]
 congr 1
 refine sumTo_congr fun a _=>?_
 congr 1
 by_cases e:p.b+a=i
 ·have:a=i - p.b:=by omega
  subst this;rw[e,upd_same,upd_same]
 ·rw[upd_ne _ _ e,upd_ne _ _ (by omega)]
theorem Mk (x:B6) (h1:i < p.b):Et (upd tag i x) p=Et tag p:=by
 unfold Et;exact sumTo_congr fun a _=>by rw[upd_ne _ _ (by omega)]
theorem Ath (h1:1<=Et tag p):∃i,p.b<=i/\i < p.b+p.W/\(tag i).cw=1:=by
 have key:∀n,1<=sumTo n (fun j=>(tag (p.b+j)).cw)->∃i,p.b<=i/\i < p.b+n/\(tag i).cw=1:=by
  intro n
  induction n with
  | zero=>intro h;simp[sumTo] at h
  | succ n ih =>
   intro h;simp only[sumTo] at h;by_cases e:(tag (p.b+n)).cw=1
   ·exact⟨p.b+n,by omega,by omega,e⟩
   ·have:(tag (p.b+n)).cw=0:=by cases q:tag (p.b+n)<;>rw[q] at e<;>simp[B6.cw] at e ⊢
    obtain⟨i,q1,q2,q3⟩:=ih (by omega);exact⟨i,q1,by omega,q3⟩
 exact key p.W h1
theorem Core.cntW (h:Core ty I p w):I.cnt<=p.b+p.W:=by
 rw[h.cnt];unfold Ab.started;split
 ·rename_i j q e;have:=(h.add j q e).1;omega
 ·omega
theorem heap_setChan (w:World) (c cap:Nat) (buf:Array Value) (cl:Bool) (s r:Nat) (tm:Bool) {b:Nat} (h:b≠c):(w.setChan c cap buf cl s r tm).heap[b]?=w.heap[b]?:=Array.getElem?_setIfInBounds_ne (Ne.symm h)
theorem Dj (w:World) (c cap:Nat) (buf:Array Value) (cl:Bool) (s r:Nat) (tm:Bool) (h:c < w.heap.size):(w.setChan c cap buf cl s r tm).heap[c]?=some (.chan cap buf cl s r tm):=Array.getElem?_setIfInBounds_self_of_lt h
theorem Ag {p p':Ph} (h:I.ph=some p) (h':I.ph=some p'):p=p':=Option.some.inj (h.symm.trans h')
theorem Cv {c c':Ir} (h:I.col=some c) (h':I.col=some c'):c=c':=Option.some.inj (h.symm.trans h')
theorem Ae.dn_ne (hI:Ae ty top I w) {c:Ir} (hc:I.col=some c) (hp:I.ph=some p):c.dn≠p.wg/\c.dn≠p.jobs/\c.dn≠p.stop:=by
 have h:=hI.core p hp;have hC:=hI.coll c hc;have hm:=hI.mate p c hp hc;have hf:=hC.f.1;have e:=hC.bdn;refine⟨fun q=>?_,fun q=>?_,fun q=>?_⟩
 ·rw[q,h.bwg] at e;injection e with e;omega
 ·rw[q,h.bjobs] at e;injection e with e;omega
 ·rw[q,h.bstop] at e;injection e with e;omega
theorem Y3.retag (h:Y3 I w c) (hs:I.hs=w.heap.size) (e0:I'.tag 0=.coll) (e1:(I'.tag c.f).ended=(I.tag c.f).ended) (e2:I'.cnt=I.cnt) (e3:I'.hs=I.hs) (e4:I'.bk c.dn=.shd 0) (e5:∀b,b < I.hs->I'.bk b=.fix 0->I.bk b=.fix 0) (e6:I'.deaf 0=I.deaf 0)
  (e7:∀i x,I'.tag i=.give x->I.tag i=.give x/\I'.deaf i=I.deaf i/\I'.gv i=I.gv i/\I'.gb i=I.gb i/\∀B,I.gb i=some B->B < I.hs->I.bk B=.priv i->I'.bk B=.priv i/\w'.heap[B]?=w.heap[B]?) (hd:w'.heap[c.dn]?=w.heap[c.dn]?) (hf:∀b,b < I.hs->I.bk b=.fix 0->w'.heap[b]?=w.heap[b]?):Y3 I' w' c:=by
 refine⟨e0,by rw[e2];exact h.f,e4,?_,fun b hb q=>?_,e6.trans h.deaf,fun i x hx=>?_⟩
 ·obtain⟨s,q⟩:=h.dn;exact⟨s,by rw[e1,hd];exact q⟩
 ·rw[e3] at hb;have q':=e5 b hb q;exact(hf b hb q').trans (h.fix b hb q')
 ·obtain⟨r1,r2,r3,r4,r5⟩:=e7 i x hx;obtain⟨q1,ob,q2,q3⟩:=h.give i x r1;refine⟨r2.trans q1,ob,by rw[r3];exact q2,?_⟩;rw[r4];cases hb:I.gb i with
  | none=>rw[hb] at q3;exact q3
  | some B =>
   rw[hb] at q3;obtain⟨s1,s2,o,s3,s4⟩:=q3;obtain⟨u1,u2⟩:=r5 B hb s1 s2;exact⟨by rw[e3];exact s1,u1,o,u2.trans s3,s4⟩
theorem Acz (h:Co I p w) (ht:∀x,I.tag i≠.busy x) {m:Nat} (hm:m < 2):I.sk.ml m i=.off:=Classical.byContradiction fun q=>let ⟨x,r⟩:=h.busy m i hm q;ht x r
theorem Ajt (hI:Ae ty top I w) (hp:I.ph=some p) (hk:p.kind=.seek) (hn:I.next < p.n) (hb:p.b<=i) (hi:i < I.cnt) (ht:I.tag i=.idle) (s:Nat):Co (I.pass p i) p (w.setChan p.jobs 0 #[] false s s false):=by
 have h:=hI.core p hp;have hS:=h.seek hk;have hiW:i < p.b+p.W:=by have:=h.cntW;omega
 have off:∀m,m < 2->I.sk.ml m i=.off:=fun m hm=>Acz hS (fun x=>by rw[ht];simp) hm;have mi:∀m,(I.pass p i).sk.ml m i=.fresh:=fun m=>if_pos rfl;have mk:∀m k,k≠i->(I.pass p i).sk.ml m k=I.sk.ml m k:=fun m k hk=>if_neg hk;have hl:=hS.left;refine⟨hS.bout,hS.bonce,hS.ne,hS.W,?_,?_,fun m hm=>(Fe.give (hS.mi m hm) hb hiW (off m hm)).1,fun m k hm q=>?_,?_,fun k q=>?_,fun q=>hS.lo0 fun k r=>q k ?_,fun k=>?_,fun x q=>⟨(hS.took x q).1,Nat.lt_succ_of_lt (hS.took x q).2⟩,hS.done,hS.stp,fun q1 q2=>?_,hS.od1,fun k x e=>hS.nogive k x ?_⟩
 ·obtain⟨v,q,q2⟩:=hS.best;exact⟨v,(heap_setChan _ _ _ _ _ _ _ _ fun e=>by have:=hS.bout;rw[e,h.bjobs] at this;cases this).trans q,q2⟩
 ·exact(heap_setChan _ _ _ _ _ _ _ _ hS.ne.2.1).trans hS.once
 ·by_cases e:k=i
  ·exact⟨I.next,by rw[e];exact upd_same _ _ _⟩
  ·rw[mk m k e] at q;obtain⟨x,r⟩:=hS.busy m k hm q;exact⟨x,(upd_ne _ _ e).trans r⟩
 ·show I.sk.left - 1+(I.next+1)=p.n;omega
 ·by_cases e:k=i
  ·rw[e,mi] at q;cases q
  ·rw[mk 0 k e] at q;exact hS.lo1 k q
 ·rw[mk 0 k fun e=>by rw[e,off 0 (by omega)] at r;cases r];exact r
 ·by_cases e:k=i
  ·right;left;rw[e,mi]
  ·rw[mk 0 k e,mk 1 k e];exact hS.two k
 ·obtain⟨k,r⟩:=hS.od0 q1 q2;exact⟨k,by rw[mk 1 k fun e=>by rw[e,off 1 (by omega)] at r;cases r];exact r⟩
 ·have e':upd I.tag i (.busy I.next) k=.give x:=e;by_cases q:k=i
  ·subst q;rw[upd_same] at e';cases e'
  ·rwa [upd_ne _ _ q] at e'
theorem Afo (hI:Ae ty top I w) (hp:I.ph=some p) (hn:I.next < p.n) (hb:p.b<=i) (hi:i < I.cnt) (ht:I.tag i=.idle) (dx:j≠i) (hk:p.kind=.seek) (s:Nat):Ec j p I w (I.pass p i) (w.setChan p.jobs 0 #[] false s s false):=by
 have h:=hI.core p hp;have hS:=h.seek hk;have hiW:i < p.b+p.W:=by have:=h.cntW;omega
 have hl:=hS.left;refine⟨fun m hm=>⟨?_,.inl rfl⟩,fun _ _ _=>Nat.le_refl _,fun _=>⟨?_,fun _=>Iff.rfl⟩,fun _ _=>⟨rfl,rfl⟩,fun _ q=>q⟩
 ·have e:mN ML.wt p.b p.W ((I.pass p i).sk.ml m)=mN ML.wt p.b p.W (I.sk.ml m)+6:=(Fe.give (hS.mi m hm) hb hiW (Acz hS (fun x=>by rw[ht];simp) hm)).2;show 6 * (I.sk.left - 1)+mN ML.wt p.b p.W ((I.pass p i).sk.ml m)+(I.sk.mw m).q<=6 * I.sk.left+mN ML.wt p.b p.W (I.sk.ml m)+(I.sk.mw m).q;omega
 ·have:(w.setChan p.jobs 0 #[] false s s false).heap[p.out]?=w.heap[p.out]?:=heap_setChan _ _ _ _ _ _ _ _ fun e=>by have:=hS.bout;rw[e,h.bjobs] at this;cases this
  simp only[World.cell?,this]
theorem Aju (hI:Ae ty top I w) (hp:I.ph=some p) (hf:I.tag p.f=.feed) (hn:I.next < p.n) (hb:p.b<=i) (hi:i < I.cnt) (ht:I.tag i=.idle) (s:Nat):Ae ty top (I.pass p i) (w.setChan p.jobs 0 #[] false s s false):=by
 have h:=hI.core p hp;obtain⟨l1,l2,l3⟩:=h.lts hI.hs;have hsz:(w.setChan p.jobs 0 #[] false s s false).heap.size=w.heap.size:=by simp[World.setChan]
 have hfi:p.f≠i:=by have:=h.fd;omega
 have hi0:i≠0:=by have:=h.fd;omega
 have hcl:(I.tag p.f).closed=false:=by rw[hf];rfl
 have af:∀ {k:Nat} {x:B6},upd I.tag i (.busy I.next) k=x->x≠.busy I.next->I.tag k=x:=fun {k x} e hx=>by
  by_cases q:k=i
  ·subst q;rw[upd_same] at e;exact absurd e.symm hx
  ·rwa [upd_ne _ _ q] at e
 have tf:(I.pass p i).tag p.f=.feed:=(upd_ne _ _ hfi).trans hf;refine⟨by rw[hsz];exact hI.hs,hI.cnt,?_,fun k hk=>?_,fun q=>?_,fun p' hp'=>?_,fun c hc=>?_,fun c _ q=>?_,hI.mate,hI.alone,hI.top⟩
 ·show upd I.tag i _ 0≠_;rw[upd_ne _ _ (Ne.symm hi0)];exact hI.main
 ·show upd I.tag i _ k=_;rw[upd_ne _ _ (by have:I.cnt<=k:=hk;omega)];exact hI.un k hk
 ·have q':I.ph=none:=q;rw[hp] at q';cases q'
 ·obtain rfl:=Ag hp hp';refine⟨h.bwg,h.bjobs,h.bstop,h.ne,fun b m hb e=>?_,h.fixm,h.fd,by rw[tf];trivial,?_,(fun j q e=>by rw[tf] at e;cases e),fun k h1 h2 h3=>?_,fun k hk=>?_,fun _ k h1 h2=>?_,?_,⟨s,?_⟩,?_,h.stpk,fun x hx=>?_,?_,(fun e=>by rw[tf] at e;cases e),⟨fun k x e=>?_,fun x hx=>Nat.lt_succ_of_lt (h.busy.2 x hx)⟩,fun k hk=>?_,h.small,h.pos,fun q=>?_,fun q=>Ajt hI hp q hn hb hi ht s,h.nomix⟩
  ·rw[heap_setChan _ _ _ _ _ _ _ _ (fun q=>by subst q;have e':I.bk p.jobs=.fix m:=e;rw[h.bjobs] at e';cases e')];exact h.fix b m hb e
  ·show I.cnt=p.b+(I.pass p i).started p;have:=h.cnt;unfold Ab.started at this ⊢;rw[tf];rw[hf] at this;exact this
  ·show upd I.tag i _ k=_;rw[upd_ne _ _ (by omega)];exact h.rest k h1 h2 h3
  ·show (upd I.tag i _ k).works;by_cases q:k=i
   ·subst q;rw[upd_same];trivial
   ·rw[upd_ne _ _ q];exact h.wtag k hk
  ·show (upd I.tag i _ k).early;by_cases q:k=i
   ·subst q;rw[upd_same];trivial
   ·rw[upd_ne _ _ q];exact h.early hcl k h1 h2
  ·obtain⟨st,sm,q1,q2⟩:=h.wgm;refine⟨st,sm,q1.of_block (heap_setChan _ _ _ _ _ _ _ _ (Ne.symm h.ne.1)),?_⟩;cases q2 with
   | opn q3 q4 =>
    have hv:Et (upd I.tag i (.busy I.next)) p=Et I.tag p:=by
     have:=Gq (tag:=I.tag) (.busy I.next) hb (by have:=h.cntW;omega);rw[ht] at this;simp only[B6.cw] at this;omega
    rw[<- hv,show (I.tag p.f).pend=((I.pass p i).tag p.f).pend by rw[tf,hf]];refine .opn (by rw[tf];trivial) fun k hk=>?_;show ¬(upd I.tag i _ k).lasts;by_cases q:k=i
    ·subst q;rw[upd_same];exact id
    ·rw[upd_ne _ _ q];exact q4 k hk
   | reg q3=>rw[hf] at q3;cases q3
   | last _ _ q3=>rw[hf] at q3;cases q3
   | sema q3=>rw[hf] at q3;cases q3
   | fin q3=>rw[hf] at q3;cases q3
  ·rw[Dj _ _ _ _ _ _ _ _ (by rw[<- hI.hs];exact l2),tf];rfl
  ·rw[heap_setChan _ _ _ _ _ _ _ _ (Ne.symm h.ne.2.2)];exact h.stop
  ·have hx':x < I.next+1:=hx
   by_cases e:x=I.next
   ·exact .inr ⟨i,hb,.inl (by show upd I.tag i _ i=_;rw[upd_same,e])⟩
   ·rcases h.job x (by omega) with q|⟨m,q1,q2⟩
    ·exact .inl q
    ·refine .inr ⟨m,q1,?_⟩;show (upd I.tag i _ m).at_ x;rw[upd_ne _ _ (fun q=>by subst q;rw[ht] at q2;rcases q2 with q2|q2<;>cases q2)];exact q2
  ·show I.next+1<=p.n;omega
  ·have e':(upd I.tag i (.busy I.next) k).at_ x:=e;by_cases q:k=i
   ·subst q;rw[upd_same] at e';rcases e' with e' | e'
    ·injection e' with e';subst e';refine⟨Nat.lt_succ_self _,fun r=>Nat.lt_irrefl _ (h.busy.2 _ r),fun j e2=>?_⟩;by_cases q2:j=k
     ·exact q2
     ·have e3:(upd I.tag k (.busy I.next) j).at_ I.next:=e2
      rw[upd_ne _ _ q2] at e3;exact absurd (h.busy.1 j _ e3).1 (Nat.lt_irrefl _)
    ·cases e'
   ·rw[upd_ne _ _ q] at e';obtain⟨b1,b2,b3⟩:=h.busy.1 k x e';refine⟨Nat.lt_succ_of_lt b1,b2,fun j e2=>?_⟩;have e3:(upd I.tag i (.busy I.next) j).at_ x:=e2;by_cases q2:j=i
    ·subst q2;rw[upd_same] at e3;rcases e3 with e3|e3
     ·injection e3 with e3;omega
     ·cases e3
    ·rw[upd_ne _ _ q2] at e3;exact b3 j e3
  ·exact h.hear k (hk.imp (fun e=>af e (by simp)) (fun e=>af e (by simp)))
  ·have hF:=h.fill q;refine⟨hF.bout,?_,fun k x e o ho=>?_,fun x hx o ho=>?_,fun o=>?_,hF.mixo,fun k x e=>hF.nog k x (af e (by simp))⟩
   ·obtain⟨cs,q1,q2⟩:=hF.out;exact⟨cs,by rw[heap_setChan _ _ _ _ _ _ _ _ (fun q=>by have:=hF.bout;rw[q,h.bjobs] at this;cases this)];exact q1,q2⟩
   ·have e':upd I.tag i (.busy I.next) k=.busy x:=e;by_cases q:k=i
    ·subst q;rw[upd_same] at e';injection e' with e';show (if p.kind=.fill/\p.out=p.out/\(32 * x+o) / 32=I.next then some k else _)=_;rw[if_pos ⟨by assumption,rfl,by omega⟩]
    ·rw[upd_ne _ _ q] at e';have hx:=(h.busy.1 k x (.inl e')).1;show (if p.kind=.fill/\p.out=p.out/\(32 * x+o) / 32=I.next then some i else _)=_;rw[if_neg (fun q=>by have:=q.2.2;omega)];exact hF.busy k x e' o ho
   ·have hx':I.next+1<=x:=hx
    show (if p.kind=.fill/\p.out=p.out/\(32 * x+o) / 32=I.next then some i else _)=_;rw[if_neg (fun q=>by have:=q.2.2;omega)];exact hF.mine x (by omega) o ho
   ·show (if p.kind=.fill/\p.out=p.out/\o / 32=I.next then some i else _)≠_;split
    ·simp
    ·exact hF.owm o
 ·have hC:=hI.coll c hc;have hm:=hI.mate p c hp hc;obtain⟨n1,n2,n3⟩:=hI.dn_ne hc hp;refine hC.retag hI.hs ((upd_ne _ _ (Ne.symm hi0)).trans hC.tag0) (by rw[<- hm.1,tf,hf]) rfl rfl hC.bdn (fun _ _ q=>q) rfl (fun k x e=>⟨af e (by simp),rfl,rfl,rfl,fun B _ _ q=>⟨q,heap_setChan _ _ _ _ _ _ _ _ fun r=>?_⟩⟩) (heap_setChan _ _ _ _ _ _ _ _ n2) fun b _ q=>heap_setChan _ _ _ _ _ _ _ _ fun r=>?_
  ·subst r;rw[h.bjobs] at q;cases q
  ·subst r;rw[h.bjobs] at q;cases q
 ·have q':I.ph=none:=q;rw[hp] at q';cases q'
theorem Anc (hI:Ae ty top I w) (hp:I.ph=some p) (hn:I.next < p.n) (hb:p.b<=i) (hi:i < I.cnt) (ht:I.tag i=.idle) (hj:j≠p.f) (dx:j≠i) (s:Nat):G5 j I w (I.pass p i) (w.setChan p.jobs 0 #[] false s s false):=by
 have h:=hI.core p hp;refine⟨upd_ne _ _ dx,rfl,⟨rfl,rfl⟩,fun _=>⟨Nat.le_refl _,fun _ _ _=>rfl,fun _ h1 h2=>⟨h1,h2⟩,fun b hb e=>heap_setChan _ _ _ _ _ _ _ _ fun q=>?_,rfl,fun _ h=>h.1,fun h _=>h,rfl,fun p' hp' e=>?_,fun _ _ e=>?_,fun _ _ _ _ e=>?_,fun _ _=>Nat.le_succ _,fun _ _ _=>Iff.rfl,fun _ _ h=>h,fun _=>if_neg dx,fun p' hp' hk=>by obtain rfl:=Ag hp hp'.1;exact Afo hI hp hn hb hi ht dx hk s⟩⟩
 ·subst q;rw[h.bjobs] at e;rcases e with e|⟨m,_,e⟩<;>cases e
 ·obtain rfl:=Ag hp hp'.1;exact absurd e.symm hj
 ·rw[hp] at e;cases e
 ·rw[hp] at e;cases e
theorem Aq6 (hI:Ae ty top I w) (hp:I.ph=some p) (hf:I.tag p.f=.feed) (hb:p.b<=i) (hi:i < I.cnt) (ht:I.tag i=.idle) {r s:Nat} {x1 x2 x3 x4:MemOp} (h1:x1.g=p.f/\x1.act=.send r s) (h2:x2.g=i/\x2.act=.recv r s 0) (h3:x3.g=p.f/\x3.act=.sendDone r s) (h4:x4.g=i/\x4.act=.recvDone r s) (hT:Iq I t) :
  Iq (I.pass p i) (t++#[x1,x2,x3,x4]):=by
 have h:=hI.core p hp;have hfc:p.f < I.cnt:=by have:=h.fd;omega
 have hmem:∀op∈#[x1,x2,x3,x4],op.act.touch?=none/\op.g < I.cnt/\(∀m,op.act≠.mark m):=by
  intro op hop;simp only[List.mem_toArray,List.mem_cons,List.not_mem_nil,or_false] at hop;rcases hop with rfl|rfl|rfl|rfl
  ·exact⟨by rw[h1.2];rfl,by rw[h1.1];exact hfc,fun m=>by rw[h1.2];simp⟩
  ·exact⟨by rw[h2.2];rfl,by rw[h2.1];exact hi,fun m=>by rw[h2.2];simp⟩
  ·exact⟨by rw[h3.2];rfl,by rw[h3.1];exact hfc,fun m=>by rw[h3.2];simp⟩
  ·exact⟨by rw[h4.2];rfl,by rw[h4.1];exact hi,fun m=>by rw[h4.2];simp⟩
 have hs:∀op∈#[x1,x2,x3,x4],op.act.touch?=none:=fun op hop=>(hmem op hop).1;have hkn:=(P0 h1 h2 h3 h4 (by rw[hT.deaf];exact h.hear _ (.inr hf)) (by rw[hT.deaf];exact h.hear _ (.inl ht))).1;have hD:Vh I.wh (t++#[x1,x2,x3,x4]) I.cnt:=hT.d.silent (Nat.le_refl _) fun op hop=>⟨(hmem op hop).1,(hmem op hop).2.1⟩;have hm:∀l,(I.pass p i).mixAt l=I.mixAt l\/(p.kind=.fill/\(I.pass p i).mixAt l=some i/\∃a:Addr,l=.cell a/\a.block=p.out/\a.off / 32=I.next):=fun l=>by
  cases l with
  | cell a =>
   simp only[Ab.mixAt,Ab.pass];by_cases q:p.kind=.fill/\a.block=p.out/\a.off / 32=I.next
   ·rw[if_pos q];exact .inr ⟨q.1,rfl,a,rfl,q.2.1,q.2.2⟩
   ·rw[if_neg q];exact .inl rfl
  | _=>exact .inl rfl
 have ar:∀k l,(I.pass p i).live k l->I.live k l:=fun k l hk=>⟨hk.1,fun e=>hk.2.1 (by
  show upd I.tag i _ k=_;rw[upd_ne _ _ (fun q=>by subst q;rw[ht] at e;cases e)];exact e),hk.2.2⟩
 have rq:∀l,(I.pass p i).wh.sh l->I.wh.sh l:=fun l hl=>by
  rcases hl with q|⟨q1,q2⟩|q
  ·exact .inl q
  ·rcases hm l with e|⟨_,e,_⟩
   ·exact .inr (.inl ⟨q1,e ▸ q2⟩)
   ·rw[e] at q2;cases q2
  ·exact .inr (.inr q)
 have br:∀l,I.wh.sh l->(I.pass p i).wh.sh l:=fun l hl=>by
  rcases hl with q|⟨q1,q2⟩|q
  ·exact .inl q
  ·rcases hm l with e|⟨hk,_,a,rfl,e1,e2⟩
   ·exact .inr (.inl ⟨q1,e.trans q2⟩)
   ·simp only[Ab.mixAt,e1] at q2;exact absurd q2 ((h.fill hk).owm _)
  ·exact .inr (.inr q)
 have old:∀ {m},(t++#[x1,x2,x3,x4]).counts m->m < t.size:=fun {m} hc=>by
  obtain⟨x,hx,_⟩:=hc;obtain⟨_,q,_⟩:=touch_of (Ah hs hx);exact lt_size_of_getElem? q
 refine⟨hD.anew (fun m op x hm hx hs=>.inl ⟨rq _ hs,rfl⟩) (fun l hs' hr=>?_) (fun l hs' hr k hk=>hD.ro l (fun q=>hs' (br l q)) hr k (ar k l hk)) fun m a ha hsl=>br _ hsl,fun k=>?_,hT.nrel.app fun op hop a=>(hmem op hop).2.2 _,fun m a ha=>hT.low m a (Ah hs ha),fun p' hp' k hk hk2 rx=>?_,fun m hc=>?_,fun c _ q=>?_,fun c _ q=>?_⟩
 ·by_cases su:I.bk (blk l)=.mix
  ·rcases hm l with e|⟨hk,e,a,rfl,e1,e2⟩
   ·have:(I.pass p i).wh.own l=I.wh.own l:=by simp only[Ab.wh];rw[show (I.pass p i).bk=I.bk from rfl,su,e]
    rw[this];exact(hD.own l (fun q=>hs' (br l q)) hr).mono fun k hk=>ar k l hk
   ·have e3:(I.pass p i).wh.own (.cell a)=some i:=by simp only[Ab.wh];rw[show (I.pass p i).bk=I.bk from rfl,su,e];rfl
    have e4:I.wh.own (.cell a)=some p.f:=by
     simp only[Ab.wh];rw[su];have:=(h.fill hk).mine I.next (Nat.le_refl _) (a.off % 32) (Nat.mod_lt _ (by omega))
     rw[show 32 * I.next+a.off % 32=a.off by omega] at this;simp only[Ab.mixAt,e1,this];rfl
    have:=hT.d.own (.cell a) (fun q=>hs' (br _ q)) hr;rw[e4] at this;rw[e3];exact Perm.pass (show Perm t p.f _ from this) hs hkn
  ·have:(I.pass p i).wh.own l=I.wh.own l:=by
    simp only[Ab.wh];rw[show (I.pass p i).bk=I.bk from rfl];split
    ·rfl
    ·rename_i q;exact absurd q su
    ·rfl
    ·rfl
   rw[this];exact(hD.own l (fun q=>hs' (br l q)) hr).mono fun k hk=>ar k l hk
 ·rw[Go.ConcN.Deaf_still t k _ fun op hop=>⟨(hmem op hop).2.2 _,(hmem op hop).2.2 _⟩];exact hT.deaf k
 ·obtain rfl:=Ag hp hp';have fk:(upd I.tag i (.busy I.next) k).said:=rx;exfalso;by_cases q:k=i
  ·subst q;rw[upd_same] at fk;exact fk
  ·rw[upd_ne _ _ q] at fk;have:=h.early (by rw[hf];rfl) k hk hk2;cases e:I.tag k<;>rw[e] at this fk<;>first|exact this|exact fk
 ·have hlt:=old hc;rcases hT.old m ((counts_old hlt).1 hc) with q|⟨lo,q1,k,q2,q3⟩
  ·exact .inl (q.app _)
  ·exact .inr ⟨lo,q1,k,q2,by rw[g?_old hlt];exact q3⟩
 ·have q':I.ph=none:=q;rw[hp] at q';cases q'
 ·have q':I.ph=none:=q;rw[hp] at q';cases q'
end
section
variable {ty:TypeId} {top:Nat} {I I':Ab} {p:Ph} {c:Ir} {w w':World} {i j k n x:Nat} {t u:Trace} {P:Program} {Post:Value->World->Prop} {es:Array Event} {tag:Nat->B6}
theorem Ff {b:Nat} (h:I.bk b≠.priv i) (hg:∀B,I.gb i=some B->I.bk B=.priv i):(I.taken i x).bk b=I.bk b:=by
 show (if I.gb i=some b then _ else _)=_;rw[if_neg fun q=>h (hg b q)]
theorem E9 {b:Nat} {y:BK} (h:(I.taken i x).bk b=y) (hy:y≠.priv 0):I.bk b=y:=by
 have h':(if I.gb i=some b then BK.priv 0 else I.bk b)=y:=h;split at h'
 ·exact absurd h'.symm hy
 ·exact h'
theorem Yl.own (h:Yl I w c i x):∀B,I.gb i=some B->B < I.hs/\I.bk B=.priv i:=fun B hB=>by
 obtain⟨_,ob,_,h2⟩:=h;rw[hB] at h2;exact⟨h2.1,h2.2.1⟩
theorem Rv (hI:Ae ty top I w) (hc:I.col=some c) (ht:I.tag i=.give x):∃p,I.ph=some p/\p.b<=i/\i < I.cnt/\i≠0/\x < c.n:=by
 have h0:i≠0:=fun e=>by subst e;rw[(hI.coll c hc).tag0] at ht;cases ht
 cases hp:I.ph with
 | none =>
  exfalso;have hL:=hI.lull c hc hp;by_cases e:i=c.f
  ·subst e;rcases hL.at_ with⟨q,_⟩|⟨q|q,_⟩<;>(rw[ht] at q;cases q)
  ·have:=hL.rest i h0 e;rw[ht] at this;cases this
 | some p =>
  have h:=hI.core p hp;have hm:=hI.mate p c hp hc;refine⟨p,rfl,Nat.le_of_not_lt fun hlt=>?_,Nat.lt_of_not_le fun q=>?_,h0,?_⟩
  ·by_cases e:i=p.f
   ·have:=h.ftag;rw[<- e,ht] at this;exact this
   ·have:=h.rest i e hlt h0;rw[ht] at this;cases this
  ·have:=hI.un i q;rw[ht] at this;cases this
  ·have:=(h.busy.1 i x (.inr ht)).1;have:=h.nle;have:=hm.2.2.1;omega
theorem Ae6 (hI:Ae ty top I w) (hc:I.col=some c) (ht:I.tag i=.give x) (s:Nat):Ae ty top (I.taken i x) (w.setChan c.dn 0 #[] false s s false):=by
 obtain⟨p,hp,hb,hi,hi0,ft⟩:=Rv hI hc ht;have h:=hI.core p hp;have hC:=hI.coll c hc;have hm:=hI.mate p c hp hc;have hG:=hC.give i x ht;have hown:=fun B hB=>(hG.own B hB).2;obtain⟨l1,l2,l3⟩:=h.lts hI.hs;obtain⟨n1,n2,n3⟩:=hI.dn_ne hc hp;have hsz:(w.setChan c.dn 0 #[] false s s false).heap.size=w.heap.size:=by simp[World.setChan]
 have hfi:p.f≠i:=by have:=h.fd;omega
 have af:∀ {k:Nat} {y:B6},upd I.tag i .idle k=y->y≠.idle->I.tag k=y/\k≠i:=fun {k y} e hx=>by
  by_cases q:k=i
  ·subst q;rw[upd_same] at e;exact absurd e.symm hx
  ·exact⟨by rwa [upd_ne _ _ q] at e,q⟩
 have hat:∀ {k z:Nat},(upd I.tag i .idle k).at_ z->(I.tag k).at_ z/\k≠i:=fun {k z} e=>by
  rcases e with e|e
  ·exact⟨.inl (af e (by simp)).1,(af e (by simp)).2⟩
  ·exact⟨.inr (af e (by simp)).1,(af e (by simp)).2⟩
 have tf:(I.taken i x).tag p.f=I.tag p.f:=upd_ne _ _ hfi;have hv:Et (upd I.tag i .idle) p=Et I.tag p:=by
  have:=Gq (tag:=I.tag) .idle hb (by have:=h.cntW;omega);rw[ht] at this;simp only[B6.cw] at this;omega
 have hnf:∀ {b m},I.bk b=.fix m->b≠c.dn:=fun {b m} e q=>by rw[q,hC.bdn] at e;cases e
 refine⟨by rw[hsz];exact hI.hs,hI.cnt,?_,fun k hk=>?_,fun q=>?_,fun p' hp'=>?_,fun c' hc'=>?_,fun c _ q=>?_,hI.mate,hI.alone,hI.top⟩
 ·show upd I.tag i _ 0≠_;rw[upd_ne _ _ (Ne.symm hi0)];exact hI.main
 ·show upd I.tag i _ k=_;rw[upd_ne _ _ (by have:I.cnt<=k:=hk;omega)];exact hI.un k hk
 ·have q':I.ph=none:=q;rw[hp] at q';cases q'
 ·obtain rfl:=Ag hp hp';refine⟨(Ff (by rw[h.bwg];simp) hown).trans h.bwg,(Ff (by rw[h.bjobs];simp) hown).trans h.bjobs,(Ff (by rw[h.bstop];simp) hown).trans h.bstop,h.ne,fun b m hb e=>?_,fun b m hb e=>h.fixm b m hb (E9 e (by simp)),h.fd,by rw[tf];exact h.ftag,?_,(fun j q e=>by rw[tf] at e;exact h.add j q e),fun k h1 h2 h3=>?_,fun k hk=>?_,fun hcl k h1 h2=>?_,?_,?_,?_,h.stpk,fun z hz=>?_,h.nle,by rw[tf];exact h.full,⟨fun k z e=>⟨(h.busy.1 k z (hat e).1).1,fun r=>r.elim (h.busy.1 k z (hat e).1).2.1 fun r=>(hat e).2 (by subst r;exact(h.busy.1 i z (.inr ht)).2.2 k (hat e).1),fun j e2=>(h.busy.1 k z (hat e).1).2.2 j (hat e2).1⟩,fun z hz=>hz.elim (h.busy.2 z) fun q=>by rw[q];exact(h.busy.1 i x (.inr ht)).1⟩,fun k hk=>?_,h.small,h.pos,fun q=>?_,(fun q=>by rw[hm.2.1] at q;cases q),fun q b hb e=>h.nomix q b hb (E9 e (by simp))⟩
  ·have e':=E9 e (by simp);rw[heap_setChan _ _ _ _ _ _ _ _ (hnf e')];exact h.fix b m hb e'
  ·show I.cnt=p.b+(I.taken i x).started p;have:=h.cnt;unfold Ab.started at this ⊢;rw[tf];exact this
  ·show upd I.tag i _ k=_;rw[upd_ne _ _ (by omega)];exact h.rest k h1 h2 h3
  ·show (upd I.tag i _ k).works;by_cases q:k=i
   ·subst q;rw[upd_same];trivial
   ·rw[upd_ne _ _ q];exact h.wtag k hk
  ·rw[tf] at hcl;show (upd I.tag i _ k).early;by_cases q:k=i
   ·subst q;rw[upd_same];trivial
   ·rw[upd_ne _ _ q];exact h.early hcl k h1 h2
  ·obtain⟨st,sm,q1,q2⟩:=h.wgm;refine⟨st,sm,q1.of_block (heap_setChan _ _ _ _ _ _ _ _ (Ne.symm n1)),?_⟩;have hlast:(∀k,p.b<=k->¬(I.tag k).lasts)->∀k,p.b<=k->¬(upd I.tag i .idle k).lasts:=fun hnl k hk=>by
    by_cases q:k=i
    ·subst q;rw[upd_same];exact id
    ·rw[upd_ne _ _ q];exact hnl k hk
   cases q2 with
   | opn q3 q4 =>
    have hm:=Dl.opn (tag:=upd I.tag i .idle) (p:=p) (by rw[upd_ne _ _ hfi];exact q3) (hlast q4);rw[upd_ne _ _ hfi,hv] at hm;exact hm
   | reg q3 q4 q5 =>
    have hm:=Dl.reg (tag:=upd I.tag i .idle) (p:=p) (by rw[upd_ne _ _ hfi];exact q3) (hlast q4) (by rw[hv];exact q5);rw[hv] at hm;exact hm
   | last L k q3 q4 q5 q6 =>
    exfalso;by_cases e:i=L
    ·subst e;rw[ht] at q5;cases q5
    ·have:=q6 i hb e;rw[ht] at this;cases this
   | sema q3 q4=>have:=q4 i hb;rw[ht] at this;cases this
   | fin q3 q4=>have:=q4 i hb;rw[ht] at this;cases this
  ·obtain⟨s',q⟩:=h.jobs;exact⟨s',by rw[tf,heap_setChan _ _ _ _ _ _ _ _ (Ne.symm n2)];exact q⟩
  ·rw[heap_setChan _ _ _ _ _ _ _ _ (Ne.symm n3)];exact h.stop
  ·by_cases e:z=x
   ·exact .inl (.inr e)
   ·rcases h.job z hz with q|⟨m,q1,q2⟩
    ·exact .inl (.inl q)
    ·refine .inr ⟨m,q1,?_⟩;show (upd I.tag i _ m).at_ z;rw[upd_ne _ _ (fun q=>by
      subst q;rw[ht] at q2;rcases q2 with q2|q2
      ·cases q2
      ·injection q2 with q2;exact e q2.symm)]
     exact q2
  ·by_cases q:k=i
   ·subst q;exact hG.deaf
   ·refine h.hear k (hk.imp (fun e=>?_) fun e=>?_)<;>(have e':upd I.tag i .idle k=_:=e;rwa [upd_ne _ _ q] at e')
  ·rw[hm.2.1] at q;cases q
 ·obtain rfl:=Cv hc hc';have hfe:(I.tag c.f).ended=false:=by
   have:=h.ftag;rw[hm.1] at this;cases e:I.tag c.f<;>rw[e] at this<;>first|rfl|exact this.elim
  refine⟨(upd_ne _ _ (Ne.symm hi0)).trans hC.tag0,hC.f,(Ff (by rw[hC.bdn];simp) hown).trans hC.bdn,⟨s,?_⟩,fun b hb e=>?_,hC.deaf,fun k z e=>?_⟩
  ·rw[Dj _ _ _ _ _ _ _ _ (by rw[<- hI.hs];exact hC.lt hI.hs),<- hm.1,tf,hm.1,hfe]
  ·have e':=E9 e (by simp);rw[heap_setChan _ _ _ _ _ _ _ _ (hnf e')];exact hC.fix b hb e'
  ·obtain⟨e',sw⟩:=af e (by simp);obtain⟨q1,ob,q2,q3⟩:=hC.give k z e';refine⟨q1,ob,q2,?_⟩;show match I.gb k with|none=>_|some B=>_
   cases hB:I.gb k with
   | none=>rw[hB] at q3;exact q3
   | some B =>
    rw[hB] at q3;obtain⟨r1,r2,o,r3,r4⟩:=q3;refine⟨r1,(Ff (by rw[r2];intro q;injection q with q;exact sw q) hown).trans r2,o,?_,r4⟩;rw[heap_setChan _ _ _ _ _ _ _ _ (fun q=>by rw[q,hC.bdn] at r2;cases r2)];exact r3
 ·have q':I.ph=none:=q;rw[hp] at q';cases q'
theorem Aiu (hI:Ae ty top I w) (hc:I.col=some c) (ht:I.tag i=.give x) (hj:j≠0) (dx:j≠i) (s:Nat):G5 j I w (I.taken i x) (w.setChan c.dn 0 #[] false s s false):=by
 obtain⟨p,hp,hb,hi,hi0,ft⟩:=Rv hI hc ht;have h:=hI.core p hp;have hC:=hI.coll c hc;have hown:=fun B hB=>((hC.give i x ht).own B hB).2;refine⟨upd_ne _ _ dx,rfl,⟨rfl,rfl⟩,fun _=>⟨Nat.le_refl _,fun b hb hk=>Ff (hk i (Ne.symm dx)) hown,fun b h1 h2=>⟨h1,E9 h2 (by intro q;injection q with q;exact hj q)⟩,fun b hb e=>heap_setChan _ _ _ _ _ _ _ _ fun q=>?_,rfl,fun _ h=>h.1,fun h _=>h,rfl,fun p' hp' e=>⟨rfl,?_⟩,fun e=>absurd e hj,fun _ _ _ _ e=>?_,fun _ _=>Nat.le_refl _,fun e=>absurd e hj,fun _ _ h=>h,fun _=>rfl,fun p' hp' hk=>by obtain rfl:=Ag hp hp'.1;rw[(hI.mate p c hp hc).2.1] at hk;cases hk⟩⟩
 ·subst q;rw[hC.bdn] at e;rcases e with e|⟨m,_,e⟩<;>cases e
 ·obtain rfl:=Ag hp hp'.1;have:=Gq (tag:=I.tag) .idle hb (by have:=h.cntW;omega);rw[ht] at this;simp only[B6.cw] at this;show Et (upd I.tag i .idle) p<=Et I.tag p;omega
 ·rw[hp] at e;cases e
theorem Ame (hI:Ae ty top I w) (hc:I.col=some c) (ht:I.tag i=.give x) {r s:Nat} {x1 x2 x3 x4:MemOp} (h1:x1.g=i/\x1.act=.send r s) (h2:x2.g=0/\x2.act=.recv r s 0) (h3:x3.g=i/\x3.act=.sendDone r s) (h4:x4.g=0/\x4.act=.recvDone r s) (hT:Iq I t) :
  Iq (I.taken i x) (t++#[x1,x2,x3,x4]):=by
 obtain⟨p,hp,hb,hi,hi0,ft⟩:=Rv hI hc ht;have h:=hI.core p hp;have hC:=hI.coll c hc;have hG:=hC.give i x ht;have hown:=fun B hB=>(hG.own B hB).2;have hmem:∀op∈#[x1,x2,x3,x4],op.act.touch?=none/\op.g < I.cnt/\(∀m,op.act≠.mark m):=by
  intro op hop;simp only[List.mem_toArray,List.mem_cons,List.not_mem_nil,or_false] at hop;rcases hop with rfl|rfl|rfl|rfl
  ·exact⟨by rw[h1.2];rfl,by rw[h1.1];exact hi,fun m=>by rw[h1.2];simp⟩
  ·exact⟨by rw[h2.2];rfl,by rw[h2.1];exact hI.cnt,fun m=>by rw[h2.2];simp⟩
  ·exact⟨by rw[h3.2];rfl,by rw[h3.1];exact hi,fun m=>by rw[h3.2];simp⟩
  ·exact⟨by rw[h4.2];rfl,by rw[h4.1];exact hI.cnt,fun m=>by rw[h4.2];simp⟩
 have hs:∀op∈#[x1,x2,x3,x4],op.act.touch?=none:=fun op hop=>(hmem op hop).1;have hkn:=(P0 h1 h2 h3 h4 (by rw[hT.deaf];exact hG.deaf) (by rw[hT.deaf];exact hC.deaf)).1;have hD:Vh I.wh (t++#[x1,x2,x3,x4]) I.cnt:=hT.d.silent (Nat.le_refl _) fun op hop=>⟨(hmem op hop).1,(hmem op hop).2.1⟩;have bz:∀ {b s},(I.taken i x).bk b=.shd s↔I.bk b=.shd s:=fun {b s}=>⟨fun e=>E9 e (by simp),fun e=>(Ff (by rw[e];simp) hown).trans e⟩;have hmx:∀ {b},(I.taken i x).bk b=.mix↔I.bk b=.mix:=fun {b}=>⟨fun e=>E9 e (by simp),fun e=>(Ff (by rw[e];simp) hown).trans e⟩;have hlo:∀ {b},(I.taken i x).bk b=.lock↔I.bk b=.lock:=fun {b}=>⟨fun e=>E9 e (by simp),fun e=>(Ff (by rw[e];simp) hown).trans e⟩;have jz:∀ {b m},(I.taken i x).bk b=.fix m↔I.bk b=.fix m:=fun {b m}=>⟨fun e=>E9 e (by simp),fun e=>(Ff (by rw[e];simp) hown).trans e⟩;have hma:∀l,(I.taken i x).mixAt l=I.mixAt l:=fun l=>Re (I':=I.taken i x) rfl l;have hsh:∀l,(I.taken i x).wh.sh l↔I.wh.sh l:=fun l=>by simp only[Ab.wh,bz,hmx,hma,hlo]
 have hro:∀l,(I.taken i x).wh.ro l↔I.wh.ro l:=fun l=>by simp only[Ab.wh,jz]
 have ar:∀k l,(I.taken i x).live k l->I.live k l:=fun k l hk=>⟨hk.1,fun e=>hk.2.1 (by
  show upd I.tag i _ k=_;rw[upd_ne _ _ (fun q=>by subst q;rw[ht] at e;cases e)];exact e),fun m e=>hk.2.2 m (jz.2 e)⟩
 have old:∀ {m},(t++#[x1,x2,x3,x4]).counts m->m < t.size:=fun {m} hc=>by
  obtain⟨x,hx,_⟩:=hc;obtain⟨_,q,_⟩:=touch_of (Ah hs hx);exact lt_size_of_getElem? q
 refine⟨hD.anew (fun m op z hm hz hs=>.inl ⟨(hsh _).1 hs,?_⟩) (fun l hs' hr=>?_) (fun l hs' hr k hk=>hD.ro l (fun q=>hs' ((hsh l).2 q)) ((hro l).1 hr) k (ar k l hk)) fun m a ha hsl=>(hsh _).2 hsl,fun k=>?_,hT.nrel.app fun op hop a=>(hmem op hop).2.2 _,fun m a ha=>hT.low m a (Ah hs ha),fun p' hp' k hk hk2 rx=>?_,fun m hc=>?_,fun c _ q=>?_,fun c _ q=>?_⟩
 ·simp only[Ab.wh];rcases hs with⟨s,e⟩|⟨e,_⟩|⟨e,_⟩
  ·rw[e,bz.1 e]
  ·rw[e,hmx.1 e]
  ·rw[e,hlo.1 e]
 ·by_cases hB:I.gb i=some (blk l)
  ·have e1:(I.taken i x).wh.own l=some 0:=by
    have:(I.taken i x).bk (blk l)=.priv 0:=by show (if I.gb i=some (blk l) then _ else _)=_;rw[if_pos hB]
    simp only[Ab.wh,this]
   have e2:I.wh.own l=some i:=by simp only[Ab.wh,hown _ hB]
   have:=hT.d.own l (fun q=>hs' ((hsh l).2 q)) fun q=>hr ((hro l).2 q);rw[e2] at this;rw[e1];exact Perm.pass (show Perm t i l from this) hs hkn
  ·have e1:(I.taken i x).bk (blk l)=I.bk (blk l):=by show (if I.gb i=some (blk l) then _ else _)=_;rw[if_neg hB]
   have:(I.taken i x).wh.own l=I.wh.own l:=by
    simp only[Ab.wh,e1,hma];rfl
   rw[this];exact(hD.own l (fun q=>hs' ((hsh l).2 q)) fun q=>hr ((hro l).2 q)).mono fun k hk=>ar k l hk
 ·rw[Go.ConcN.Deaf_still t k _ fun op hop=>⟨(hmem op hop).2.2 _,(hmem op hop).2.2 _⟩];exact hT.deaf k
 ·obtain rfl:=Ag hp hp';have fk:(upd I.tag i .idle k).said:=rx;by_cases q:k=i
  ·subst q;rw[upd_same] at fk;exact fk.elim
  ·rw[upd_ne _ _ q] at fk;obtain⟨rr,hr⟩:=hT.rel p hp k hk hk2 fk;refine⟨rr,hr.app fun m hm hgm hc=>?_⟩;have:=old hc;omega
 ·have hlt:=old hc;rcases hT.old m ((counts_old hlt).1 hc) with q|⟨lo,q1,k,q2,q3⟩
  ·exact .inl (q.app _)
  ·exact .inr ⟨lo,q1,k,q2,by rw[g?_old hlt];exact q3⟩
 ·have q':I.ph=none:=q;rw[hp] at q';cases q'
 ·have q':I.ph=none:=q;rw[hp] at q';cases q'
theorem Kz {b s:Nat}:I.home.bk b=.shd s↔I.bk b=.shd s:=by
 simp only[Ab.home];cases q:I.bk b<;>simp
theorem Ib {b:Nat}:I.home.bk b=.lock↔I.bk b=.lock:=by
 simp only[Ab.home];cases q:I.bk b<;>simp
theorem W7 {b:Nat} (h:∀s,I.bk b≠.shd s) (h2:I.bk b≠.lock):I.home.bk b=.priv 0:=by
 simp only[Ab.home]
theorem Zz (hI:Ae ty top I w) (hc:I.col=some c) (hf:I.tag c.f=.gone):Ae ty top I.home w/\(∀x,x < c.n->I.done x)/\I.ph=none:=by
 have hC:=hI.coll c hc;have hp:I.ph=none:=by
  cases hp:I.ph with
  | none=>rfl
  | some p =>
   have h1:=(hI.core p hp).ftag;rw[(hI.mate p c hp hc).1,hf] at h1;exact h1.elim
 have hL:=hI.lull c hc hp;have tz:I.home.tag 0=.solo:=by show upd I.tag 0 B6.solo 0=_;exact upd_same _ _ _
 have tn0:∀k,k≠0->I.tag k=.gone:=fun k hk=>by
  by_cases e:k=c.f
  ·rw[e];exact hf
  ·exact hL.rest k hk e
 have tn:∀k,k≠0->I.home.tag k=.gone:=fun k hk=>by show upd I.tag 0 B6.solo k=_;rw[upd_ne _ _ hk];exact tn0 k hk
 refine⟨⟨hI.hs,hI.cnt,by rw[tz];simp,fun k hk=>tn k (by have:=hI.cnt;have hk':I.cnt<=k:=hk;omega),fun _ _=>⟨tz,tn,fun b hb=>?_,fun _=>rfl⟩,fun p' hp'=>?_,(fun c' hc'=>by cases hc'),(fun c' hc'=>by cases hc'),(fun p' c' _ hc'=>by cases hc'),fun p' hp'=>?_,⟨hI.top.1,fun c' hc'=>by cases hc'⟩⟩,?_,hp⟩
 ·cases q:I.bk b with
  | shd s=>exact .inl ⟨s,Kz.2 q⟩
  | lock=>exact .inr (.inr (Ib.2 q))
  | _=>exact .inr (.inl (W7 (by rw[q];simp) (by rw[q];simp)))
 ·have iw:I.ph=some p':=hp';rw[hp] at iw;cases iw
 ·have iw:I.ph=some p':=hp';rw[hp] at iw;cases iw
 ·rcases hL.at_ with⟨q,_⟩|⟨_,q⟩
  ·rw[hf] at q;cases q
  ·exact q
theorem Arz (hI:Ae ty top I w) (hc:I.col=some c) (hf:I.tag c.f=.gone) {y:MemOp} (hy:y.g=0/\y.act=.recvClosed c.dn) (hT:Iq I t):Iq I.home (t++#[y]):=by
 obtain⟨hI',_,hp⟩:=Zz hI hc hf;have hC:=hI.coll c hc;have hL:=hI.lull c hc hp;obtain⟨q,q1,q2,q3⟩:=hT.shut c hc hp hf;have hmem:∀op∈#[y],op.act.touch?=none/\op.g < I.cnt/\(∀m,op.act≠.mark m):=fun op hop=>by
  rw[show op=y by simpa using hop,hy.2];exact⟨rfl,by rw[hy.1];exact hI.cnt,fun m=>by simp⟩
 have hs:∀op∈#[y],op.act.touch?=none:=fun op hop=>(hmem op hop).1;have hD:Vh I.wh (t++#[y]) I.cnt:=hT.d.silent (Nat.le_refl _) fun op hop=>⟨(hmem op hop).1,(hmem op hop).2.1⟩;have hq:q < t.size:=lt_of_act? q1;have py:(t++#[y])[t.size]?=some y:=by rw[Array.getElem?_append_right (Nat.le_refl _)];simp
 have heary:(t++#[y]).heard t.size:=⟨0,by simp[Trace.g?,hy.1],by rw[deaf_old (Nat.le_refl _)];exact(hT.deaf 0).trans hC.deaf⟩;have all:∀m,t.counts m->Knows (t++#[y]) 0 m:=fun m hm=>by
  rcases q3 m hm with r|r
  ·exact r.app _
  ·refine⟨t.size,y,py,hy.1,.inr ((r.app _).hb (.single (.inr ⟨.closed (c:=c.dn) (by rw[act?_old hq];exact q1) (by rw[act?_of py,hy.2]),(heard_old hq).2 q2,heary⟩)))⟩
 have hsh:∀l,I.home.wh.sh l->I.wh.sh l:=fun l h=>by
  rcases h with⟨s,e⟩|⟨e,_⟩|⟨e,e2⟩
  ·exact .inl ⟨s,Kz.1 e⟩
  ·exfalso;have e':(match I.bk (blk l) with | .shd s=>BK.shd s | .lock=>.lock|_=>.priv 0)=.mix:=e;cases q:I.bk (blk l)<;>rw[q] at e'<;>cases e'
  ·exact .inr (.inr ⟨Ib.1 e,e2⟩)
 have nk:∀m a,touchAt t m=some a->I.wh.sh a.loc->I.home.wh.sh a.loc:=fun m a ha h'=>by
  rcases h' with⟨s,e⟩|⟨e,e2⟩|⟨e,e2⟩
  ·exact .inl ⟨s,Kz.2 e⟩
  ·exact absurd e (hL.nomix _ (hT.low m a ha))
  ·exact .inr (.inr ⟨Ib.2 e,e2⟩)
 have hperm:∀l,¬I.home.wh.sh l->Perm (t++#[y]) 0 l:=fun l hns m a ha e=>by
  have ha':=Ah hs ha;subst e;exact all m (hT.d.counts ha' fun q=>hns (nk m a ha' q))
 refine⟨hD.anew (fun m op z hm hz hs'=>.inl ⟨hsh _ hs',?_⟩) (fun l hs' hr=>?_) (fun l hs' hr=>?_) fun m a ha hs'=>nk m a (Ah hs ha) hs',fun k=>?_,hT.nrel.app fun op hop a=>(hmem op hop).2.2 _,fun m a ha=>hT.low m a (Ah hs ha),(fun p' hp'=>by have iw:I.ph=some p':=hp';rw[hp] at iw;cases iw),fun m hc=>?_,(fun c' hc'=>by cases hc'),fun c' hc'=>by cases hc'⟩
 ·rcases hs' with⟨s,e⟩|⟨e,_⟩|⟨e,_⟩
  ·simp only[Ab.wh];rw[e,Kz.1 e]
  ·exfalso;have e':(match I.bk (blk z.loc) with | .shd s=>BK.shd s | .lock=>.lock|_=>.priv 0)=.mix:=e;cases q:I.bk (blk z.loc)<;>rw[q] at e'<;>cases e'
  ·simp only[Ab.wh];rw[e,Ib.1 e]
 ·have:I.home.wh.own l=some 0:=by
   by_cases hlk:I.bk (blk l)=.lock
   ·simp only[Ab.wh,Ib.2 hlk];rfl
   ·have hb:=W7 (I:=I) (b:=blk l) (fun s e=>hs' (.inl ⟨s,Kz.2 e⟩)) hlk;simp only[Ab.wh,hb]
  rw[this];exact hperm l hs'
 ·exfalso;obtain⟨m,e⟩:=hr;have e':(match I.bk (blk l) with | .shd s=>BK.shd s | .lock=>.lock|_=>.priv 0)=.fix m:=e;cases q:I.bk (blk l)<;>rw[q] at e'<;>cases e'
 ·rw[Go.ConcN.Deaf_still t k _ fun op hop=>⟨(hmem op hop).2.2 _,(hmem op hop).2.2 _⟩];exact hT.deaf k
 ·have hlt:m < t.size:=by
   obtain⟨z,hz,_⟩:=hc;obtain⟨_,q,_⟩:=touch_of (Ah hs hz);exact lt_size_of_getElem? q
  exact .inl (all m ((counts_old hlt).1 hc))
end
section
variable {ty:TypeId} {top:Nat} {I I':Ab} {p:Ph} {c:Ir} {w w':World} {i j k n:Nat} {t u:Trace} {P:Program} {Post:Value->World->Prop} {es:Array Event} {tag:Nat->B6}
theorem Co.retag {x:B6} (h:Co I p w) (hx:∀y,x≠.give y) (hi:∀y,I.tag i≠.busy y) (h1:w'.heap[p.out]?=w.heap[p.out]?) (h2:w'.heap[p.once]?=w.heap[p.once]?):Co (I.setTag i x) p w' :=
 h.keep rfl rfl rfl rfl rfl rfl (fun k y e=>(upd_ne _ _ fun r=>by subst r;exact hi y e).trans e) (fun k y e=>by
  have e':upd I.tag i x k=.give y:=e;by_cases q:k=i
  ·rw[q,upd_same] at e';exact absurd e' (hx y)
  ·rwa [upd_ne _ _ q] at e') h1 h2
theorem E5.phase (h:E5 ty i I w):∃p,I.ph=some p:=by
 cases h with
 | wg p _ q=>exact⟨p,q⟩
 | que p _ q=>exact⟨p,q⟩
theorem Wa (hI:Ae ty top I w) (hp:I.ph=some p) (hb:p.b<=i) (hi:i < I.cnt) {x:B6} (hx:x.works) (hl:¬x.lasts) (hcw:(I.tag i).cw=1/\x.cw=1) (hcl:(I.tag p.f).closed=true\/x.early) (hid:x≠.idle/\x≠.feed) (hbz:∀n,¬x.at_ n) (qd:∀n,¬(I.tag i).at_ n) (ja:I.tag i≠.gone):Ae ty top (I.setTag i x) w:=by
 have h:=hI.core p hp;have hfi:p.f≠i:=by have:=h.fd;omega
 have hi0:i≠0:=by have:=h.fd;omega
 have hnl:¬(I.tag i).lasts:=fun q=>by cases e:I.tag i<;>rw[e] at q hcw<;>first|exact q | (have:=hcw.1;simp[B6.cw] at this)
 have tf:(I.setTag i x).tag p.f=I.tag p.f:=upd_ne _ _ hfi;refine⟨hI.hs,hI.cnt,?_,fun k hk=>?_,fun q=>?_,fun p' hp'=>?_,fun c hc=>?_,fun c _ q=>?_,hI.mate,hI.alone,hI.top⟩
 ·show upd I.tag i _ 0≠_;rw[upd_ne _ _ (Ne.symm hi0)];exact hI.main
 ·show upd I.tag i _ k=_;rw[upd_ne _ _ (by have:I.cnt<=k:=hk;omega)];exact hI.un k hk
 ·have q':I.ph=none:=q;rw[hp] at q';cases q'
 ·obtain rfl:=Ag hp hp';have hv:Et (upd I.tag i x) p=Et I.tag p:=by
   have:=Gq (tag:=I.tag) x hb (by have:=h.cntW;omega);omega
  refine⟨h.bwg,h.bjobs,h.bstop,h.ne,h.fix,h.fixm,h.fd,by rw[tf];exact h.ftag,?_,fun j q e=>by rw[tf] at e;exact h.add j q e,fun k h1 h2 h3=>?_,fun k hk=>?_,fun hc k h1 h2=>?_,?_,by rw[tf];exact h.jobs,h.stop,h.stpk,fun y hy=>?_,h.nle,by rw[tf];exact h.full,h.busy.of (fun k y e=>?_) rfl fun _=>Iff.rfl,fun k hk=>?_,h.small,h.pos,fun q=>?_,fun q=>(h.seek q).retag (fun y e=>hbz y (.inr e)) (fun y e=>qd y (.inl e)) rfl rfl,h.nomix⟩
  ·show I.cnt=p.b+(I.setTag i x).started p;have:=h.cnt;unfold Ab.started at this ⊢;rw[tf];exact this
  ·show upd I.tag i _ k=_;rw[upd_ne _ _ (by omega)];exact h.rest k h1 h2 h3
  ·show (upd I.tag i _ k).works;by_cases q:k=i
   ·subst q;rw[upd_same];exact hx
   ·rw[upd_ne _ _ q];exact h.wtag k hk
  ·rw[tf] at hc;show (upd I.tag i _ k).early;by_cases q:k=i
   ·subst q;rw[upd_same];exact hcl.resolve_left (by rw[hc];simp)
   ·rw[upd_ne _ _ q];exact h.early hc k h1 h2
  ·obtain⟨st,sm,q1,q2⟩:=h.wgm;refine⟨st,sm,q1,?_⟩;have hlast:∀k,p.b<=k->¬(I.tag k).lasts->¬(upd I.tag i x k).lasts:=fun k _ hk=>by
    by_cases q:k=i
    ·subst q;rw[upd_same];exact hl
    ·rw[upd_ne _ _ q];exact hk
   cases q2 with
   | opn q3 q4 =>
    rw[<- hv,show (I.tag p.f).pend=((I.setTag i x).tag p.f).pend by rw[tf]];exact .opn (by rw[tf];exact q3) fun k hk=>hlast k hk (q4 k hk)
   | reg q3 q4 q5 =>
    rw[<- hv];exact .reg (by rw[tf];exact q3) (fun k hk=>hlast k hk (q4 k hk)) (by show 1<=Et (upd I.tag i x) p;rw[hv];exact q5)
   | last L k q3 q4 q5 q6 =>
    exfalso;by_cases e:i=L
    ·subst e;rw[q5] at hnl;exact hnl trivial
    ·exact ja (q6 i hb e)
   | sema q3 q4=>exact absurd (q4 i hb) ja
   | fin q3 q4=>exact absurd (q4 i hb) ja
  ·rcases h.job y hy with q|⟨m,q1,q2⟩
   ·exact .inl q
   ·refine .inr ⟨m,q1,?_⟩;show (upd I.tag i _ m).at_ y;rw[upd_ne _ _ (fun q=>by subst q;exact qd y q2)];exact q2
  ·have e':(upd I.tag i x k).at_ y:=e;by_cases q:k=i
   ·subst q;rw[upd_same] at e';exact absurd e' (hbz y)
   ·rw[upd_ne _ _ q] at e';exact e'
  ·refine h.hear k (hk.imp (fun e=>?_) fun e=>?_) <;>
    (have e':upd I.tag i x k=_:=e
     by_cases q:k=i
     ·subst q;rw[upd_same] at e';first|exact absurd e' hid.1|exact absurd e' hid.2
     ·rwa [upd_ne _ _ q] at e')
  ·have hF:=h.fill q;refine⟨hF.bout,hF.out,fun k y e=>?_,hF.mine,hF.owm,hF.mixo,fun k y e=>?_⟩
   ·have e':upd I.tag i x k=.busy y:=e;by_cases q:k=i
    ·subst q;rw[upd_same] at e';exact absurd (.inl e') (hbz y)
    ·rw[upd_ne _ _ q] at e';exact hF.busy k y e'
   ·have e':upd I.tag i x k=.give y:=e;by_cases q:k=i
    ·subst q;rw[upd_same] at e';exact absurd (.inr e') (hbz y)
    ·rw[upd_ne _ _ q] at e';exact hF.nog k y e'
 ·have hm:=hI.mate p c hp hc;refine(hI.coll c hc).retag hI.hs ((upd_ne _ _ (Ne.symm hi0)).trans (hI.coll c hc).tag0) (by rw[<- hm.1,tf]) rfl rfl (hI.coll c hc).bdn (fun _ _ q=>q) rfl (fun k y e=>?_) rfl fun _ _ _=>rfl;have e':upd I.tag i x k=.give y:=e;by_cases q:k=i
  ·subst q;rw[upd_same] at e';exact absurd (.inr e') (hbz y)
  ·rw[upd_ne _ _ q] at e';exact⟨e',rfl,rfl,rfl,fun _ _ _ q=>⟨q,rfl⟩⟩
 ·have q':I.ph=none:=q;rw[hp] at q';cases q'
theorem Ai8 {x:B6} (dx:j≠i) (hp:I.ph≠none) (hv:∀p,I.ph=some p->Et (upd I.tag i x) p<=Et I.tag p):G5 j I w (I.setTag i x) w :=
 ⟨upd_ne _ _ dx,rfl,⟨rfl,rfl⟩,fun _=>⟨Nat.le_refl _,fun _ _ _=>rfl,fun _ h1 h2=>⟨h1,h2⟩,fun _ _ _=>rfl,rfl,fun _ h=>h.1,fun h _=>h,rfl,fun p hp _=>⟨rfl,hv p hp.1⟩,fun _ _ e=>absurd e hp,fun _ _ _ _ e=>absurd e hp,fun _ _=>Nat.le_refl _,fun _ _ _=>Iff.rfl,fun _ _ h=>h,fun _=>rfl,fun _ _ _=>.of (c1:=rfl) rfl fun _=>rfl⟩⟩
theorem Iq.retag {x:B6} (h:Iq I t) (hp:I.ph≠none) (hl:∀k l,(I.setTag i x).live k l->I.live k l) (hr:∀p,I.ph=some p->p.b<=i->i < I.cnt->x.said->∃r,RelBy (stA p.wg) t i r):Iq (I.setTag i x) t:=by
 refine⟨h.d.low h.low (fun _ _=>rfl) rfl rfl fun k l _=>hl k l,h.deaf,h.nrel,h.low,fun p hp k hk hk2 hs=>?_,h.old,fun _ _ q=>absurd q hp,fun _ _ q=>absurd q hp⟩;have hs':(upd I.tag i x k).said:=hs;by_cases q:k=i
 ·subst q;rw[upd_same] at hs';exact hr p hp hk hk2 hs'
 ·rw[upd_ne _ _ q] at hs';exact h.rel p hp k hk hk2 hs'
theorem So {y:MemOp} {op:MemOp} (h:op∈#[y]):op=y:=by simpa using h
theorem Di {k:Nat} {x y:CommCase} (h:(#[x]:Array CommCase)[k]?=some y):k=0/\y=x:=by
 cases k with
 | zero=>exact⟨rfl,by simpa using h.symm⟩
 | succ k=>simp at h
theorem Vz {k:Nat} {x x' y:CommCase} (h:(#[x,x']:Array CommCase)[k]?=some y):(k=0/\y=x)\/(k=1/\y=x'):=by
 match k,h with
 | 0,h=>exact .inl ⟨rfl,by simpa using h.symm⟩
 | 1,h=>exact .inr ⟨rfl,by simpa using h.symm⟩
 | k+2,h=>simp at h
theorem Abl (hI:Ae ty top I w) (hi:i < I.cnt) {x:MemOp} {r:Nat} (hx:x.g=i/\x.act=.recvClosed r) (hT:Iq I t):Iq I (t++#[x]) :=
 hT.hush (i:=i) (fun op hop=>by rw[So hop];exact⟨hx.1,by rw[hx.2];rfl,by rw[hx.2];simp⟩) hi (by
  rw[Go.ConcN.Deaf_still t i _ fun op hop=>by rw[So hop,hx.2];simp];exact hT.deaf i) rfl fun _ _=>rfl
theorem Akw:∀i I w cs b (k:Nat) c r s rc,Ae ty top I w->i < I.cnt->Ft i I cs b->cs[k]?=some c->c.send=none->c.chan=.chan (some r)->w.heap[r]?=some (Obj.chan 0 #[] true s rc false) ->
  ∃I',Ae ty top I' w/\C3 i I w b k c.zero false I' w/\(∀j,j≠i->G5 j I w I' w/\(E5 ty j I w->E5 ty j I' w))/\I'.cnt=I.cnt/\∀t x,x.g=i/\x.act=.recvClosed r->Iq I t->Iq I' (t++#[x]):=by
 intro i I w cs b k c r s rc hI hi hof hk hs hr hc;have stopped:∀ {p:Ph},I.ph=some p->r=p.stop->I.stp=true:=fun {p} hp e=>by
  have:=(hI.core p hp).stop;rw[<- e,hc] at this;injection this with this;injection this with _ _ q;exact q.symm
 cases hof with
 | idle p z hp hb ht h4 h5 =>
  subst h5;obtain⟨rfl,rfl⟩:=Di hk;obtain rfl:=Ed hr;have h:=hI.core p hp;have hcl:(I.tag p.f).closed=true:=by
   obtain⟨s',q⟩:=h.jobs;rw[q] at hc;injection hc with hc;injection hc
  refine⟨I.setTag i .out,Wa hI hp hb hi trivial id (by rw[ht];exact⟨rfl,rfl⟩) (.inl hcl) (by simp) (by simp[B6.at_]) (by rw[ht];simp[B6.at_]) (by rw[ht];simp),.out p hp hb ht rfl rfl rfl,fun j hj=>⟨Ai8 hj (by rw[hp];simp) fun p' hp'=>?_,fun hw=>Fw hw rfl (upd_ne _ _ hj) fun _ _=>rfl⟩,rfl,fun t x hx hT=>?_⟩
  ·obtain rfl:=Ag hp hp';have:=Gq (tag:=I.tag) .out hb (by have:=h.cntW;omega);rw[ht] at this;simp only[B6.cw] at this;omega
  ·exact(Abl hI hi hx hT).retag (by rw[hp];simp) (fun k l hk=>⟨hk.1,fun e=>hk.2.1 (by
    show upd I.tag i _ k=_;rw[upd_ne _ _ (fun q=>by subst q;rw[ht] at e;cases e)];exact e),hk.2.2⟩) fun _ _ _ _ q=>q.elim
 | peek p z hp h2 h3 h4 h5 =>
  subst h5;obtain⟨rfl,rfl⟩:=Di hk;have e:=Ed hr;exact⟨I,hI,.stop p hp h2 h3 (by rw[h4];rfl) rfl (stopped hp e) rfl rfl,fun j _=>⟨.refl _ _ _,id⟩,rfl,fun t x hx hT=>Abl hI hi hx hT⟩
 | feed p z z' hp h2 h3 h4 h5 h6 =>
  subst h6;rcases Vz hk with⟨rfl,rfl⟩|⟨rfl,rfl⟩
  ·simp[scase] at hs
  ·have e:=Ed hr;exact⟨I,hI,.stop p hp h2 h3 (by rw[h4];rfl) rfl (stopped hp e) rfl rfl,fun j _=>⟨.refl _ _ _,id⟩,rfl,fun t x hx hT=>Abl hI hi hx hT⟩
 | coll c z h1 h2 h3 h4 =>
  subst h4;obtain⟨rfl,rfl⟩:=Di hk;obtain rfl:=Ed hr;have hcl:I.tag c.f=.gone:=by
   obtain⟨s',q⟩:=(hI.coll c h1).dn;rw[q] at hc;injection hc with hc;injection hc with _ _ e;cases q:I.tag c.f<;>rw[q] at e<;>first|rfl|cases e
  obtain⟨q1,q2,q3⟩:=Zz hI h1 hcl;have hL:=hI.lull c h1 q3;refine⟨I.home,q1,.home c h1 h2 rfl q2 rfl rfl,fun j hj=>⟨⟨upd_ne _ _ (by omega),rfl,⟨rfl,rfl⟩,fun e=>?_⟩,fun hw=>?_⟩,rfl,fun t x hx hT=>Arz hI h1 hcl (by rw[<- h2];exact hx) hT⟩
  ·exfalso;by_cases q:j=c.f
   ·rw[q] at e;exact e hcl
   ·exact e (hL.rest j (by omega) q)
  ·obtain⟨p,q⟩:=hw.phase;rw[q3] at q;cases q
 | give c x z h1 h2 h3 h4 h5 =>
  subst h5;obtain⟨rfl,rfl⟩:=Di hk;simp[scase] at hs
theorem Akx:∀i I w cs,Ae ty top I w->i < I.cnt->Ft i I cs false->∃I',Ae ty top I' w/\C3 i I w false (-1) undef false I' w/\(∀j,j≠i->G5 j I w I' w/\(E5 ty j I w->E5 ty j I' w))/\I'.cnt=I.cnt/\∀t,Iq I t->Iq I' t:=by
 intro i I w cs hI hi h;cases h with
 | peek p z h1 h2 h3 h4 h5=>exact⟨I,hI,.peek p h1 h2 h3 rfl rfl rfl rfl rfl rfl,fun j _=>⟨.refl _ _ _,id⟩,rfl,fun t h=>h⟩
 | idle _ _ _ _ _ h=>cases h
 | feed _ _ _ _ _ _ h=>cases h
 | coll _ _ _ _ h=>cases h
 | give _ _ _ _ _ _ h=>cases h
theorem Agp (hI:Ae ty top I w) {c:Ir} (hc:I.col=some c) (hp:I.ph=some p):(I.tag c.f).ended=false:=by
 have:=(hI.core p hp).ftag;rw[(hI.mate p c hp hc).1] at this;cases e:I.tag c.f<;>rw[e] at this<;>first|rfl|exact this.elim
theorem Akz:∀i I w cases b,Ae ty top I w->Ft i I cases b->Open w cases:=by
 intro i I w cases b hI hof c hc;cases hof with
 | idle p z hp hb ht h4 h5 =>
  obtain⟨s,hj⟩:=(hI.core p hp).jobs;obtain rfl:c=rcase p.jobs z:=by rw[h5] at hc;simpa using hc
  exact⟨p.jobs,s,s,_,rfl,hj,by simp[rcase]⟩
 | peek p z hp h2 h3 h4 h5 =>
  obtain rfl:c=rcase p.stop z:=by rw[h5] at hc;simpa using hc
  exact⟨p.stop,0,0,_,rfl,(hI.core p hp).stop,by simp[rcase]⟩
 | feed p z z' hp h2 h3 h4 h5 h6 =>
  obtain⟨s,hj⟩:=(hI.core p hp).jobs;rw[h6] at hc;simp only[List.mem_toArray,List.mem_cons,List.not_mem_nil,or_false] at hc;rcases hc with rfl|rfl
  ·exact⟨p.jobs,s,s,_,rfl,hj,fun _=>by rw[<- h2,h3];rfl⟩
  ·exact⟨p.stop,0,0,_,rfl,(hI.core p hp).stop,by simp[rcase]⟩
 | coll c' z h1 h2 h3 h4 =>
  obtain⟨s,hj⟩:=(hI.coll c' h1).dn;obtain rfl:c=rcase c'.dn z:=by rw[h4] at hc;simpa using hc
  exact⟨c'.dn,s,s,_,rfl,hj,by simp[rcase]⟩
 | give c' x z h1 h2 h3 h4 h5 =>
  obtain⟨s,hj⟩:=(hI.coll c' h1).dn;obtain⟨p,hp,_⟩:=Rv hI h1 h3;obtain rfl:c=scase c'.dn (I.gv i) z:=by rw[h5] at hc;simpa using hc
  exact⟨c'.dn,s,s,_,rfl,hj,fun _=>Agp hI h1 hp⟩
theorem Aky:∀i h I w cs cs' b b' (k k':Nat) c c' v r s rc,Ae ty top I w->i≠h->i < I.cnt->h < I.cnt->Ft i I cs b->Ft h I cs' b'->cs[k]?=some c->cs'[k']?=some c'->c.send=some v->c'.send=none->c.chan=.chan (some r)->c'.chan=.chan (some r)->w.heap[r]?=some (Obj.chan 0 #[] false s rc false) ->
  ∃I',Ae ty top I' (w.setChan r 0 #[] false (s+1) (rc+1) false)/\C3 i I w b k undef false I' (w.setChan r 0 #[] false (s+1) (rc+1) false)/\C3 h I w b' k' v true I' (w.setChan r 0 #[] false (s+1) (rc+1) false) /\
   (∀j,j≠i->j≠h->G5 j I w I' (w.setChan r 0 #[] false (s+1) (rc+1) false)/\(E5 ty j I w->E5 ty j I' (w.setChan r 0 #[] false (s+1) (rc+1) false)))/\I'.cnt=I.cnt /\
   ∀t x1 x2 x3 x4,x1.g=i/\x1.act=.send r s->x2.g=h/\x2.act=.recv r rc 0->x3.g=i/\x3.act=.sendDone r s->x4.g=h/\x4.act=.recvDone r rc->Iq I t->Iq I' (t++#[x1,x2,x3,x4]):=by
 intro i h I w cs cs' b b' k k' c c' v r s rc hI hih hi hh i6 ic hk hk' hs hs' hr hr' hc;cases i6 with
 | idle p z _ _ _ _ h5=>subst h5;obtain⟨_,rfl⟩:=Di hk;simp[rcase] at hs
 | peek p z _ _ _ _ h5=>subst h5;obtain⟨_,rfl⟩:=Di hk;simp[rcase] at hs
 | coll c z _ _ _ h5=>subst h5;obtain⟨_,rfl⟩:=Di hk;simp[rcase] at hs
 | feed p z z' hp hf ht qz hn h6 =>
  subst h6;obtain⟨rfl,rfl⟩:k=0/\c=scase p.jobs (.int .i64 I.next) z:=by
   rcases Vz hk with q|⟨_,rfl⟩
   ·exact q
   ·simp[rcase] at hs
  obtain rfl:v=.int .i64 I.next:=by simpa [scase,eq_comm] using hs
  obtain rfl:=Pw hr;have hC:=hI.core p hp;have nz:p.b<=h/\I.tag h=.idle:=by
   cases ic with
   | idle p' z2 hp' q2 q3 _ _=>obtain rfl:=Ag hp hp';exact⟨q2,q3⟩
   | peek p' z2 hp' q2 _ _ _=>obtain rfl:=Ag hp hp';exact absurd (hf.trans q2.symm) hih
   | feed p' z2 z3 hp' q2 _ _ _ _=>obtain rfl:=Ag hp hp';exact absurd (hf.trans q2.symm) hih
   | coll c2 z2 q1 _ _ q4 =>
    subst q4;obtain⟨_,rfl⟩:=Di hk';exact absurd (Ed hr').symm (hI.dn_ne q1 hp).2.1
   | give c2 x z2 _ _ _ _ q5=>subst q5;obtain⟨_,rfl⟩:=Di hk';simp[scase] at hs'
  obtain⟨hb,mj⟩:=nz;obtain⟨s0,hj⟩:=hC.jobs;rw[hj] at hc;injection hc with hc;injection hc with _ _ _ e1 e2;subst e1 e2;subst hf;refine⟨I.pass p h,Aju hI hp ht hn hb hh mj _,.fed p h _ hp rfl ht qz rfl rfl rfl hb mj rfl rfl,.job p _ hp hb mj rfl rfl rfl hn rfl,fun j lh dc=>⟨Anc hI hp hn hb hh mj lh dc _,fun hw=>Og hw rfl (upd_ne _ _ dc) (fun m q=>⟨(if_neg dc).trans q,id⟩) fun p' hp'=>?_⟩,rfl,fun t x1 x2 x3 x4 h1 h2 h3 h4 hT=>Aq6 hI hp ht hb hh mj h1 h2 h3 h4 hT⟩;obtain rfl:=Ag hp hp';exact heap_setChan _ _ _ _ _ _ _ _ (Ne.symm hC.ne.1)
 | give c x z h1 h2 h3 h4 h5 =>
  subst h5;obtain⟨rfl,rfl⟩:=Di hk;obtain rfl:v=I.gv i:=by simpa [scase,eq_comm] using hs
  obtain rfl:=Pw hr;obtain⟨p,hp,hb,hi',hi0,ft⟩:=Rv hI h1 h3;have hC:=hI.coll c h1;obtain⟨n1,n2,n3⟩:=hI.dn_ne h1 hp;have nz:h=0/\k'=0:=by
   cases ic with
   | idle p' z2 hp' q2 q3 _ q5 =>
    obtain rfl:=Ag hp hp';subst q5;obtain⟨_,rfl⟩:=Di hk';exact absurd (Ed hr') n2
   | peek p' z2 hp' q2 _ _ q5 =>
    obtain rfl:=Ag hp hp';subst q5;obtain⟨_,rfl⟩:=Di hk';exact absurd (Ed hr') n3
   | feed p' z2 z3 hp' q2 _ _ _ q5 =>
    obtain rfl:=Ag hp hp';subst q5;rcases Vz hk' with⟨_,rfl⟩|⟨_,rfl⟩
    ·simp[scase] at hs'
    ·exact absurd (Ed hr') n3
   | coll c2 z2 q1 q2 _ q4 =>
    subst q4;exact⟨q2,(Di hk').1⟩
   | give c2 x z2 _ _ _ _ q5=>subst q5;obtain⟨_,rfl⟩:=Di hk';simp[scase] at hs'
  obtain⟨rfl,rfl⟩:=nz;obtain⟨s0,hj⟩:=hC.dn;rw[hj] at hc;injection hc with hc;injection hc with _ _ _ e1 e2;subst e1 e2;refine⟨I.taken i x,Ae6 hI h1 h3 _,.gave c x _ h1 h2 h3 rfl rfl rfl rfl rfl,.took c i x _ h1 rfl rfl rfl h3 rfl ft (((hI.core _ hp).busy.1 i x (.inr h3)).2.1) (hC.give i x h3) rfl rfl,fun j lh dc=>⟨Aiu hI h1 h3 dc lh _,fun hw=>Fw hw rfl (upd_ne _ _ lh) fun p' hp'=>?_⟩,rfl,fun t x1 x2 x3 x4 h1' h2' h3' h4' hT=>Ame hI h1 h3 h1' h2' h3' h4' hT⟩;obtain rfl:=Ag hp hp';exact heap_setChan _ _ _ _ _ _ _ _ (Ne.symm n1)
theorem Ak0:∀I w (S:Nat->Option (Array CommCase)),Ae ty top I w->(∀i,i < I.cnt->match S i with
   | .none=>(i≠0/\I.tag i=.gone)\/E5 ty i I w
   | .some cs=>Ft i I cs true/\∀c∈cs,∀r,c.chan=.chan (some r)->(∀cap buf s rc tm,w.heap[r]?≠some (Obj.chan cap buf true s rc tm))/\∀j cs',j≠i->j < I.cnt->S j=some cs'->∀c'∈cs',c'.chan=.chan (some r)->c'.send.isSome=c.send.isSome)->False:=by
 intro I w S hI dg;have hS:=dg;have main0:I.ph=none->∃c z,I.col=some c/\S 0=some #[rcase c.dn z]:=fun hp=>by
  have h0:=hS 0 hI.cnt;cases e:S 0 with
  | none =>
   rw[e] at h0;rcases h0 with⟨h0,_⟩|hw
   ·exact absurd rfl h0
   ·obtain⟨p,h0⟩:=hw.phase;rw[hp] at h0;cases h0
  | some cs =>
   rw[e] at h0;cases h0.1 with
   | idle p _ q=>rw[hp] at q;cases q
   | peek p _ q=>rw[hp] at q;cases q
   | feed p _ _ q=>rw[hp] at q;cases q
   | coll c z q1 _ _ q4=>exact⟨c,z,q1,by rw[q4]⟩
   | give c x z _ q=>exact absurd rfl q
 cases hp:I.ph with
 | none =>
  obtain⟨c,z,hc,e⟩:=main0 hp;have h0:=hS 0 hI.cnt;rw[e] at h0;have hC:=hI.coll c hc;have hL:=hI.lull c hc hp;have hf:=hS c.f hC.f.2.1;cases ef:S c.f with
  | none =>
   rw[ef] at hf;rcases hf with⟨_,q⟩|hw
   ·obtain⟨s,hd⟩:=hC.dn;rw[q] at hd;exact(h0.2 (rcase c.dn z) (by simp) c.dn rfl).1 _ _ _ _ _ hd
   ·obtain⟨p,q⟩:=hw.phase;rw[hp] at q;cases q
  | some cs =>
   rw[ef] at hf;have pz:=hC.f.1;cases hf.1 with
   | idle p _ q=>rw[hp] at q;cases q
   | peek p _ q=>rw[hp] at q;cases q
   | feed p _ _ q=>rw[hp] at q;cases q
   | coll c' _ _ q=>omega
   | give c' x _ _ _ q =>
    rcases hL.at_ with⟨r,_⟩|⟨r|r,_⟩<;>(rw[q] at r;cases r)
 | some p =>
  have h:=hI.core p hp;have hfc:p.f < I.cnt:=by have:=h.fd;have:=h.cnt;omega
  have noq:∀ {p':Ph} {i m:Nat},I.ph=some p'->p'.kind=.seek->m < 2->I.sk.ml m i=.que->(I.sk.mw m).q=0->False:=fun {p' i m} hp' hk hm hq h0=>by
   obtain rfl:=Ag hp hp';have hS:=h.seek hk;obtain⟨j,j1,j2,a1,a2,a3⟩:=(hS.mi m hm).live hq h0;obtain⟨x,hx⟩:=hS.busy m j hm a1;have hjc:j < I.cnt:=Nat.lt_of_not_le fun q=>by rw[hI.un j q] at hx;cases hx
   have hj:=hS.two j;have hSj:=dg j hjc;cases e:S j with
   | none =>
    rw[e] at hSj;rcases hSj with⟨_,q⟩|hw
    ·rw[hx] at q;cases q
    ·cases hw with
     | wg p'' st _ _ q=>rw[hx] at q;cases q
     | que p'' m' _ _ hm' q _ =>
      have q':I.sk.ml m' j≠.off/\I.sk.ml m' j≠.fresh:=by rw[q];simp
      by_cases em:m'=m
      ·subst em;exact a3 q
      ·rcases (show (m=0/\m'=1)\/(m=1/\m'=0) by omega) with⟨rfl,rfl⟩|⟨rfl,rfl⟩
       ·rcases hj with r|r|r|r
        ·exact a1 r
        ·exact a2 r
        ·exact q'.1 r
        ·exact q'.2 r
       ·rcases hj with r|r|r|r
        ·exact q'.1 r
        ·exact q'.2 r
        ·exact a1 r
        ·exact a2 r
   | some cs =>
    rw[e] at hSj;cases hSj.1 with
    | idle _ _ _ _ q=>rw[hx] at q;cases q
    | peek _ _ _ _ q=>rw[hx] at q;cases q
    | feed _ _ _ _ _ q=>rw[hx] at q;cases q
    | coll c z q1 q2=>rw[q2,(hI.coll c q1).tag0] at hx;cases hx
    | give _ _ _ _ _ q=>rw[hx] at q;cases q
  have hnog:∀i c x z,i < I.cnt->i≠0->I.col=some c->S i=some #[scase c.dn (I.gv i) z]->I.tag i=.give x->False:=fun i c x z hi hi0 hc e ht=>by
   have h0:=hS 0 hI.cnt;have hC:=hI.coll c hc;cases e0:S 0 with
   | none =>
    rw[e0] at h0;rcases h0 with⟨q,_⟩|hw
    ·exact q rfl
    ·cases hw with
     | wg p' st q1 q2 =>
      obtain rfl:=Ag hp q1;have:=(hI.mate p c hp hc).1;have:=hC.f.1;omega
     | que p' m q1 q2 q3 q4 q5=>exact noq q1 q2 q3 q4 q5
   | some cs =>
    rw[e0] at h0;cases h0.1 with
    | idle p' _ q1 _ q2=>rw[hC.tag0] at q2;cases q2
    | peek p' _ q1 _ q2=>rw[hC.tag0] at q2;cases q2
    | feed p' _ _ q1 _ q2=>rw[hC.tag0] at q2;cases q2
    | give c' x _ _ q=>exact q rfl
    | coll c' z' q1 _ _ q4 =>
     obtain rfl:=Cv hc q1;subst q4;have:=(h0.2 (rcase c.dn z') (by simp) c.dn rfl).2 i _ hi0 hi e (scase c.dn (I.gv i) z) (by simp) rfl;simp[rcase,scase] at this
  have hwk:∀i,p.b<=i->i < I.cnt->I.tag i≠.gone->∃cs z,S i=some cs/\I.tag i=.idle/\cs=#[rcase p.jobs z]:=by
   intro i hb hi hg;have hi':=hS i hi;have zk:=h.fd;cases e:S i with
   | none =>
    rw[e] at hi';rcases hi' with⟨_,q⟩|hw
    ·exact absurd q hg
    ·cases hw with
     | wg p' st q1 q2=>obtain rfl:=Ag hp q1;omega
     | que p' m q1 q2 q3 q4 q5=>exact(noq q1 q2 q3 q4 q5).elim
   | some cs =>
    rw[e] at hi';cases hi'.1 with
    | idle p' z q1 _ q2 _ q3=>obtain rfl:=Ag hp q1;exact⟨cs,z,rfl,q2,q3⟩
    | peek p' _ q1 q2=>obtain rfl:=Ag hp q1;omega
    | feed p' _ _ q1 q2=>obtain rfl:=Ag hp q1;omega
    | coll c _ _ q=>omega
    | give c x z q1 q2 q3 _ q5=>exact(hnog i c x z hi q2 q1 (by rw[e,q5]) q3).elim
  have tq:(I.tag p.f).closed=true->∀i,p.b<=i->i < I.cnt->I.tag i=.gone:=by
   intro hcl i hb hi;refine Classical.byContradiction fun hg=>?_;obtain⟨cs,z,e,_,rfl⟩:=hwk i hb hi hg;have hi':=hS i hi;rw[e] at hi';obtain⟨s,hj⟩:=h.jobs;rw[hcl] at hj;exact(hi'.2 (rcase p.jobs z) (by simp) p.jobs rfl).1 _ _ _ _ _ hj
  have hf:=hS p.f hfc;cases e:S p.f with
  | none =>
   rw[e] at hf;rcases hf with⟨_,q⟩|hw
   ·have:=h.ftag;rw[q] at this;exact this
   ·obtain⟨st,q3,q4⟩:∃st,I.tag p.f=.reg/\WgAt ty p.wg w st 0:=by
     cases hw with
     | wg p' st q1 _ q3 q4=>obtain rfl:=Ag hp q1;exact⟨st,q3,q4⟩
     | que p' m q1 q2 q3 q4 q5=>exact(noq q1 q2 q3 q4 q5).elim
    have hall:=tq (by rw[q3];rfl);have wu:∀i,p.b<=i->I.tag i=.gone:=fun i hb=>by
     by_cases hi:i < I.cnt
     ·exact hall i hb hi
     ·exact hI.un i (by omega)
    obtain⟨st',sm,m1,m2⟩:=h.wgm;obtain⟨e1,e2⟩:=Go.ConcR.WgAt.unique q4 m1;cases m2 with
    | opn q=>rw[q3] at q;exact q
    | reg _ _ q =>
     obtain⟨i,hb,_,q⟩:=Ath q;rw[wu i hb] at q;simp[B6.cw] at q
    | last L k _ q5 q6 _=>rw[wu L q5] at q6;cases q6
    | sema=>cases e2
    | fin q=>rw[q3] at q;cases q
  | some cs =>
   rw[e] at hf;have hft:=h.ftag;have zk:=h.fd;cases hf.1 with
   | idle p' _ q1 q2=>obtain rfl:=Ag hp q1;omega
   | peek p' _ _ _ _ q=>cases q
   | coll c z q1 q2 _ q4 =>
    have:=(hI.mate p c hp q1).1;have:=(hI.coll c q1).f.1;omega
   | give c x z q1 q2 q3=>rw[q3] at hft;exact hft
   | feed p' z z' q1 _ q2 _ q4 q5 =>
    obtain rfl:=Ag hp q1;subst q5;have hst:I.cnt=p.b+p.W:=by have:=h.cnt;unfold Ab.started at this;rw[q2] at this;exact this
    have hbc:p.b < I.cnt:=by have:=h.pos;omega
    have he:=h.early (by rw[q2];rfl) p.b (Nat.le_refl _) hbc;obtain⟨cs',z2,e2,_,rfl⟩:=hwk p.b (Nat.le_refl _) hbc (fun q=>by rw[q] at he;exact he);have:=(hf.2 (scase p.jobs (.int .i64 I.next) z) (by simp) p.jobs rfl).2 p.b _ (by have:=h.fd;omega) hbc e2 (rcase p.jobs z2) (by simp) rfl;simp[rcase,scase] at this
theorem Ahz (P:Program) (ty:TypeId) (top:Nat) (Post:Value->World->Prop):(Al P ty top Post).Ok where
 refl:=G5.refl
 trans:=fun _ _ _ _ _ _ _ h h'=>h.trans h'
 draw:=G5.at
 draw_inv:=fun _ _ d h=>h.at d
 draw_wait:=fun _ _ _ _ h=>Fw h rfl rfl fun _ _=>rfl
 gone_keep:=fun _ _ _ _ _ h g=>⟨g.1,h.tag.trans g.2⟩
 gone_main:=fun _ g=>g.1 rfl
 deaf_keep:=fun _ _ _ _ _ h=>h.deaf
 tr_deaf:=fun _ _ i h _=>h.deaf i
 leave:=Akl
 made:=Akz
 meet:=Aky
 shut:=Akw
 none:=Akx
 live:=Ak0
end
end Go.Proofs.YtbicafgmfgdckaaGreatDoor
